/- What is proved: powers by squaring modulo a monic polynomial come to the same as the program's powers by steps; the program's cutting of a polynomial out of any numbers (towards the plain statement behind the law IrredField). Conditions: those that each theorem names. -/
import Derived.Test.YtonacfjhfkdgbaaPureIrredFieldE
namespace Go.Proofs.Ytonacfjhfkdgbaa.Pure
open Go.RowKit Go.Proofs.Ytonacfjhfkdgbaa.PIrredField Go.Proofs.YtonacfjhfkdgbaaW.PrintWords Go.Proofs.YtonacfjhfkdgbaaW.PrintLast Go.Proofs.Ytonacfjhfkdgbaa.PolyZ

/-! ### Congruence by m (and p) -/
def Fin_ (p : Int) (f : Ser) : Prop := ∃ d, Dg p d f
def MQ (p : Int) (m f g : Ser) : Prop := Dv p m (fun n => f n - g n)
theorem Dv.Z (p : Int) (m : Ser) : Dv p m Z := ⟨PolyZ.Z, ⟨0, fun n _ => by simp [PolyZ.Z]⟩, Cg.of_eq fun n => by rw [conv_Z]; rfl⟩
theorem MQ.of_cg {p : Int} {m f g : Ser} (h : Cg p f g) : MQ p m f g := by
  refine Dv.cg (Dv.Z p m) ?_
  obtain ⟨t, ht⟩ := h
  exact ⟨t, fun n => by have := ht n; show f n - g n = 0 + p * t n; omega⟩
theorem Dv.neg {p : Int} {m f : Ser} (h : Dv p m f) : Dv p m (fun n => - f n) := by
  obtain ⟨q, ⟨d, hd⟩, t, ht⟩ := h
  refine ⟨fun n => (-1) * q n, ⟨d, fun n hn => ?_⟩, fun n => - t n, fun n => ?_⟩
  · exact emod_mul_zero _ (hd n hn)
  · have := ht n; show - f n = conv (fun n => (-1) * q n) m n + p * (- t n); rw [conv_sml]; grind
theorem MQ.symm {p : Int} {m f g : Ser} (h : MQ p m f g) : MQ p m g f := (Dv.neg h).cg (Cg.of_eq fun n => by show g n - f n = -(f n - g n); omega)
theorem MQ.trans {p : Int} {m f g h : Ser} (a : MQ p m f g) (b : MQ p m g h) : MQ p m f h := (Dv.add a b).cg (Cg.of_eq fun n => by show f n - h n = (f n - g n) + (g n - h n); omega)
theorem conv_subl (f f' g : Ser) (n : Nat) : conv (fun i => f i - f' i) g n = conv f g n - conv f' g n := by
  have := conv_addl f (fun i => (-1) * f' i) g n
  rw [conv_sml] at this
  have e : (fun n => f n - f' n) = (fun i => f i + (-1) * f' i) := by funext i; omega
  rw [e, this]; omega
theorem MQ.mul {p : Int} {m f f' g g' : Ser} (a : MQ p m f f') (b : MQ p m g g') (hf : Fin_ p f) (hg : Fin_ p g') : MQ p m (conv f g) (conv f' g') := by
  refine Dv.cg (Dv.add (Dv.mul b hf) (Dv.mul a hg)) (Cg.of_eq fun n => ?_)
  show conv f g n - conv f' g' n = conv f (fun i => g i - g' i) n + conv g' (fun i => f i - f' i) n
  rw [conv_comm f (fun i => g i - g' i), conv_comm g' (fun i => f i - f' i), conv_subl, conv_subl, conv_comm g f, conv_comm g' f]; omega
theorem Fin_.conv {p : Int} {f g : Ser} (a : Fin_ p f) (b : Fin_ p g) : Fin_ p (conv f g) := by
  obtain ⟨d, hd⟩ := a; obtain ⟨e, he⟩ := b
  exact ⟨_, Dg.mul d (hd.mono (by omega)) he⟩
theorem Fin_.cf (p : Int) (l : List Int) : Fin_ p (cf l) := Dg_cf' l
theorem Fin_.one (p : Int) : Fin_ p one := by rw [← cf_one]; exact Fin_.cf p [1]
def spow (a : Ser) : Nat → Ser
  | 0 => one
  | n + 1 => conv (spow a n) a
theorem Fin_.spow {p : Int} {a : Ser} (h : Fin_ p a) (n : Nat) : Fin_ p (spow a n) := by
  induction n with
  | zero => exact Fin_.one p
  | succ n ih => exact Fin_.conv ih h
theorem MQ.spow {p : Int} {m a b : Ser} (h : MQ p m a b) (ha : Fin_ p a) (hb : Fin_ p b) (n : Nat) : MQ p m (spow a n) (spow b n) := by
  induction n with
  | zero => exact MQ.of_cg (Cg.refl p _)
  | succ n ih => exact MQ.mul ih h (ha.spow n) hb
theorem conv_assoc' (f g h : Ser) : conv (conv f g) h = conv f (conv g h) := funext fun n => conv_assoc f g h n
theorem spow_sq (a : Ser) (n : Nat) : spow (conv a a) n = spow a (2 * n) := by
  induction n with
  | zero => rfl
  | succ n ih =>
    show conv (spow (conv a a) n) (conv a a) = conv (conv (spow a (2 * n)) a) a
    rw [ih, conv_assoc']

/-! ### Products modulo m by rows -/
def step (p : Int) (k : Nat) (m a : List Int) (c : Int) (r : List Int) : List Int := (List.range k).map fun i => (c * cf a i + (if i = 0 then 0 else cf r (i - 1)) - cf r (k - 1) * cf m i) % p
def mm (p : Int) (k : Nat) (m a : List Int) : List Int → List Int
  | [] => []
  | c :: b => step p k m a c (mm p k m a b)
theorem mm_len (p : Int) (k : Nat) (m a b : List Int) : (mm p k m a b).length ≤ k := by
  cases b with
  | nil => simp [mm]
  | cons c b => simp [mm, step]
theorem mm_in {p : Int} (hp : 0 < p) (k : Nat) (m a b : List Int) : In p (mm p k m a b) := by
  cases b with
  | nil => intro n; show 0 ≤ (0 : Int) ∧ (0 : Int) < p; omega
  | cons c b =>
    intro n
    simp only [mm, step]
    rw [cf_tab]
    split
    · exact ⟨Int.emod_nonneg _ (by omega), Int.emod_lt_of_pos _ hp⟩
    · omega
theorem mm_spec {p : Int} {k : Nat} (hk : 0 < k) {m a : List Int} (hm : m.length = k + 1) (hm1 : cf m k = 1) (ha : a.length ≤ k) (b : List Int) : ∃ u, (∃ d, Dg p d u) ∧ Cg p (conv (cf b) (cf a)) (fun n => conv u (cf m) n + cf (mm p k m a b) n) := by
  induction b with
  | nil => exact ⟨Z, ⟨0, fun n _ => by simp [Z]⟩, Cg.of_eq fun n => by rw [cf_nil, conv_Z, conv_Z]; rfl⟩
  | cons c b ih =>
    obtain ⟨u, ⟨d, hd⟩, hu⟩ := ih
    obtain ⟨r, hr⟩ : ∃ r, r = mm p k m a b := ⟨_, rfl⟩
    have hrl : r.length ≤ k := by rw [hr]; exact mm_len p k m a b
    refine ⟨cons (cf r (k - 1)) u, ⟨_, dg_cons _ hd⟩, ?_⟩
    have hc := cg_cons 0 hu
    rw [← hr] at hc
    obtain ⟨t, ht⟩ := hc
    simp only [mm]
    rw [← hr, cf_cons]
    refine Cg.of_mod fun n => ?_
    rw [conv_cons, conv_cons, ht n]
    simp only [step]
    rw [cf_tab]
    have e0 : cons 0 (fun n => conv u (cf m) n + cf r n) n = cons 0 (conv u (cf m)) n + (if n = 0 then 0 else cf r (n - 1)) := by
      cases n with
      | zero => rfl
      | succ n => simp [cons]
    rw [e0]
    generalize cons 0 (conv u (cf m)) n = X
    by_cases h1 : n < k
    · rw [if_pos h1, Int.add_emod_emod]
      generalize (if n = 0 then 0 else cf r (n - 1)) = Y
      have : cf r (k - 1) * cf m n + X + (c * cf a n + Y - cf r (k - 1) * cf m n) = c * cf a n + (X + Y) := by omega
      rw [this, ← Int.add_assoc, ← Int.add_assoc, Int.add_mul_emod_self_left]
    · rw [if_neg h1, cf_out (l := a) (show a.length ≤ n by omega)]
      by_cases h2 : n = k
      · subst h2
        rw [if_neg (by omega), hm1]
        have : c * 0 + (X + cf r (n - 1) + p * t n) = cf r (n - 1) * 1 + X + 0 + p * t n := by grind
        rw [this, Int.add_mul_emod_self_left]
      · rw [if_neg (by omega), cf_out (l := r) (show r.length ≤ n - 1 by omega), cf_out (l := m) (show m.length ≤ n by omega)]
        have : c * 0 + (X + 0 + p * t n) = cf r (k - 1) * 0 + X + 0 + p * t n := by grind
        rw [this, Int.add_mul_emod_self_left]
theorem mq_of_rem {p : Int} {m f : Ser} {r : Ser} {u : Ser} (hu : ∃ d, Dg p d u) (h : Cg p f (fun n => conv u m n + r n)) : MQ p m f r := by
  refine ⟨u, hu, ?_⟩
  obtain ⟨t, ht⟩ := h
  exact ⟨t, fun n => by have : f n = conv u m n + r n + p * t n := ht n; show f n - r n = conv u m n + p * t n; omega⟩
theorem mm_mq {p : Int} {k : Nat} (hk : 0 < k) {m a : List Int} (hm : m.length = k + 1) (hm1 : cf m k = 1) (ha : a.length ≤ k) (b : List Int) : MQ p (cf m) (conv (cf b) (cf a)) (cf (mm p k m a b)) := by
  obtain ⟨u, hu, h⟩ := mm_spec (p := p) hk hm hm1 ha b
  exact mq_of_rem hu h
def pw (p : Int) (k : Nat) (m : List Int) : Nat → List Int → Nat → List Int
  | 0, _, _ => [1]
  | F + 1, a, n => if n = 0 then [1] else if n % 2 = 0 then pw p k m F (mm p k m a a) (n / 2) else mm p k m a (pw p k m F (mm p k m a a) (n / 2))
theorem pw_spec {p : Int} (hp : 1 < p) {k : Nat} (hk : 0 < k) {m : List Int} (hm : m.length = k + 1) (hm1 : cf m k = 1) (F : Nat) : ∀ (a : List Int) (n : Nat), a.length ≤ k → n < 2 ^ F → (pw p k m F a n).length ≤ k ∧ In p (pw p k m F a n) ∧ MQ p (cf m) (spow (cf a) n) (cf (pw p k m F a n)) := by
  induction F with
  | zero =>
    intro a n ha hn
    obtain rfl : n = 0 := by simp at hn; exact hn
    refine ⟨by simp [pw]; omega, sing_ok ⟨by omega, hp⟩, ?_⟩
    simp only [pw]
    rw [cf_one]; exact MQ.of_cg (Cg.refl p _)
  | succ F ih =>
    intro a n ha hn
    simp only [pw]
    by_cases h0 : n = 0
    · subst h0
      rw [if_pos rfl]
      refine ⟨by simp; omega, sing_ok ⟨by omega, hp⟩, ?_⟩
      rw [cf_one]; exact MQ.of_cg (Cg.refl p _)
    · rw [if_neg h0]
      obtain ⟨g1, g2, g3⟩ := ih (mm p k m a a) (n / 2) (mm_len _ _ _ _ _) (by rw [Nat.pow_succ] at hn; omega)
      have hsq : MQ p (cf m) (spow (cf a) (2 * (n / 2))) (cf (pw p k m F (mm p k m a a) (n / 2))) := by
        rw [← spow_sq]
        exact (MQ.spow (mm_mq hk hm hm1 ha a) (Fin_.conv (Fin_.cf p a) (Fin_.cf p a)) (Fin_.cf p _) _).trans g3
      by_cases h2 : n % 2 = 0
      · rw [if_pos h2]
        refine ⟨g1, g2, ?_⟩
        rwa [show 2 * (n / 2) = n by omega] at hsq
      · rw [if_neg h2]
        refine ⟨mm_len _ _ _ _ _, mm_in (by omega) _ _ _ _, ?_⟩
        have e : n = 2 * (n / 2) + 1 := by omega
        have h3 : MQ p (cf m) (spow (cf a) (2 * (n / 2) + 1)) (conv (cf (pw p k m F (mm p k m a a) (n / 2))) (cf a)) := MQ.mul hsq (MQ.of_cg (Cg.refl p _)) (Fin_.spow (Fin_.cf p a) _) (Fin_.cf p a)
        rw [← e] at h3
        exact h3.trans (mm_mq hk hm hm1 ha _)
def frob (p : Int) (k : Nat) (m : List Int) : Nat → List Int
  | 0 => [0, 1]
  | i + 1 => pw p k m 11 (frob p k m i) p.toNat

/-! ### Rows that are the same -/
theorem equal_loop (a : List Int) (ha : a.length < 1000000) (m : Nat) : ∀ i : Nat, i + m = a.length → Ev (fun k => slices_Equal_int_int.l0 k a a (a.length : Int) (i : Int)) true := by
  induction m with
  | zero =>
    intro i hi
    refine Ev.succ ((Ev.const _).eq fun k => ?_)
    simp only [slices_Equal_int_int.l0]
    rw [if_neg (by omega)]
  | succ m ih =>
    intro i hi
    refine Ev.succ ((ih (i + 1) (by omega)).eq fun k => ?_)
    simp only [slices_Equal_int_int.l0]
    rw [if_pos (by omega), if_pos (by omega), if_pos (by omega), if_pos (by omega), w64e ((i : Int) + 1) ((i + 1 : Nat) : Int) (by omega) (by omega) (by omega)]
    simp
theorem equal_self (a : List Int) (ha : a.length < 1000000) : Ev (fun k => slices_Equal_int_int.f k a a) true :=
  (equal_loop a ha a.length 0 (by omega)).eq fun k => if_pos rfl

/-! ### A polynomial out of any numbers -/
theorem short_loop (l : List Int) (hl : l.length < 1000000) (m : Nat) : ∀ i s : Nat, i + m = l.length → s ≤ i → (∀ n, s ≤ n → n < i → cf l n = 0) → (s = 0 ∨ cf l (s - 1) ≠ 0) →
    ∃ t, Ev (fun k => wholeref_Short.l0 k l (s : Int) l (l.length : Int) (i : Int)) t ∧ TL t ∧ t.length ≤ l.length ∧ ∀ n, cf t n = cf l n := by
  induction m with
  | zero =>
    intro i s hi hs hz ht
    refine ⟨l.take s, Ev.succ ((Ev.const _).eq fun k => ?_), ?_, by simp; omega, fun n => ?_⟩
    · simp only [wholeref_Short.l0]
      rw [if_neg (by omega), if_pos (by omega), if_pos (by omega), Int.toNat_natCast, clone_some (by simp; omega)]
      rfl
    · by_cases h0 : s = 0
      · subst h0; left; simp
      · right
        rw [List.length_take, Nat.min_eq_left (by omega), cf_take, if_pos (by omega)]
        rcases ht with h | h
        · exact absurd h h0
        · exact h
    · rw [cf_take]
      split
      · rfl
      · by_cases h5 : n < i
        · exact (hz n (by omega) h5).symm
        · exact (cf_out (by omega)).symm
  | succ m ih =>
    intro i s hi hs hz ht
    by_cases h0 : cf l i = 0
    · obtain ⟨t, t1, t2⟩ := ih (i + 1) s (by omega) (by omega) (fun n h1 h2 => by
        rcases Nat.eq_or_lt_of_le (Nat.le_of_lt_succ h2) with rfl | h3
        · exact h0
        · exact hz n h1 h3) ht
      refine ⟨t, Ev.succ (t1.eq fun k => ?_), t2⟩
      simp only [wholeref_Short.l0]
      rw [if_pos (by omega), if_pos (by omega), if_pos (by omega), rd_cf, Int.toNat_natCast, if_pos h0, w64e ((i : Int) + 1) ((i + 1 : Nat) : Int) (by omega) (by omega) (by omega)]
    · obtain ⟨t, t1, t2⟩ := ih (i + 1) (i + 1) (by omega) (by omega) (fun n h1 h2 => by omega) (.inr h0)
      refine ⟨t, Ev.succ (t1.eq fun k => ?_), t2⟩
      simp only [wholeref_Short.l0]
      rw [if_pos (by omega), if_pos (by omega), if_pos (by omega), rd_cf, Int.toNat_natCast, if_neg h0, w64e ((i : Int) + 1) ((i + 1 : Nat) : Int) (by omega) (by omega) (by omega)]
theorem polyOf_loop {p : Int} (hp1 : 1 < p) (hp2 : p ≤ 997) (x : List Int) (hx : x.length < 1000) (m : Nat) : ∀ (i : Nat) (r : List Int), i + m = x.length → r.length = i → In p r →
    ∃ t, Ev (fun k => wholekeep_polyOf.l0 k p r x (x.length : Int) (i : Int)) t ∧ In p t ∧ TL t ∧ t.length ≤ x.length := by
  induction m with
  | zero =>
    intro i r hi hr hin
    obtain ⟨t, t1, t2, t3, t4⟩ := short_loop r (by omega) r.length 0 0 (by omega) (by omega) (fun n h1 h2 => by omega) (.inl rfl)
    refine ⟨t, Ev.succ ((Ev.bind (G := fun y _ => some y) (show Ev (fun k => wholeref_Short.f k r) t from t1) (Ev.const t)).eq fun k => ?_), fun n => by rw [t4]; exact hin n, t2, by omega⟩
    simp only [wholekeep_polyOf.l0]
    rw [if_neg (by omega)]
  | succ m ih =>
    intro i r hi hr hin
    have h1 := Int.emod_nonneg (cf x i) (show p ≠ 0 by omega)
    have h2 := Int.emod_lt_of_pos (cf x i) (show 0 < p by omega)
    obtain ⟨t, t1, t2⟩ := ih (i + 1) (r ++ [cf x i % p]) (by omega) (by simp; omega) (fun n => by
      by_cases h3 : n < r.length
      · have : cf (r ++ [cf x i % p]) n = cf r n := by simp [cf, List.getD, List.getElem?_append_left h3]
        rw [this]; exact hin n
      · have : cf (r ++ [cf x i % p]) n = cf [cf x i % p] (n - r.length) := by simp [cf, List.getD, List.getElem?_append_right (Nat.le_of_not_lt h3)]
        rw [this]; exact sing_ok ⟨h1, h2⟩ _)
    refine ⟨t, Ev.succ (t1.eq fun k => ?_), t2⟩
    have hmx : mx 1 p = p := by unfold mx; rw [if_pos hp1]
    simp only [wholekeep_polyOf.l0]
    rw [if_pos (by omega), if_pos (by omega), if_pos (by omega), hmx, rd_cf, Int.toNat_natCast, within_some _ _ (by omega) (by omega)]
    simp only [Option.bind_some]
    rw [if_pos (by omega), w64e ((i : Int) + 1) ((i + 1 : Nat) : Int) (by omega) (by omega) (by omega)]
theorem polyOf_spec {p : Int} (hp1 : 1 < p) (hp2 : p ≤ 997) (l : List Int) (n : Nat) (hn : n < 1000) : ∃ t, Ev (fun k => wholekeep_polyOf.f k p l (n : Int)) t ∧ In p t ∧ TL t ∧ t.length ≤ n := by
  obtain ⟨q, hq⟩ : ∃ q : Nat, q = min l.length n := ⟨_, rfl⟩
  obtain ⟨t, t1, t2, t3, t4⟩ := polyOf_loop hp1 hp2 (l.take q) (by simp; omega) (l.take q).length 0 [] (by omega) rfl (fun n => by show 0 ≤ (0 : Int) ∧ (0 : Int) < p; omega)
  refine ⟨t, t1.eq fun k => ?_, t2, t3, by simp at t4; omega⟩
  have hmn : mn (l.length : Int) (n : Int) = (q : Int) := by unfold mn; split <;> omega
  unfold wholekeep_polyOf.f
  rw [hmn, if_pos (by omega), if_pos (by omega), Int.toNat_natCast]
  rfl

/-! ### The rows of the table -/
def frobOk (r : Row) : Bool := cf r.f r.n == 1 && (List.range r.n).all fun i => cf (frob r.p r.n r.f r.n) i == (if i = 1 then 1 else 0)
def rowAll (r : Row) : Bool := decide (2 ≤ r.n) && decide (r.n ≤ 5) && plist.contains r.p && rowOk r && frobOk r
end Go.Proofs.Ytonacfjhfkdgbaa.Pure
