/- What is proved: what the program's trimming and dividing of polynomials over a prime field come to, told of their coefficients as series (towards the plain statement behind the law IrredField). Conditions: those that each theorem names. -/
import Derived.Test.YtonacfjhfkdgbaaPIrredFieldx6
import Derived.Test.YtonacfjhfkdgbaaPolyZ
namespace Go.Proofs.Ytonacfjhfkdgbaa.Pure
open Go.RowKit Go.Proofs.Ytonacfjhfkdgbaa.PIrredField Go.Proofs.YtonacfjhfkdgbaaW.PrintWords Go.Proofs.YtonacfjhfkdgbaaW.PrintLast Go.Proofs.Ytonacfjhfkdgbaa.PolyZ

/-! ### From some number of rounds on -/
def Ev {α : Type} (F : Nat → Option α) (r : α) : Prop := ∃ K, ∀ k, K ≤ k → F k = some r
theorem Ev.succ {α : Type} {F : Nat → Option α} {r : α} (h : Ev (fun k => F (k + 1)) r) : Ev F r := by
  obtain ⟨K, h⟩ := h
  refine ⟨K + 1, fun k hk => ?_⟩
  cases k with
  | zero => omega
  | succ k => exact h k (by omega)
theorem Ev.bind {α β : Type} {F : Nat → Option α} {G : α → Nat → Option β} {a : α} {b : β} (h : Ev F a) (g : Ev (G a) b) : Ev (fun k => (F k).bind fun x => G x k) b := by
  obtain ⟨K, h⟩ := h; obtain ⟨L, g⟩ := g
  refine ⟨K + L, fun k hk => ?_⟩
  show (F k).bind _ = _
  rw [h k (by omega)]
  exact g k (by omega)
theorem Ev.const {α : Type} (r : α) : Ev (fun _ => some r) r := ⟨0, fun _ _ => rfl⟩
theorem Ev.eq {α : Type} {F G : Nat → Option α} {r : α} (h : Ev F r) (e : ∀ k, G k = F k) : Ev G r := by
  obtain ⟨K, h⟩ := h; exact ⟨K, fun k hk => (e k).trans (h k hk)⟩
theorem Ev.of {α : Type} {F : Nat → Option α} {r : α} (m : ∀ k, LeO (F k) (F (k + 1))) {K : Nat} (h : F K = some r) : Ev F r := by
  refine ⟨K, fun k hk => ?_⟩
  induction k with
  | zero => have : K = 0 := by omega
            subst this; exact h
  | succ k ih =>
    rcases Nat.eq_or_lt_of_le hk with rfl | h2
    · exact h
    · exact m k r (ih (by omega))
theorem Ev.ex {α : Type} {F : Nat → Option α} {r : α} (h : Ev F r) : ∃ k, F k = some r := by
  obtain ⟨K, h⟩ := h; exact ⟨K, h K (Nat.le_refl _)⟩
theorem Ev.uniq {α : Type} {F : Nat → Option α} {r s : α} (h : Ev F r) (g : Ev F s) : r = s := by
  obtain ⟨K, h⟩ := h; obtain ⟨L, g⟩ := g
  have := (h (K + L) (by omega)).symm.trans (g (K + L) (by omega))
  exact Option.some.inj this

/-! ### Coefficients -/
def cf (l : List Int) : Ser := fun n => l.getD n 0
theorem rd_cf (l : List Int) (i : Int) : rd l i = cf l i.toNat := rfl
theorem cf_out {l : List Int} {n : Nat} (h : l.length ≤ n) : cf l n = 0 := by simp [cf, List.getD, List.getElem?_eq_none h]
theorem cf_set (l : List Int) (j n : Nat) (v : Int) : cf (l.set j v) n = if n = j ∧ j < l.length then v else cf l n := by
  unfold cf List.getD
  rw [List.getElem?_set]
  by_cases h : j = n
  · subst h
    by_cases h2 : j < l.length
    · simp [h2]
    · simp [h2]
  · rw [if_neg h, if_neg (by omega)]
theorem cf_take (l : List Int) (j n : Nat) : cf (l.take j) n = if n < j then cf l n else 0 := by
  unfold cf List.getD
  rw [List.getElem?_take]
  split <;> rfl
theorem cf_rep (j n : Nat) : cf (List.replicate j 0) n = 0 := by
  unfold cf List.getD
  rw [List.getElem?_replicate]
  split <;> rfl
theorem cf_ext {l m : List Int} (h : l.length = m.length) (e : ∀ n, cf l n = cf m n) : l = m := by
  apply List.ext_getElem h
  intro n h1 h2
  have := e n
  simpa [cf, List.getD, h1, h2] using this
/-- The last number is not 0. -/
def TL (l : List Int) : Prop := l = [] ∨ cf l (l.length - 1) ≠ 0
/-- All numbers are rests by p. -/
def In (p : Int) (l : List Int) : Prop := ∀ n, 0 ≤ cf l n ∧ cf l n < p
theorem TL.len {l : List Int} (h : TL l) {d : Nat} (hz : ∀ n, d ≤ n → cf l n = 0) : l.length ≤ d := by
  rcases h with rfl | h
  · simp
  · by_cases hd : l.length ≤ d
    · exact hd
    · exact absurd (hz (l.length - 1) (by omega)) h
theorem same {p : Int} {l m : List Int} (hl : In p l) (hm : In p m) (tl : TL l) (tm : TL m) (h : Cg p (cf l) (cf m)) : l = m := by
  have e : ∀ n, cf l n = cf m n := fun n => by
    have := h.mod n
    rwa [Int.emod_eq_of_lt (hl n).1 (hl n).2, Int.emod_eq_of_lt (hm n).1 (hm n).2] at this
  refine cf_ext (Nat.le_antisymm (tl.len fun n hn => ?_) (tm.len fun n hn => ?_)) e
  · rw [e]; exact cf_out hn
  · rw [← e]; exact cf_out hn
theorem Dg_cf (p : Int) (l : List Int) : Dg p l.length (cf l) := fun n hn => by rw [cf_out hn]; simp

/-! ### Trim -/
theorem w64 (n : Int) (h1 : -1000000000 ≤ n) (h2 : n ≤ 1000000000) : wrap64 n = n := Go.IntWalk.wrap64_in n ⟨Int.le_trans (by decide) h1, Int.le_trans h2 (by decide)⟩
theorem w64e (n m : Int) (e : n = m) (h1 : -1000000000 ≤ m) (h2 : m ≤ 1000000000) : wrap64 n = m := by rw [e]; exact w64 m h1 h2
theorem clone_some {l : List Int} (h : l.length < 1000000) : slices_Clone_int_int.f l = some l := by
  unfold slices_Clone_int_int.f; rw [if_pos (by omega)]
theorem trim_spec (l : List Int) (hl : l.length < 1000000) : ∃ t, Ev (fun k => poly_Trim.f k l) t ∧ (∀ n, cf t n = cf l n) ∧ TL t ∧ t.length ≤ l.length := by
  unfold poly_Trim.f
  generalize hm : l.length = m
  induction m generalizing l with
  | zero =>
    have : l = [] := List.eq_nil_of_length_eq_zero hm
    subst this
    exact ⟨[], Ev.succ ((Ev.const _).eq fun k => by simp [poly_Trim.l0, slices_Clone_int_int.f]), fun _ => rfl, .inl rfl, by simp⟩
  | succ m ih =>
    by_cases h0 : cf l m = 0
    · obtain ⟨t, h1, h2, h3, h4⟩ := ih (l.take m) (by simp; omega) (by simp; omega)
      refine ⟨t, Ev.succ (h1.eq fun k => ?_), fun n => ?_, h3, by omega⟩
      · simp only [poly_Trim.l0]
        rw [w64e ((l.length : Int) - 1) (m : Int) (by omega) (by omega) (by omega)]
        rw [if_pos (by omega), if_pos (by omega), if_pos (by omega), rd_cf, Int.toNat_natCast, if_pos h0, if_pos (by omega)]
      · rw [h2, cf_take]
        split
        · rfl
        · rename_i hn
          rcases Nat.eq_or_lt_of_le (Nat.le_of_not_lt hn) with rfl | h5
          · exact h0.symm
          · exact (cf_out (by omega)).symm
    · refine ⟨l, Ev.succ ((Ev.const _).eq fun k => ?_), fun _ => rfl, .inr (by rw [hm]; exact h0), by omega⟩
      simp only [poly_Trim.l0]
      rw [w64e ((l.length : Int) - 1) (m : Int) (by omega) (by omega) (by omega)]
      rw [if_pos (by omega), if_pos (by omega), if_pos (by omega), rd_cf, Int.toNat_natCast, if_neg h0, clone_some hl]
      rfl

/-! ### Dividing -/
theorem in_mul {p a b : Int} (hp : p ≤ 1000) (ha : 0 ≤ a ∧ a < p) (hb : 0 ≤ b ∧ b < p) : 0 ≤ a * b ∧ a * b ≤ 1000000 := by
  refine ⟨Int.mul_nonneg ha.1 hb.1, ?_⟩
  have h1 : a * b ≤ a * 1000 := Int.mul_le_mul_of_nonneg_left (by omega) ha.1
  omega
theorem tmod_pos {a p : Int} (h : 0 ≤ a) : Int.tmod a p = a % p := by
  rw [Int.tmod_eq_emod]; simp [h]
theorem div_inner {p : Int} (hp0 : 0 < p) (hp : p ≤ 1000) (g : List Int) (hg : In p g) (hgl : g.length < 1000) (inv : Int) (q : List Int) (kk : Nat) (c : Int) (hc : 0 ≤ c ∧ c < p) (m : Nat) :
    ∀ (i : Nat) (r : List Int), i + m = g.length → In p r → kk + g.length ≤ r.length → r.length < 10000 →
    ∃ r', r'.length = r.length ∧ (∀ n, cf r' n = if kk + i ≤ n ∧ n < kk + g.length then (cf r n + (p - c) * cf g (n - kk)) % p else cf r n) ∧
      ∀ R, Ev (fun k => poly_Divided.l0 k p g r' inv q (wrap64 ((kk : Int) - 1))) R → Ev (fun k => poly_Divided.l1 k p g r inv q (kk : Int) c g (g.length : Int) (i : Int)) R := by
  induction m with
  | zero =>
    intro i r hi hr hlen hl
    refine ⟨r, rfl, fun n => by rw [if_neg (by omega)], fun R h => Ev.succ (h.eq fun k => ?_)⟩
    simp only [poly_Divided.l1]
    rw [if_neg (by omega)]
  | succ m ih =>
    intro i r hi hr hlen hl
    have hpc : 0 ≤ (p - c) * cf g i ∧ (p - c) * cf g i ≤ 1000000 := by
      refine ⟨Int.mul_nonneg (by omega) (hg i).1, ?_⟩
      have h1 : (p - c) * cf g i ≤ (p - c) * 1000 := Int.mul_le_mul_of_nonneg_left (by have := (hg i).2; omega) (by omega)
      omega
    have hrb := hr (kk + i)
    obtain ⟨v, hvd⟩ : ∃ v, v = (cf r (kk + i) + (p - c) * cf g i) % p := ⟨_, rfl⟩
    have hv : 0 ≤ v ∧ v < p := by rw [hvd]; exact ⟨Int.emod_nonneg _ (by omega), Int.emod_lt_of_pos _ hp0⟩
    obtain ⟨r', h1, h2, h3⟩ := ih (i + 1) (r.set (kk + i) v) (by omega) (fun n => by rw [cf_set]; split; exact hv; exact hr n) (by simp; omega) (by simpa using hl)
    refine ⟨r', by simpa using h1, fun n => ?_, fun R h => Ev.succ ((h3 R h).eq fun k => ?_)⟩
    · rw [h2, cf_set]
      by_cases e : n = kk + i
      · subst e
        rw [if_neg (by omega), if_pos ⟨rfl, by omega⟩, if_pos (by omega), Nat.add_sub_cancel_left, hvd]
      · by_cases e2 : kk + (i + 1) ≤ n ∧ n < kk + g.length
        · rw [if_pos e2, if_neg (by omega), if_pos (by omega)]
        · rw [if_neg e2, if_neg (by omega), if_neg (by omega)]
    · simp only [poly_Divided.l1]
      rw [w64e ((kk : Int) + (i : Int)) ((kk + i : Nat) : Int) (by omega) (by omega) (by omega), w64e ((i : Int) + 1) ((i + 1 : Nat) : Int) (by omega) (by omega) (by omega), w64 (p - c) (by omega) (by omega)]
      rw [if_pos (by omega), if_pos (by omega), if_pos (by omega), if_pos (by omega), if_pos (by omega), if_neg (by omega)]
      simp only [rd_cf, Int.toNat_natCast]
      generalize hx : (p - c) * cf g i = x at *
      rw [w64 x (by omega) (by omega), w64 _ (by omega) (by omega), tmod_pos (by omega), ← hvd]
theorem conv_mono (c : Int) (T : Nat) (g : Ser) (n : Nat) : conv (fun i => if i = T then c else 0) g n = if T ≤ n then c * g (n - T) else 0 := by
  induction T generalizing n with
  | zero =>
    cases n with
    | zero => simp [conv_zero]
    | succ n =>
      rw [conv_succ]
      have : sh (fun i => if i = 0 then c else 0) = Z := by funext i; simp [sh, Z]
      rw [this, conv_Z]; simp
  | succ T ih =>
    cases n with
    | zero => simp [conv_zero]
    | succ n =>
      rw [conv_succ]
      have : sh (fun i => if i = T + 1 then c else 0) = fun i => if i = T then c else 0 := by funext i; simp [sh]
      rw [this, ih]; simp
theorem div_outer {p : Int} (hp0 : 0 < p) (hp : p ≤ 1000) (g : List Int) (hg : In p g) (hg0 : 0 < g.length) (hgl : g.length < 1000) (inv : Int) (hi : 0 ≤ inv ∧ inv < p) (hinv : (cf g (g.length - 1) * inv) % p = 1 % p) (T : Nat) :
    ∀ (r q : List Int), In p r → T ≤ q.length → q.length < 10000 → r.length < 10000 → (T = 0 ∨ T + g.length ≤ r.length + 1) → (∀ n, T + g.length ≤ n + 1 → cf r n = 0) →
    ∃ qq rr, Ev (fun k => poly_Divided.l0 k p g r inv q ((T : Int) - 1)) (qq, rr) ∧ In p rr ∧ TL rr ∧ rr.length < g.length ∧ ∃ u, Dg p T u ∧ Cg p (cf r) (fun n => conv u (cf g) n + cf rr n) := by
  induction T with
  | zero =>
    intro r q hr hq hql hrl hlen hz
    obtain ⟨qq, q1, _, _, _⟩ := trim_spec q (by omega)
    obtain ⟨rr, r1, r2, r3, r4⟩ := trim_spec r (by omega)
    refine ⟨qq, rr, Ev.succ ((Ev.bind (G := fun x k => (poly_Trim.f k r).bind fun y => some (x, y)) q1 (Ev.bind (G := fun y _ => some (qq, y)) r1 (Ev.const (qq, rr)))).eq fun k => ?_), fun n => by rw [r2]; exact hr n, r3, ?_, Z, fun n _ => by simp [Z], Cg.of_eq fun n => ?_⟩
    · simp only [poly_Divided.l0]
      rw [if_neg (by omega)]
    · have := r3.len (d := g.length - 1) (fun n hn => by rw [r2]; exact hz n (by omega))
      omega
    · show _ = conv Z (cf g) n + cf rr n
      rw [conv_Z, r2]; omega
  | succ T ih =>
    intro r q hr hq hql hrl hlen hz
    obtain ⟨top, htop⟩ : ∃ top, top = T + g.length - 1 := ⟨_, rfl⟩
    have hrt := hr top
    have hm := in_mul hp hrt hi
    obtain ⟨c, hcd⟩ : ∃ c, c = (cf r top * inv) % p := ⟨_, rfl⟩
    have hc : 0 ≤ c ∧ c < p := by rw [hcd]; exact ⟨Int.emod_nonneg _ (by omega), Int.emod_lt_of_pos _ hp0⟩
    obtain ⟨r', h1, h2, h3⟩ := div_inner hp0 hp g hg hgl inv (q.set T c) T c hc g.length 0 r (by omega) hr (by omega) hrl
    have hr' : In p r' := fun n => by
      rw [h2]; split
      · exact ⟨Int.emod_nonneg _ (by omega), Int.emod_lt_of_pos _ hp0⟩
      · exact hr n
    have hz' : ∀ n, T + g.length ≤ n + 1 → cf r' n = 0 := by
      intro n hn
      rw [h2]
      by_cases e : n = top
      · rw [if_pos (by omega)]
        have e2 : n - T = g.length - 1 := by omega
        rw [e2, e]
        have h5 : (cf r top * inv) % p = c := hcd.symm
        have h6 := Int.mul_ediv_add_emod (cf r top * inv) p
        have h7 := Int.mul_ediv_add_emod (cf g (g.length - 1) * inv) p
        have h8 := Int.mul_ediv_add_emod 1 p
        rw [h5] at h6; rw [hinv] at h7
        have h9 : cf r top + (p - c) * cf g (g.length - 1) = p * (cf g (g.length - 1) + (cf r top * inv / p) * cf g (g.length - 1) - cf r top * (cf g (g.length - 1) * inv / p) + cf r top * (1 / p)) := by
          grind
        rw [h9]; exact Int.mul_emod_right _ _
      · rw [if_neg (by omega)]; exact hz n (by omega)
    obtain ⟨qq, rr, k1, k2, k3, k4, u, k5, k6⟩ := ih r' (q.set T c) hr' (by simp; omega) (by simpa using hql) (by omega) (by omega) hz'
    refine ⟨qq, rr, Ev.succ ((h3 _ (by rw [w64 ((T : Int) - 1) (by omega) (by omega)]; exact k1)).eq fun k => ?_), k2, k3, k4, fun n => u n + (if n = T then c else 0), ?_, ?_⟩
    · have e1 : ((T + 1 : Nat) : Int) - 1 = (T : Int) := by omega
      simp only [poly_Divided.l0]
      rw [e1]
      rw [w64 ((T : Int) + (g.length : Int)) (by omega) (by omega), w64e ((T : Int) + (g.length : Int) - 1) (top : Int) (by omega) (by omega) (by omega), if_pos (by omega), if_pos (by omega), if_pos (by omega), if_neg (by omega), if_pos (by omega), if_pos (by omega)]
      simp only [rd_cf, Int.toNat_natCast]
      rw [w64 (cf r top * inv) (by omega) (by omega), tmod_pos hm.1, ← hcd]
      rfl
    · exact (k5.mono (by omega)).add (fun n hn => by rw [if_neg (by omega)]; simp)
    · have e : Cg p (cf r) (fun n => conv (fun i => if i = T then c else 0) (cf g) n + cf r' n) := Cg.of_mod fun n => by
        rw [conv_mono, h2]
        by_cases h5 : T ≤ n
        · rw [if_pos h5]
          by_cases h6 : n < T + g.length
          · rw [if_pos (by omega), Int.add_emod_emod]
            have : c * cf g (n - T) + (cf r n + (p - c) * cf g (n - T)) = cf r n + p * cf g (n - T) := by grind
            rw [this, Int.add_mul_emod_self_left]
          · rw [if_neg (by omega), cf_out (show g.length ≤ n - T by omega)]; simp
        · rw [if_neg h5, if_neg (by omega)]; simp
      refine e.trans (((Cg.refl p _).add k6).trans (Cg.of_eq fun n => ?_))
      show _ = conv (fun i => u i + (if i = T then c else 0)) (cf g) n + cf rr n
      rw [conv_addl]; grind
end Go.Proofs.Ytonacfjhfkdgbaa.Pure
