/- What is proved: what is proved by the program's hash tree is accepted by its check. Conditions: those that each theorem names. -/
import Derived.Test.YtjbiiciippclcaaTopC
namespace Go.Proofs.Ytjbiiciippclcaa.Pure
open Go.RowKit Go.Proofs.Ytjbiiciippclcaa.PTopPieces Go.Proofs.YtjbiiciippclcaaW.PrintWords Go.Proofs.YtjbiiciippclcaaW.PrintLast Go.Proofs.YtjbiiciippclcaaW.PrintMore Go.Proofs.Ytjbiiciippclcaa.GF

/-- A fact kept out of sight. -/
structure Hold (p : Prop) : Prop where
  out : p
def mixV (a0 a1 : Int) : Int := Go.bits .xor .u64 (IntKind.u64.wrap ((Go.bits .xor .u64 (Go.bits .xor .u64 a0 a1) ((Go.bits .xor .u64 a0 a1) / 2147483648)) * 11400714819323198485)) ((IntKind.u64.wrap ((Go.bits .xor .u64 (Go.bits .xor .u64 a0 a1) ((Go.bits .xor .u64 a0 a1) / 2147483648)) * 11400714819323198485)) / 536870912)
theorem mix_some (a b : Int) : tree_mix.f a b = some (mixV a b) := rfl
def nodeV (a b : Int) : Int := mixV (IntKind.u64.wrap ((IntKind.u64.wrap (mixV a 5 * 3)) + b)) 3
theorem node_some (a b : Int) : tree_Node.f a b = some (nodeV a b) := by
  unfold tree_Node.f
  rw [mix_some, Option.bind_some, mix_some, Option.bind_some]
  rfl
def leafStep (s : ByteArray) (x : Int) (i : Nat) : Int := IntKind.u64.wrap ((Go.bits .xor .u64 x (IntKind.u64.wrap (bt s (i : Int)))) * 1099511628211)
def leafFold (s : ByteArray) : Nat → Int → Nat → Int
  | 0, x, _ => x
  | d + 1, x, i => leafFold s d (leafStep s x i) (i + 1)
def leafOf (s : ByteArray) : Int := mixV (leafFold s s.size (IntKind.u64.wrap (s.size : Int)) 0) 2
theorem leaf_l0 (s : ByteArray) (hs : s.size < 4611686018427387000) : ∀ d i : Nat, ∀ x : Int, s.size - i = d → i ≤ s.size → Ev (fun k => tree_Leaf.l0 k s x (s.size : Int) (i : Int)) (mixV (leafFold s d x i) 2) := by
  intro d
  induction d with
  | zero =>
    intro i x hd hi
    refine Ev.step (f := fun _ => some (mixV x 2)) (fun k => ?_) (Ev.now _)
    simp only [tree_Leaf.l0]
    rw [if_neg (by omega), mix_some, Option.bind_some]
  | succ d ih =>
    intro i x hd hi
    refine Ev.step (fun k => ?_) (ih (i + 1) (leafStep s x i) (by omega) (by omega))
    simp only [tree_Leaf.l0]
    rw [if_pos (by omega), if_pos (by omega), if_pos (by omega), w64s (by omega)]
    rfl
theorem leaf_ev (s : ByteArray) (hs : s.size < 4611686018427387000) : Ev (fun k => tree_Leaf.f k s) (leafOf s) := leaf_l0 s hs (s.size - 0) 0 _ rfl (by omega)
def leafL (l : List ByteArray) : List Int := l.map leafOf
theorem leafL_append (l m : List ByteArray) : leafL (l ++ m) = leafL l ++ leafL m := by simp [leafL]
theorem leaves_l0 (l : List ByteArray) (hl : l.length ≤ 16) (hs : ∀ s, s ∈ l → s.size < 4611686018427387000) : ∀ d i : Nat, l.length - i = d → i ≤ l.length →
    Ev (fun k => tree_leaves.l0 k (leafL (l.take i)) l (l.length : Int) (i : Int)) (leafL l, 0) := by
  intro d
  induction d with
  | zero =>
    intro i hd hi
    obtain rfl : i = l.length := by omega
    refine Ev.step (f := fun _ => some (leafL l, 0)) (fun k => ?_) (Ev.now _)
    simp only [tree_leaves.l0]
    rw [if_neg (by omega), List.take_length]
  | succ d ih =>
    intro i hd hi
    have hil : i < l.length := by omega
    have e0 : rdOf ByteArray.empty l (i : Int) = l[i] := by unfold rdOf; rw [Int.toNat_natCast, List.getD_eq_getElem?_getD, List.getElem?_eq_getElem hil]; rfl
    have h1 := ih (i + 1) (by omega) (by omega)
    rw [List.take_succ_eq_append_getElem hil, leafL_append] at h1
    refine Ev.step (fun k => ?_) (Ev.bind (leaf_ev l[i] (hs _ (List.getElem_mem hil))) (f := fun k t => tree_leaves.l0 k (leafL (l.take i) ++ [t]) l (l.length : Int) ((i + 1 : Nat) : Int)) h1)
    simp only [tree_leaves.l0]
    rw [if_pos (by omega), if_pos (by omega), if_pos (by omega), e0, w64s (by omega)]
    congr 1
    funext t
    rw [if_pos (by simp [leafL]; omega)]
theorem leaves_ev (l : List ByteArray) (h1 : 1 ≤ l.length) (hl : l.length ≤ 16) (hs : ∀ s, s ∈ l → s.size < 4611686018427387000) : Ev (fun k => tree_leaves.f k l) (leafL l, 0) := by
  have h := leaves_l0 l hl hs (l.length - 0) 0 rfl (by omega)
  refine Ev.congr (f := fun k => tree_leaves.j0 k l false) (fun k => ?_) (Ev.step (fun k => ?_) h)
  · unfold tree_leaves.f
    rw [if_neg (by omega), decide_eq_false (by omega)]
  · simp only [tree_leaves.j0]
    rw [if_neg (by simp)]
    rfl
/-! ### A level of the tree -/
def upL : List Int → List Int
  | [] => []
  | [a] => [a]
  | a :: b :: r => nodeV a b :: upL r
theorem upL_length : ∀ l : List Int, (upL l).length = (l.length + 1) / 2
  | [] => rfl
  | [a] => by simp [upL]
  | a :: b :: r => by simp only [upL, List.length_cons]; rw [upL_length r]; omega
theorem upL_even : ∀ (l : List Int) (k : Nat), 2 * k + 1 < l.length → (upL l).getD k 0 = nodeV (l.getD (2 * k) 0) (l.getD (2 * k + 1) 0)
  | [], k, h => by simp at h
  | [a], k, h => by simp at h
  | a :: b :: r, 0, h => rfl
  | a :: b :: r, k + 1, h => by
    have := upL_even r k (by simp at h; omega)
    simp only [upL]
    rw [List.getD_cons_succ, this]
    rfl
theorem upL_last : ∀ (l : List Int) (k : Nat), 2 * k + 1 = l.length → (upL l).getD k 0 = l.getD (2 * k) 0
  | [], k, h => by simp at h
  | [a], 0, h => rfl
  | [a], k + 1, h => by simp at h
  | a :: b :: r, 0, h => by simp at h
  | a :: b :: r, k + 1, h => by
    have := upL_last r k (by simp at h; omega)
    simp only [upL]
    rw [List.getD_cons_succ, this]
    rfl
theorem up_l0 (l : List Int) (hl : l.length ≤ 16) : ∀ d i : Nat, ∀ o : List Int, l.length - i ≤ d → o.length ≤ i → Ev (fun k => tree_up.l0 k l o (i : Int)) (o ++ upL (l.drop i)) := by
  intro d
  induction d with
  | zero =>
    intro i o hd ho
    have e : l.drop i = [] := List.drop_eq_nil_iff.2 (by omega)
    refine Ev.step (f := fun _ => some o) (fun k => ?_) (by rw [e]; simp only [upL, List.append_nil]; exact Ev.now _)
    simp only [tree_up.l0]
    rw [if_neg (by omega)]
  | succ d ih =>
    intro i o hd ho
    by_cases hil : i < l.length
    · have w2 : wrap64 ((i : Int) + 2) = ((i + 2 : Nat) : Int) := by unfold wrap64; omega
      have hdi : l.drop i = l.getD i 0 :: l.drop (i + 1) := by rw [List.drop_eq_getElem_cons hil]; simp [List.getD, hil]
      have W := Hold.mk w2
      clear w2
      by_cases h1 : i + 1 = l.length
      · have h2 := ih (i + 2) (o ++ [l.getD i 0]) (by omega) (by simp; omega)
        have e : l.drop (i + 1) = [] := List.drop_eq_nil_iff.2 (by omega)
        have e2 : l.drop (i + 2) = [] := List.drop_eq_nil_iff.2 (by omega)
        rw [e2] at h2
        rw [hdi, e]
        refine Ev.step (fun k => ?_) (by simpa [upL] using h2)
        simp only [tree_up.l0]
        rw [if_pos (by omega), w64s (by omega), if_pos (by omega), if_pos (by omega), if_pos (by omega), W.out]
        simp [rd]
      · have h2 := ih (i + 2) (o ++ [nodeV (l.getD i 0) (l.getD (i + 1) 0)]) (by omega) (by simp; omega)
        have hdi2 : l.drop (i + 1) = l.getD (i + 1) 0 :: l.drop (i + 2) := by rw [List.drop_eq_getElem_cons (by omega : i + 1 < l.length)]; simp [List.getD, (by omega : i + 1 < l.length)]
        rw [hdi, hdi2]
        refine Ev.step (fun k => ?_) (by simpa [upL] using h2)
        simp only [tree_up.l0]
        rw [if_pos (by omega), w64s (by omega), if_neg (by omega), if_pos (by omega), if_pos (by omega), if_pos (by omega), node_some, Option.bind_some, if_pos (by omega), W.out]
        simp only [rd, Int.toNat_natCast, List.getD_eq_getElem?_getD]
        rfl
    · have e : l.drop i = [] := List.drop_eq_nil_iff.2 (by omega)
      refine Ev.step (f := fun _ => some o) (fun k => ?_) (by rw [e]; simp only [upL, List.append_nil]; exact Ev.now _)
      simp only [tree_up.l0]
      rw [if_neg (by omega)]
theorem up_ev (l : List Int) (hl : l.length ≤ 16) : Ev (fun k => tree_up.f k l) (upL l) := by
  have h := up_l0 l hl l.length 0 [] (by omega) (by simp)
  rw [List.drop_zero, List.nil_append] at h
  exact h
/-! ### The whole tree -/
theorem x1_64 (k : Nat) (hk : k < 256) : bits .xor .i64 (k : Int) 1 = ((k ^^^ 1 : Nat) : Int) := x64 k 1 hk (by omega)
theorem sib (k : Nat) (hk : k < 16) : k ^^^ 1 = if k % 2 = 0 then k + 1 else k - 1 := by
  have h : ∀ k, k < 16 → k ^^^ 1 = if k % 2 = 0 then k + 1 else k - 1 := by decide
  exact h k hk
theorem half {k : Nat} (h : k < 1000) : wrap64 (Int.tdiv (k : Int) 2) = ((k / 2 : Nat) : Int) := by
  rw [Int.tdiv_eq_ediv_of_nonneg (by omega)]; unfold wrap64; omega
theorem half1 {k : Nat} (h : k < 900) : wrap64 (Int.tdiv (wrap64 ((k : Int) + 1)) 2) = (((k + 1) / 2 : Nat) : Int) := by
  rw [w64s (by omega)]; exact half (k := k + 1) (by omega)
theorem mod2 (k : Nat) : Int.tmod (k : Int) 2 = ((k % 2 : Nat) : Int) := by rw [Int.tmod_eq_emod_of_nonneg (by omega)]; omega
theorem tree_all (N : Nat) : ∀ l : List Int, l.length ≤ N → 0 < l.length → l.length ≤ 16 → ∃ root : Int, Ev (fun f => tree_Root.l0 f l) (root, 0) ∧ ∀ k, k < l.length → ∃ pf : List Int, pf.length ≤ l.length ∧
    (∀ o : List Int, o.length ≤ 100 - l.length → Ev (fun f => tree_Prove.l0 f (k : Int) l o) (o ++ pf, 0)) ∧
    ∀ x : Int, ∃ b : Bool, Ev (fun f => tree_Check.l0 f root (l.length : Int) (k : Int) pf x) (b, 0) ∧ (x = l.getD k 0 → b = true) := by
  induction N with
  | zero => intro l h h0; omega
  | succ N ih =>
    intro l hN h0 h16
    by_cases h1 : l.length = 1
    · refine ⟨l.getD 0 0, ?_, fun k hk => ⟨[], by simp, fun o ho => ?_, fun x => ⟨x == l.getD 0 0, ?_, fun h => ?_⟩⟩⟩
      · refine Ev.step (f := fun _ => some (l.getD 0 0, 0)) (fun f => ?_) (Ev.now _)
        simp only [tree_Root.l0]
        rw [if_neg (by omega), if_pos (by omega)]
        rfl
      · refine Ev.step (f := fun _ => some (o ++ [], 0)) (fun f => ?_) (Ev.now _)
        simp only [tree_Prove.l0]
        rw [if_neg (by omega), if_pos (by omega), if_pos (by omega), Option.bind_some, if_pos (by simp; omega), List.nil_append, List.append_nil]
      · refine Ev.step (f := fun _ => some (x == l.getD 0 0, 0)) (fun f => ?_) (Ev.now _)
        simp only [tree_Check.l0]
        rw [if_neg (by omega), if_pos (by simp)]
      · obtain rfl : k = 0 := by omega
        rw [h]; simp
    · have hul := upL_length l
      obtain ⟨root, hr, hp⟩ := ih (upL l) (by omega) (by omega) (by omega)
      refine ⟨root, ?_, fun k hk => ?_⟩
      · refine Ev.step (fun f => ?_) (Ev.bind (up_ev l h16) (f := fun f t => tree_Root.l0 f t) hr)
        simp only [tree_Root.l0]
        rw [if_pos (by omega)]
      · obtain ⟨pf, hpl, hpv, hck⟩ := hp (k / 2) (by omega)
        have hs := sib k (by omega)
        by_cases hk1 : k ^^^ 1 < l.length
        · refine ⟨l.getD (k ^^^ 1) 0 :: pf, by simp; omega, fun o ho => ?_, fun x => ?_⟩
          · have h2 := hpv (o ++ [l.getD (k ^^^ 1) 0]) (by simp; omega)
            rw [List.append_assoc] at h2
            refine Ev.step (fun f => ?_) (Ev.bind (up_ev l h16) (f := fun f t => tree_Prove.l0 f ((k / 2 : Nat) : Int) t (o ++ [l.getD (k ^^^ 1) 0])) h2)
            simp only [tree_Prove.l0]
            rw [if_pos (by omega), x1_64 k (by omega), if_pos (by omega), if_pos (by omega), if_pos (by omega), half (by omega)]
            rfl
          · by_cases hev : k % 2 = 0
            · obtain ⟨b, hb, hbt⟩ := hck (nodeV x (l.getD (k ^^^ 1) 0))
              refine ⟨b, ?_, fun h => hbt ?_⟩
              · rw [hul] at hb
                refine Ev.step (fun f => ?_) hb
                simp only [tree_Check.l0]
                rw [if_pos (by omega), x1_64 k (by omega), if_pos (by omega), if_neg (by simp only [List.length_cons]; omega), mod2, if_pos (by omega), if_pos (by simp only [List.length_cons]; omega), node_some, Option.bind_some, if_pos (by simp only [List.length_cons]; omega), half1 (by omega), half (by omega)]
                rfl
              · rw [h, hs, if_pos hev]
                rw [hs, if_pos hev] at hk1
                clear h hbt hck hpv
                rw [upL_even l (k / 2) (by omega), show 2 * (k / 2) = k by omega]
            · obtain ⟨b, hb, hbt⟩ := hck (nodeV (l.getD (k ^^^ 1) 0) x)
              refine ⟨b, ?_, fun h => hbt ?_⟩
              · rw [hul] at hb
                refine Ev.step (fun f => ?_) hb
                simp only [tree_Check.l0]
                rw [if_pos (by omega), x1_64 k (by omega), if_pos (by omega), if_neg (by simp only [List.length_cons]; omega), mod2, if_neg (by omega), if_pos (by simp only [List.length_cons]; omega), node_some, Option.bind_some, if_pos (by simp only [List.length_cons]; omega), half1 (by omega), half (by omega)]
                rfl
              · rw [h, hs, if_neg hev]
                rw [hs, if_neg hev] at hk1
                clear h hbt hck hpv
                rw [upL_even l (k / 2) (by omega), show 2 * (k / 2) = k - 1 by omega, show k - 1 + 1 = k by omega]
        · refine ⟨pf, by omega, fun o ho => ?_, fun x => ?_⟩
          · have h2 := hpv o (by omega)
            refine Ev.step (fun f => ?_) (Ev.bind (up_ev l h16) (f := fun f t => tree_Prove.l0 f ((k / 2 : Nat) : Int) t o) h2)
            simp only [tree_Prove.l0]
            rw [if_pos (by omega), x1_64 k (by omega), if_neg (by omega), half (by omega)]
          · obtain ⟨b, hb, hbt⟩ := hck x
            refine ⟨b, ?_, fun h => hbt ?_⟩
            · rw [hul] at hb
              refine Ev.step (fun f => ?_) hb
              simp only [tree_Check.l0]
              rw [if_pos (by omega), x1_64 k (by omega), if_neg (by omega), half1 (by omega), half (by omega)]
            · have hk2 : k % 2 = 0 ∧ k + 1 = l.length := by
                rw [hs] at hk1
                split at hk1 <;> omega
              rw [h, upL_last l (k / 2) (by omega), show 2 * (k / 2) = k by omega]
theorem tree_ev (l : List ByteArray) (h1 : 1 ≤ l.length) (h16 : l.length ≤ 16) (hs : ∀ s, s ∈ l → s.size < 4611686018427387000) :
    ∃ root : Int, Ev (fun f => tree_Root.f f l) (root, 0) ∧ ∀ k, k < l.length → ∃ pf : List Int, Ev (fun f => tree_Prove.f f l (k : Int)) (pf, 0) ∧
    ∀ s : ByteArray, s.size < 4611686018427387000 → ∃ b : Bool, Ev (fun f => tree_Check.f f root (l.length : Int) (k : Int) s pf) (b, 0) ∧ (s = l.getD k ByteArray.empty → b = true) := by
  have hlv := leaves_ev l h1 h16 hs
  have hll : (leafL l).length = l.length := by simp [leafL]
  obtain ⟨root, hr, hp⟩ := tree_all l.length (leafL l) (by omega) (by omega) (by omega)
  refine ⟨root, ?_, fun k hk => ?_⟩
  · exact Ev.bind hlv (f := fun f (bt191 : List Int × Int) => if bt191.2 = 0 then tree_Root.l0 f bt191.1 else some (0, bt191.2)) (Ev.congr (fun f => if_pos rfl) hr)
  · obtain ⟨pf, hpl, hpv, hck⟩ := hp k (by omega)
    refine ⟨pf, ?_, fun s hsz => ?_⟩
    · have h2 := hpv [] (by simp)
      refine Ev.bind hlv (f := fun f (bt199 : List Int × Int) => if bt199.2 = 0 then (if (k : Int) < 0 then (tree_Prove.j0 f (k : Int) bt199.1 true) else (tree_Prove.j0 f (k : Int) bt199.1 (decide ((k : Int) ≥ (l.length : Int))))) else (some (([] : List Int), bt199.2))) (Ev.congr (f := fun f => tree_Prove.j0 f (k : Int) (leafL l) false) (fun f => ?_) (Ev.step (fun f => ?_) h2))
      · rw [if_pos rfl, if_neg (by omega), decide_eq_false (by omega)]
      · simp only [tree_Prove.j0]
        rw [if_neg (by simp)]
    · obtain ⟨b, hb, hbt⟩ := hck (leafOf s)
      rw [hll] at hb
      refine ⟨b, ?_, fun h => hbt ?_⟩
      · refine Ev.congr (f := fun f => tree_Check.j0 f root (l.length : Int) (k : Int) s pf false) (fun f => ?_) (Ev.step (fun f => ?_) (Ev.bind (leaf_ev s hsz) (f := fun f t => tree_Check.l0 f root (l.length : Int) (k : Int) pf t) hb))
        · unfold tree_Check.f
          rw [if_neg (by omega), decide_eq_false (by omega)]
        · simp only [tree_Check.j0]
          rw [if_neg (by simp), if_neg (by omega), if_neg (by omega)]
      · rw [h, List.getD_eq_getElem?_getD, List.getD_eq_getElem?_getD, leafL, List.getElem?_map, List.getElem?_eq_getElem hk]
        rfl
end Go.Proofs.Ytjbiiciippclcaa.Pure
