/- Plain law: the hash, trees. -/
import Derived.Test.YtlehbecajmjgkaaPe
set_option linter.unusedVariables false
set_option linter.unusedSimpArgs false
namespace Go.Proofs.Ytlehbecajmjgkaa.P
open Go Go.Proofs.Ytlehbecajmjgkaa.V Go.Proofs.Ytlehbecajmjgkaa.F

/-- bytes that may be hashed -/
def Hs (b : Bytes) : Prop := b.length ≤ 268435456

theorem pad_ok (b : Bytes) (h : Hs b) : ∃ p : Bytes, impl_ShaPad b = some ((p, ()), ()) ∧ p.length % 64 = 0 ∧ p.length ≤ 268435600 := by
  unfold Hs at h
  have main : ∃ r, impl_ShaPad b = some r ∧ (r.1.1.length % 64 = 0 ∧ r.1.1.length ≤ 268435600) := by
    unfold impl_ShaPad
    rw [copyBytes_eq b (by unfold Sm; omega)]
    simp only [bnd_some, set1]
    refine p_le (P := fun o => ∃ r : RDen o52 × BDen i52, o = some r ∧ (r.1.1.length % 64 = 0 ∧ r.1.1.length ≤ 268435600)) (len_most (by simp; omega)) ?_
    refine p_iter (P := fun o => ∃ r : RDen o52 × BDen i52, o = some r ∧ (r.1.1.length % 64 = 0 ∧ r.1.1.length ≤ 268435600)) (fun y => (119 - (y.1.2.1.length % 64 + 7) % 64)) (fun y => y.1.1 = b ∧ y.1.2.1.length ≤ 268435460 + (y.1.2.1.length + 7) % 64) (fun r => r.1.1.length % 64 = 0 ∧ r.1.1.length ≤ 268435600) (fun a ha => ?_) ⟨rfl, by simp; omega⟩ (fun r hr => ⟨r, rfl, hr⟩)
    obtain ⟨a1, a2⟩ := ha
    have e : Int.tmod (a.1.2.1.length : Int) 64 = ((a.1.2.1.length % 64 : Nat) : Int) := by rw [Int.tmod_eq_emod_of_nonneg (by omega)]; omega
    rw [e]
    by_cases a3 : a.1.2.1.length % 64 = 56
    · refine p_f (by simp [a3]) ?_
      refine p_iter (fun y => (y.1.2.2.1 + 1).toNat) (fun y => y.1.1 = b ∧ -1 ≤ y.1.2.2.1 ∧ y.1.2.2.1 ≤ 7 ∧ (y.1.2.1.length : Int) = a.1.2.1.length + (7 - y.1.2.2.1)) (fun z => ∃ r, z = Sum.inr r ∧ (r.1.1.length % 64 = 0 ∧ r.1.1.length ≤ 268435600)) (fun c hc => ?_) ⟨a1, (show (-1 : Int) ≤ 7 by decide), Int.le_refl _, (show (a.1.2.1.length : Int) = a.1.2.1.length + (7 - 7) by omega)⟩ (fun z hz => by obtain ⟨r, rfl, hr⟩ := hz; exact .inr ⟨_, rfl, hr⟩)
      obtain ⟨c1, c2, c3, c4⟩ := hc
      by_cases c5 : 0 ≤ c.1.2.2.1
      · refine p_le c5 ?_
        rw [w64_id (n := 8 * c.1.2.2.1) (by omega) (by omega), w64_id (n := c.1.2.2.1 - 1) (by omega) (by omega)]
        refine p_nlt (by omega) ?_
        refine p_le (len_most (by simp; omega)) ?_
        exact .inl ⟨_, rfl, ⟨c1, by simp only; omega, by simp only; omega, by simp only [List.length_append, List.length_singleton]; omega⟩, by simp only; omega⟩
      · have c5' : leB 0 c.1.2.2.1 = false := le_f c5
        refine p_f c5' ?_
        exact .inr ⟨_, rfl, _, rfl, by show c.1.2.1.length % 64 = 0 ∧ c.1.2.1.length ≤ 268435600; omega⟩
    · refine p_t (by simp; omega) ?_
      refine p_le (len_most (by simp; omega)) ?_
      exact .inl ⟨_, rfl, ⟨a1, by simp only [List.length_append, List.length_singleton]; omega⟩, by simp only [List.length_append, List.length_singleton]; omega⟩
  obtain ⟨r, hr, hq⟩ := main
  exact ⟨r.1.1, hr, hq⟩

theorem init_ok : ∃ r : List Int, impl_ShaInit = some ((r, ()), ()) ∧ r.length = 8 ∧ ∀ x ∈ r, WordOk x := by
  refine ⟨_, rfl, rfl, ?_⟩
  intro x hx
  simp [List.set, List.replicate] at hx
  unfold WordOk
  omega

theorem set4 {α : Type} (a b c d e : α) : List.set (List.set (List.set (List.set (List.replicate 4 a) 0 b) 1 c) 2 d) 3 e = [b, c, d, e] := rfl

theorem sha_ok (b : Bytes) (h : Hs b) : ∃ p : Bytes, impl_Sha b = some ((p, ()), ()) ∧ p.length = 32 := by
  have main : ∃ r, impl_Sha b = some r ∧ r.1.1.length = 32 := by
    unfold impl_Sha
    obtain ⟨w, e1, w1, w2⟩ := init_ok
    obtain ⟨p, e2, p1, p2⟩ := pad_ok b h
    rw [e1, e2]
    simp only [bnd_some]
    refine p_iter (P := fun o => ∃ r : RDen o32 × BDen i32, o = some r ∧ r.1.1.length = 32) (fun y => (p.length - y.1.2.2.1.toNat)) (fun y => y.1.2.1 = p ∧ y.1.1.length = 8 ∧ (∀ x ∈ y.1.1, WordOk x) ∧ 0 ≤ y.1.2.2.1 ∧ y.1.2.2.1 % 64 = 0) (fun r => r.1.1.length = 32) (fun a ha => ?_) ⟨rfl, w1, w2, Int.le_refl _, rfl⟩ (fun r hr => ⟨r, rfl, hr⟩)
    obtain ⟨a1, a2, a3, a4, a5⟩ := ha
    by_cases a6 : a.1.2.2.1 < (a.1.2.1.length : Int)
    · refine p_lt a6 ?_
      rw [a1] at a6 ⊢
      rw [w64_id (n := a.1.2.2.1 + 64) (by omega) (by omega), cut_ok a4 (by omega) (by omega)]
      simp only [bnd_some]
      obtain ⟨v, e3, v1, v2⟩ := block_ok a.1.1 ((p.take (a.1.2.2.1 + 64).toNat).drop a.1.2.2.1.toNat) a2 (by simp; omega) a3
      rw [e3]
      simp only [bnd_some]
      exact .inl ⟨_, rfl, ⟨rfl, v1, v2, by simp only; omega, by simp only; omega⟩, by simp only; omega⟩
    · refine p_nlt a6 ?_
      refine p_iter (fun y => (8 - y.1.2.2.2.1.toNat)) (fun y => y.1.2.1.length = 8 ∧ y.1.2.2.1 = 8 ∧ 0 ≤ y.1.2.2.2.1 ∧ y.1.2.2.2.1 ≤ 8 ∧ (y.1.1.length : Int) = 4 * y.1.2.2.2.1) (fun z => ∃ r, z = Sum.inr r ∧ r.1.1.length = 32) (fun c hc => ?_) ⟨a2, (show (a.1.1.length : Int) = 8 by omega), Int.le_refl _, (show (0 : Int) ≤ 8 by decide), by simp⟩ (fun z hz => by obtain ⟨r, rfl, hr⟩ := hz; exact .inr ⟨_, rfl, hr⟩)
      obtain ⟨c1, c2, c3, c4, c5⟩ := hc
      by_cases c6 : c.1.2.2.2.1 < c.1.2.2.1
      · refine p_lt c6 ?_
        refine p_idx c3 (by omega) (fun x _ => ?_)
        rw [set4, w64_id (n := c.1.2.2.2.1 + 1) (by omega) (by omega)]
        refine p_le (len_most (by simp; omega)) ?_
        exact .inl ⟨_, rfl, ⟨c1, c2, by simp only; omega, by simp only; omega, by simp only [List.length_append, List.length_cons, List.length_nil]; omega⟩, by simp only; omega⟩
      · refine p_nlt c6 ?_
        exact .inr ⟨_, rfl, _, rfl, (show c.1.1.length = 32 by omega)⟩
  obtain ⟨r, hr, hq⟩ := main
  exact ⟨r.1.1, hr, hq⟩

/-- the hash -/
noncomputable def sha (b : Bytes) : Bytes := match impl_Sha b with
  | some r => r.1.1
  | none => []
theorem sha_eq (b : Bytes) (h : Hs b) : impl_Sha b = some ((sha b, ()), ()) := by
  obtain ⟨p, e, _⟩ := sha_ok b h
  unfold sha
  rw [e]
theorem sha_len (b : Bytes) (h : Hs b) : (sha b).length = 32 := by
  obtain ⟨p, e, hp⟩ := sha_ok b h
  unfold sha
  rw [e]
  exact hp

noncomputable def leafH (x : Bytes) : Bytes := sha (0 :: x)
noncomputable def nodeH (a b : Bytes) : Bytes := sha (1 :: (a ++ b))

theorem leaf_eq (x : Bytes) (h : x.length ≤ 200000000) : impl_LeafHash x = some ((leafH x, ()), ()) := by
  unfold impl_LeafHash leafH
  rw [set1, le_t (len_most (by simp; omega))]
  have e : [UInt8.ofNat (Int.toNat 0)] ++ x = 0 :: x := rfl
  rw [e, sha_eq _ (by unfold Hs; simp; omega)]
  rfl
theorem leaf_len (x : Bytes) (h : x.length ≤ 200000000) : (leafH x).length = 32 := sha_len _ (by unfold Hs; simp; omega)
theorem node_eq (a b : Bytes) (h : a.length = 32) (h' : b.length = 32) : impl_NodeHash a b = some ((nodeH a b, ()), ()) := by
  unfold impl_NodeHash nodeH
  rw [set1, le_t (len_most (by simp; omega)), le_t (len_most (by simp; omega))]
  have e : ([UInt8.ofNat (Int.toNat 1)] ++ a) ++ b = 1 :: (a ++ b) := rfl
  rw [e, sha_eq _ (by unfold Hs; simp; omega)]
  rfl
theorem node_len (a b : Bytes) (h : a.length = 32) (h' : b.length = 32) : (nodeH a b).length = 32 := sha_len _ (by unfold Hs; simp; omega)

/-- where a tree is split: the least power of two that is no less than half -/
def splitGo : Nat → Nat → Nat → Nat
  | 0, _, k => k
  | f + 1, n, k => if k < n - k then splitGo f n (2 * k) else k
def splitAt (n : Nat) : Nat := splitGo n n 1

theorem splitGo_ge (f n k : Nat) (h : n ≤ f + 2 * k) (hk : 0 < k) : n ≤ 2 * splitGo f n k := by
  induction f generalizing k with
  | zero => simp only [splitGo]; omega
  | succ f ih =>
    simp only [splitGo]
    split
    · exact ih (2 * k) (by omega) (by omega)
    · omega
theorem splitGo_lt (f n k : Nat) (h : k < n) : splitGo f n k < n := by
  induction f generalizing k with
  | zero => simpa only [splitGo] using h
  | succ f ih =>
    simp only [splitGo]
    split
    · exact ih (2 * k) (by omega)
    · exact h
theorem splitGo_pos (f n k : Nat) (h : 0 < k) : 0 < splitGo f n k := by
  induction f generalizing k with
  | zero => simpa only [splitGo] using h
  | succ f ih =>
    simp only [splitGo]
    split
    · exact ih (2 * k) (by omega)
    · exact h

theorem split_eq (n : Nat) (h2 : 2 ≤ n) (h : n ≤ 1073741824) : impl_SplitAt (n : Int) = some (((splitAt n : Int), ()), ()) := by
  unfold impl_SplitAt
  rw [lt_f (by omega), br_false]
  generalize hst : iter _ _ = o
  obtain ⟨r, rfl, hq⟩ := iter_stp hst (fun y => (n - y.1.2.2.1.toNat)) (fun y => y.1.1 = (n : Int) ∧ 1 ≤ y.1.2.2.1 ∧ y.1.2.2.1 < n ∧ ∃ f, splitGo f n y.1.2.2.1.toNat = splitAt n ∧ n ≤ f + y.1.2.2.1.toNat + 1) (fun r => r = (((splitAt n : Int), ()), ())) (fun a ha => by
    obtain ⟨a1, a2, a3, f, a4, a5⟩ := ha
    rw [a1, w64_id (n := (n : Int) - a.1.2.2.1) (by omega) (by omega)]
    by_cases a6 : a.1.2.2.1 < (n : Int) - a.1.2.2.1
    · refine p_lt a6 ?_
      rw [w64_id (n := a.1.2.2.1 * 2) (by omega) (by omega)]
      have hf : 0 < f := by omega
      obtain ⟨f', rfl⟩ : ∃ m, f = m + 1 := ⟨f - 1, by omega⟩
      refine .inl ⟨_, rfl, ⟨rfl, by simp only; omega, by simp only; omega, f', ?_, ?_⟩, by simp only; omega⟩
      · rw [← a4, splitGo, if_pos (by omega)]
        congr 1
        simp only; omega
      · simp only; omega
    · refine p_nlt a6 ?_
      refine .inr ⟨_, rfl, ?_⟩
      have : splitAt n = a.1.2.2.1.toNat := by
        rw [← a4]
        cases f with
        | zero => rfl
        | succ f => rw [splitGo, if_neg (by omega)]
      rw [this]
      have : ((a.1.2.2.1.toNat : Nat) : Int) = a.1.2.2.1 := by omega
      rw [this]) ⟨rfl, Int.le_refl _, (show (1 : Int) < n by omega), n, rfl, (show n ≤ n + 1 + 1 by omega)⟩
  rw [hq]

theorem splitAt_lt (n : Nat) (h : 2 ≤ n) : splitAt n < n := splitGo_lt n n 1 (by omega)
theorem splitAt_pos (n : Nat) : 0 < splitAt n := splitGo_pos n n 1 (by omega)

/-- the root of a tree -/
noncomputable def rootN : Nat → List Bytes → Bytes
  | 0, _ => []
  | f + 1, l => if l.length = 0 then sha [] else if l.length = 1 then leafH (l.getD 0 []) else nodeH (rootN f (l.take (splitAt l.length))) (rootN f (l.drop (splitAt l.length)))
noncomputable def treeRoot (l : List Bytes) : Bytes := rootN (l.length + 1) l

/-- leaves that may be hashed -/
def LeafSm (l : List Bytes) : Prop := ∀ x ∈ l, x.length ≤ 200000000

theorem rootN_len (f : Nat) (l : List Bytes) (h : l.length < f) (hs : LeafSm l) : (rootN f l).length = 32 := by
  induction f generalizing l with
  | zero => omega
  | succ f ih =>
    simp only [rootN]
    split
    · exact sha_len _ (by unfold Hs; simp)
    · split
      · rename_i h1
        obtain ⟨x, rfl⟩ := List.length_eq_one_iff.1 h1
        exact leaf_len _ (hs x (by simp))
      · have h1 := splitAt_lt l.length (by omega)
        have h2 := splitAt_pos l.length
        exact node_len _ _ (ih _ (by simp; omega) (fun x hx => hs x (List.mem_of_mem_take hx))) (ih _ (by simp; omega) (fun x hx => hs x (List.mem_of_mem_drop hx)))

theorem rootN_more (f g : Nat) (l : List Bytes) (h : l.length < f) (h' : l.length < g) : rootN f l = rootN g l := by
  induction f generalizing l g with
  | zero => omega
  | succ f ih =>
    cases g with
    | zero => omega
    | succ g =>
      simp only [rootN]
      split
      · rfl
      · split
        · rfl
        · have h1 := splitAt_lt l.length (by omega)
          have h2 := splitAt_pos l.length
          rw [ih g _ (by simp; omega) (by simp; omega), ih g _ (by simp; omega) (by simp; omega)]

theorem treeN_eq (f : Nat) (l : List Bytes) (h : l.length < f) (hl : Sm l) (hs : LeafSm l) : impl_TreeRootN f l = some ((rootN f l, ()), ()) := by
  unfold Sm at hl
  induction f generalizing l with
  | zero => omega
  | succ f ih =>
    show impl_TreeRootF (impl_TreeRootN f) l = _
    unfold impl_TreeRootF
    simp only [rootN]
    by_cases h0 : l.length = 0
    · have : ((l.length : Int) == 0) = true := by simp; exact List.length_eq_zero_iff.1 h0
      rw [this, br_true, if_pos h0, sha_eq _ (by unfold Hs; simp)]
      rfl
    · have e0 : ((l.length : Int) == 0) = false := by simp; intro hh; rw [hh] at h0; simp at h0
      rw [e0, br_false, if_neg h0]
      by_cases h1 : l.length = 1
      · have : ((l.length : Int) == 1) = true := by rw [h1]; rfl
        rw [this, br_true, if_pos h1]
        obtain ⟨x, rfl⟩ := List.length_eq_one_iff.1 h1
        rw [bIdx_ok (x := x) (by decide) (by rfl)]
        simp only [bnd_some]
        rw [leaf_eq _ (hs x (by simp))]
        rfl
      · have e1 : ((l.length : Int) == 1) = false := by simp; omega
        rw [e1, br_false, if_neg h1, split_eq l.length (by omega) hl]
        have h2 := splitAt_lt l.length (by omega)
        have h3 := splitAt_pos l.length
        simp only [bnd_some]
        rw [cut_ok (by decide) (by omega) (by omega), cut_ok (by omega) (by omega) (by omega)]
        simp only [bnd_some]
        have ea : ((l.take (splitAt l.length : Int).toNat).drop (Int.toNat 0)) = l.take (splitAt l.length) := by simp
        have eb : ((l.take (l.length : Int).toNat).drop (splitAt l.length : Int).toNat) = l.drop (splitAt l.length) := by simp
        rw [ea, eb]
        have ha := fun x hx => hs x (List.mem_of_mem_take (i := splitAt l.length) hx)
        have hb := fun x hx => hs x (List.mem_of_mem_drop (i := splitAt l.length) hx)
        rw [ih _ (by simp; omega) (by simp; omega) ha, ih _ (by simp; omega) (by simp; omega) hb]
        simp only [bnd_some]
        rw [node_eq _ _ (rootN_len f _ (by simp; omega) ha) (rootN_len f _ (by simp; omega) hb)]
        rfl

theorem tree_eq (l : List Bytes) (hl : Sm l) (hs : LeafSm l) : impl_TreeRoot l = some ((treeRoot l, ()), ()) := treeN_eq (l.length + 1) l (by omega) hl hs
theorem tree_len (l : List Bytes) (hs : LeafSm l) : (treeRoot l).length = 32 := rootN_len _ l (by omega) hs

/-- one step down -/
theorem tree_split (l : List Bytes) (h : 2 ≤ l.length) : treeRoot l = nodeH (treeRoot (l.take (splitAt l.length))) (treeRoot (l.drop (splitAt l.length))) := by
  have h1 := splitAt_lt l.length h
  have h2 := splitAt_pos l.length
  unfold treeRoot
  conv => lhs; rw [rootN]
  rw [if_neg (by omega), if_neg (by omega)]
  congr 1
  · exact rootN_more _ _ _ (by simp; omega) (by omega)
  · exact rootN_more _ _ _ (by simp; omega) (by omega)
theorem tree_one (x : Bytes) : treeRoot [x] = leafH x := by unfold treeRoot; simp [rootN]

end Go.Proofs.Ytlehbecajmjgkaa.P
