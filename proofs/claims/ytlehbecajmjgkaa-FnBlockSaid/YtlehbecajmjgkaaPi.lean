/- Plain law: paths in a tree. -/
import Derived.Test.YtlehbecajmjgkaaPh
set_option linter.unusedVariables false
set_option linter.unusedSimpArgs false
namespace Go.Proofs.Ytlehbecajmjgkaa.P
open Go Go.Proofs.Ytlehbecajmjgkaa.V Go.Proofs.Ytlehbecajmjgkaa.F

/-- the path of a leaf, from the leaf up -/
noncomputable def pathN : Nat → List Bytes → Nat → List Bytes
  | 0, _, _ => []
  | f + 1, l, i => if l.length ≤ 1 then [] else if i < splitAt l.length then pathN f (l.take (splitAt l.length)) i ++ [treeRoot (l.drop (splitAt l.length))] else pathN f (l.drop (splitAt l.length)) (i - splitAt l.length) ++ [treeRoot (l.take (splitAt l.length))]

def plen : Nat → Nat → Nat → Nat
  | 0, _, _ => 0
  | f + 1, i, n => if n ≤ 1 then 0 else if i < splitAt n then 1 + plen f i (splitAt n) else 1 + plen f (i - splitAt n) (n - splitAt n)

theorem plen_le (f i n : Nat) : plen f i n ≤ f := by
  induction f generalizing i n with
  | zero => simp [plen]
  | succ f ih =>
    simp only [plen]
    split
    · omega
    · split
      · have := ih i (splitAt n); omega
      · have := ih (i - splitAt n) (n - splitAt n); omega

theorem plen_more (f g i n : Nat) (h : n < f) (h' : n < g) : plen f i n = plen g i n := by
  induction f generalizing i n g with
  | zero => omega
  | succ f ih =>
    cases g with
    | zero => omega
    | succ g =>
      simp only [plen]
      split
      · rfl
      · have h1 := splitAt_lt n (by omega)
        have h2 := splitAt_pos n
        rw [ih g i (splitAt n) (by omega) (by omega), ih g (i - splitAt n) (n - splitAt n) (by omega) (by omega)]

theorem pathN_spec (f : Nat) (l : List Bytes) (i : Nat) (h : l.length < f) (hl : l.length ≤ 1048576) (hs : LeafSm l) (hi : i < l.length) :
    impl_PathOfN f l i = some ((pathN f l i, (true, ())), ()) ∧ (pathN f l i).length = plen f i l.length ∧ ∀ x ∈ pathN f l i, x.length = 32 := by
  induction f generalizing l i with
  | zero => omega
  | succ f ih =>
    show impl_PathOfF (impl_PathOfN f) l i = _ ∧ _
    unfold impl_PathOfF
    rw [w64_id (n := (l.length : Int) - 1) (by omega) (by omega), within_eq, le_t (show (0 : Int) ≤ (i : Int) by omega), le_t (show (i : Int) ≤ (l.length : Int) - 1 by omega)]
    simp only [bnd_some, Bool.and_self, Bool.not_true, br_false, pathN, plen]
    by_cases h1 : l.length = 1
    · have e : ((l.length : Int) == 1) = true := by rw [h1]; rfl
      have n1 : l.length ≤ 1 := by omega
      rw [e, br_true]
      simp only [if_pos n1]
      exact ⟨rfl, rfl, by simp⟩
    · have e : ((l.length : Int) == 1) = false := by simp; omega
      have h2 := splitAt_lt l.length (by omega)
      have h3 := splitAt_pos l.length
      have n1 : ¬ l.length ≤ 1 := by omega
      rw [e, br_false, split_eq l.length (by omega) (by omega)]
      simp only [bnd_some, if_neg n1]
      rw [cut_ok (lo := 0) (hi := (splitAt l.length : Int)) (by decide) (by omega) (by omega), cut_ok (lo := (splitAt l.length : Int)) (hi := (l.length : Int)) (by omega) (by omega) (by omega)]
      have ea : ((l.take (splitAt l.length : Int).toNat).drop (Int.toNat 0)) = l.take (splitAt l.length) := by simp
      have eb : ((l.take (l.length : Int).toNat).drop (splitAt l.length : Int).toNat) = l.drop (splitAt l.length) := by simp
      rw [ea, eb]
      have ha : LeafSm (l.take (splitAt l.length)) := fun x hx => hs x (List.mem_of_mem_take hx)
      have hb : LeafSm (l.drop (splitAt l.length)) := fun x hx => hs x (List.mem_of_mem_drop hx)
      have la : (l.take (splitAt l.length)).length = splitAt l.length := by simp; omega
      have lb : (l.drop (splitAt l.length)).length = l.length - splitAt l.length := by simp
      by_cases h4 : i < splitAt l.length
      · rw [lt_t (show (i : Int) < (splitAt l.length : Int) by omega), br_true]
        simp only [if_pos h4]
        obtain ⟨i1, i2, i3⟩ := ih (l.take (splitAt l.length)) i (by omega) (by omega) ha (by omega)
        simp only [bnd_some]
        rw [i1]
        simp only [bnd_some]
        rw [tree_eq _ (by unfold Sm; omega) hb]
        simp only [bnd_some, set1]
        have hple := plen_le f i (splitAt l.length)
        rw [la] at i2
        rw [le_t (len_most (by rw [i2]; simp; have := plen_more f (splitAt l.length + 1) i (splitAt l.length) (by omega) (by omega); have := plen_le (splitAt l.length + 1) i (splitAt l.length); omega)), br_true]
        refine ⟨rfl, by simp [i2]; omega, fun x hx => ?_⟩
        rcases List.mem_append.1 hx with hx | hx
        · exact i3 x hx
        · simp at hx; subst hx; exact tree_len _ hb
      · rw [lt_f (show ¬ (i : Int) < (splitAt l.length : Int) by omega), br_false]
        simp only [if_neg h4]
        obtain ⟨i1, i2, i3⟩ := ih (l.drop (splitAt l.length)) (i - splitAt l.length) (by omega) (by omega) hb (by omega)
        simp only [bnd_some]
        rw [w64_id (n := (i : Int) - (splitAt l.length : Int)) (by omega) (by omega), show (i : Int) - (splitAt l.length : Int) = ((i - splitAt l.length : Nat) : Int) by omega, i1]
        simp only [bnd_some]
        rw [tree_eq _ (by unfold Sm; omega) ha]
        simp only [bnd_some, set1]
        rw [lb] at i2
        rw [le_t (len_most (by rw [i2]; simp; have := plen_more f (l.length + 1) (i - splitAt l.length) (l.length - splitAt l.length) (by omega) (by omega); have := plen_le (l.length + 1) (i - splitAt l.length) (l.length - splitAt l.length); omega)), br_true]
        refine ⟨rfl, by simp [i2]; omega, fun x hx => ?_⟩
        rcases List.mem_append.1 hx with hx | hx
        · exact i3 x hx
        · simp at hx; subst hx; exact tree_len _ ha

theorem pathLenN_eq (f i n : Nat) (h : n < f) (hn : n ≤ 1048576) (hi : i < n) : impl_PathLenN f i n = some (((plen f i n : Int), ()), ()) := by
  induction f generalizing i n with
  | zero => omega
  | succ f ih =>
    show impl_PathLenF (impl_PathLenN f) i n = _
    unfold impl_PathLenF
    simp only [plen]
    by_cases h1 : n ≤ 1
    · rw [lt_t (show (n : Int) < 2 by omega), br_true, if_pos h1]
      rfl
    · have h2 := splitAt_lt n (by omega)
      have h3 := splitAt_pos n
      rw [lt_f (show ¬ (n : Int) < 2 by omega), br_false, if_neg h1, lt_f (show ¬ (1048576 : Int) < n by omega), br_false, w64_id (n := (n : Int) - 1) (by omega) (by omega), within_eq, le_t (show (0 : Int) ≤ (i : Int) by omega), le_t (show (i : Int) ≤ (n : Int) - 1 by omega), split_eq n (by omega) (by omega)]
      simp only [bnd_some, Bool.and_self, Bool.not_true, br_false]
      by_cases h4 : i < splitAt n
      · rw [lt_t (show (i : Int) < (splitAt n : Int) by omega), br_true, if_pos h4, ih i (splitAt n) (by omega) (by omega) h4]
        simp only [bnd_some]
        have := plen_more f (splitAt n + 1) i (splitAt n) (by omega) (by omega)
        have := plen_le (splitAt n + 1) i (splitAt n)
        rw [w64_id (by omega) (by omega)]
        rfl
      · rw [lt_f (show ¬ (i : Int) < (splitAt n : Int) by omega), br_false, if_neg h4, w64_id (n := (i : Int) - (splitAt n : Int)) (by omega) (by omega), w64_id (n := (n : Int) - (splitAt n : Int)) (by omega) (by omega), show (i : Int) - (splitAt n : Int) = ((i - splitAt n : Nat) : Int) by omega, show (n : Int) - (splitAt n : Int) = ((n - splitAt n : Nat) : Int) by omega, ih (i - splitAt n) (n - splitAt n) (by omega) (by omega) (by omega)]
        simp only [bnd_some]
        have := plen_more f (n + 1) (i - splitAt n) (n - splitAt n) (by omega) (by omega)
        have := plen_le (n + 1) (i - splitAt n) (n - splitAt n)
        rw [w64_id (by omega) (by omega)]
        rfl

theorem pathLen_eq (i n : Nat) (hn : n ≤ 1048576) (hi : i < n) : impl_PathLen i n = some (((plen (n + 1) i n : Int), ()), ()) := pathLenN_eq (n + 1) i n (by omega) hn hi

theorem pathRootN_eq (f : Nat) (l : List Bytes) (i : Nat) (h : l.length < f) (hl : l.length ≤ 1048576) (hs : LeafSm l) (hi : i < l.length) (g : Nat) (hg : l.length < g) :
    impl_pathRootN f (leafH (l.getD i [])) i l.length (pathN g l i) = some ((treeRoot l, ()), ()) := by
  have hleaf : ∀ x ∈ l, (leafH x).length = 32 := fun x hx => leaf_len x (hs x hx)
  induction f generalizing l i g with
  | zero => omega
  | succ f ih =>
    show impl_pathRootF (impl_pathRootN f) _ _ _ _ = _
    unfold impl_pathRootF
    by_cases h1 : l.length = 1
    · have e : ((l.length : Int) == 1) = true := by rw [h1]; rfl
      obtain ⟨x, rfl⟩ := List.length_eq_one_iff.1 h1
      obtain rfl : i = 0 := by simp at hi; omega
      rw [e, br_true]
      have : ([x].getD 0 []) = x := rfl
      rw [this, copyBytes_eq _ (by unfold Sm; rw [hleaf x (by simp)]; decide), tree_one]
      rfl
    · have e : ((l.length : Int) == 1) = false := by simp; omega
      have h2 := splitAt_lt l.length (by omega)
      have h3 := splitAt_pos l.length
      cases g with
      | zero => omega
      | succ g =>
        have hps := (pathN_spec (g + 1) l i (by omega) hl hs hi).2
        have hpl : (pathN (g + 1) l i).length ≤ 1048577 := by
          rw [hps.1, plen_more (g + 1) (l.length + 1) i l.length (by omega) (by omega)]
          have := plen_le (l.length + 1) i l.length
          omega
        rw [e, br_false, split_eq l.length (by omega) (by omega)]
        simp only [bnd_some]
        have ha : LeafSm (l.take (splitAt l.length)) := fun x hx => hs x (List.mem_of_mem_take hx)
        have hb : LeafSm (l.drop (splitAt l.length)) := fun x hx => hs x (List.mem_of_mem_drop hx)
        have la : (l.take (splitAt l.length)).length = splitAt l.length := by simp; omega
        have lb : (l.drop (splitAt l.length)).length = l.length - splitAt l.length := by simp
        rw [tree_split l (by omega)]
        by_cases h4 : i < splitAt l.length
        · rw [lt_t (show (i : Int) < (splitAt l.length : Int) by omega), br_true]
          have ep : pathN (g + 1) l i = pathN g (l.take (splitAt l.length)) i ++ [treeRoot (l.drop (splitAt l.length))] := by simp only [pathN]; rw [if_neg (by omega), if_pos h4]
          rw [ep] at hpl ⊢
          generalize hq : pathN g (l.take (splitAt l.length)) i = q at hpl ⊢
          have eL : (((q ++ [treeRoot (l.drop (splitAt l.length))]).length : Nat) : Int) - 1 = q.length := by simp
          simp only [List.length_append, List.length_singleton] at hpl
          rw [eL, w64_id (n := (q.length : Int)) (by omega) (by omega), cut_ok (by decide) (by omega) (by simp; omega), bIdx_ok (x := treeRoot (l.drop (splitAt l.length))) (by omega) (by simp)]
          have eq : (((q ++ [treeRoot (l.drop (splitAt l.length))]).take (q.length : Int).toNat).drop (Int.toNat 0)) = q := by simp
          rw [eq]
          simp only [bnd_some]
          have hih := ih (l.take (splitAt l.length)) i (by omega) (by omega) ha (by omega) g (by omega) (fun x hx => hleaf x (List.mem_of_mem_take hx))
          rw [la, hq] at hih
          have eg : (l.take (splitAt l.length)).getD i [] = l.getD i [] := by
            rw [List.getD_eq_getElem?_getD, List.getD_eq_getElem?_getD, List.getElem?_take, if_pos h4]
          rw [eg] at hih
          rw [hih]
          simp only [bnd_some]
          rw [node_eq _ _ (tree_len _ ha) (tree_len _ hb)]
          rfl
        · rw [lt_f (show ¬ (i : Int) < (splitAt l.length : Int) by omega), br_false]
          have ep : pathN (g + 1) l i = pathN g (l.drop (splitAt l.length)) (i - splitAt l.length) ++ [treeRoot (l.take (splitAt l.length))] := by simp only [pathN]; rw [if_neg (by omega), if_neg h4]
          rw [ep] at hpl ⊢
          generalize hq : pathN g (l.drop (splitAt l.length)) (i - splitAt l.length) = q at hpl ⊢
          have eL : (((q ++ [treeRoot (l.take (splitAt l.length))]).length : Nat) : Int) - 1 = q.length := by simp
          simp only [List.length_append, List.length_singleton] at hpl
          rw [eL, w64_id (n := (q.length : Int)) (by omega) (by omega), cut_ok (by decide) (by omega) (by simp; omega), bIdx_ok (x := treeRoot (l.take (splitAt l.length))) (by omega) (by simp)]
          have eq : (((q ++ [treeRoot (l.take (splitAt l.length))]).take (q.length : Int).toNat).drop (Int.toNat 0)) = q := by simp
          rw [eq]
          simp only [bnd_some]
          rw [w64_id (n := (i : Int) - (splitAt l.length : Int)) (by omega) (by omega), w64_id (n := (l.length : Int) - (splitAt l.length : Int)) (by omega) (by omega), show (i : Int) - (splitAt l.length : Int) = ((i - splitAt l.length : Nat) : Int) by omega, show (l.length : Int) - (splitAt l.length : Int) = ((l.length - splitAt l.length : Nat) : Int) by omega]
          have hih := ih (l.drop (splitAt l.length)) (i - splitAt l.length) (by omega) (by omega) hb (by omega) g (by omega) (fun x hx => hleaf x (List.mem_of_mem_drop hx))
          rw [lb, hq] at hih
          have eg : (l.drop (splitAt l.length)).getD (i - splitAt l.length) [] = l.getD i [] := by
            rw [List.getD_eq_getElem?_getD, List.getD_eq_getElem?_getD, List.getElem?_drop]
            congr 2
            omega
          rw [eg] at hih
          rw [hih]
          simp only [bnd_some]
          rw [node_eq _ _ (tree_len _ ha) (tree_len _ hb)]
          rfl

/-- the path of a leaf of a tree -/
noncomputable def path (l : List Bytes) (i : Nat) : List Bytes := pathN (l.length + 1) l i

theorem path_eq (l : List Bytes) (i : Nat) (hl : l.length ≤ 1048576) (hs : LeafSm l) (hi : i < l.length) : impl_PathOf l i = some ((path l i, (true, ())), ()) :=
  (pathN_spec (l.length + 1) l i (by omega) hl hs hi).1

theorem pathOk_eq (l : List Bytes) (i : Nat) (hl : l.length ≤ 1048576) (hs : LeafSm l) (hi : i < l.length) : impl_PathOk (l.getD i []) i l.length (path l i) (treeRoot l) = some ((true, ()), ()) := by
  obtain ⟨_, h2, h3⟩ := pathN_spec (l.length + 1) l i (by omega) hl hs hi
  have hx : (l.getD i []).length ≤ 200000000 := by
    rw [List.getD_eq_getElem?_getD, List.getElem?_eq_getElem hi]
    exact hs _ (List.getElem_mem hi)
  have hpl := plen_le (l.length + 1) i l.length
  unfold impl_PathOk
  rw [leaf_eq _ hx]
  simp only [bnd_some]
  have hr : impl_PathRoot (leafH (l.getD i [])) i l.length (path l i) = some ((treeRoot l, (true, ())), ()) := by
    unfold impl_PathRoot
    rw [set1, areHashes_eq _ (sm1 _), lt_f (show ¬ (l.length : Int) < 1 by omega), lt_f (show ¬ (1048576 : Int) < l.length by omega), w64_id (n := (l.length : Int) - 1) (by omega) (by omega), within_eq, le_t (show (0 : Int) ≤ (i : Int) by omega), le_t (show (i : Int) ≤ (l.length : Int) - 1 by omega), pathLen_eq i l.length hl hi, areHashes_eq _ (by unfold Sm path; omega)]
    have e1 : ([leafH (l.getD i [])].all fun x => x.length == 32) = true := by simp only [List.all_cons, List.all_nil, leaf_len _ hx]; rfl
    have e2 : ((path l i).all fun x => x.length == 32) = true := by rw [List.all_eq_true]; intro x hx; simp [h3 x hx]
    have e3 : (((path l i).length : Int) != (plen (l.length + 1) i l.length : Int)) = false := by unfold path; rw [h2]; simp
    simp only [bnd_some, e1, e2, e3, Bool.not_true, br_false, Bool.and_self]
    have := pathRootN_eq (l.length + 1) l i (by omega) hl hs hi (l.length + 1) (by omega)
    have e4 : impl_pathRoot (leafH (l.getD i [])) i l.length (path l i) = some ((treeRoot l, ()), ()) := by
      unfold impl_pathRoot impl_pathRootQ
      rw [show ((l.length : Int).toNat + 1) = l.length + 1 by omega]
      exact this
    rw [e4]
    rfl
  rw [hr]
  simp only [bnd_some, br_true, same_eq]
  rw [eq_t rfl]

end Go.Proofs.Ytlehbecajmjgkaa.P
