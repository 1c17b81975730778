/- Plain law: pushing onto a stack, and its root. -/
import Derived.Test.YtlehbecajmjgkaaPg
set_option linter.unusedVariables false
set_option linter.unusedSimpArgs false
namespace Go.Proofs.Ytlehbecajmjgkaa.P
open Go Go.Proofs.Ytlehbecajmjgkaa.V Go.Proofs.Ytlehbecajmjgkaa.F

abbrev Stack : Type := List Int × (List Bytes × Unit)

theorem stackOk_t (s : Stack) (h1 : ∀ h ∈ s.1, 0 ≤ h ∧ h ≤ 20) (h2 : s.1.Pairwise (· > ·)) (h3 : s.1.length = s.2.1.length) (h4 : ∀ x ∈ s.2.1, x.length = 32) (h5 : Sm s.1) : impl_StackOk s = some ((true, ()), ()) := by
  have h5' := h5
  unfold Sm at h5
  unfold impl_StackOk
  generalize hst : iter _ _ = o
  obtain ⟨r, rfl, hq⟩ := iter_stp hst (fun y => (s.1.length - y.1.2.2.2.1.toNat)) (fun y => y.1.2.1 = s.1 ∧ y.1.2.2.1 = (s.1.length : Int) ∧ 0 ≤ y.1.2.2.2.1 ∧ y.1.2.2.2.1 ≤ s.1.length ∧ y.2.1 = s) (fun r => r = ((true, ()), ())) (by
    intro a ha
    obtain ⟨a1, a2, a3, a4, a5⟩ := ha
    by_cases a6 : a.1.2.2.2.1 < a.1.2.2.1
    · have hlt : a.1.2.2.2.1.toNat < s.1.length := by omega
      refine p_lt a6 ?_
      rw [a1, bIdx_ok a3 (List.getElem?_eq_getElem hlt)]
      simp only [bnd_some]
      have hb := h1 _ (List.getElem_mem hlt)
      rw [within_eq, le_t hb.1, le_t hb.2]
      simp only [bnd_some, Bool.and_self, Bool.not_true, br_false]
      rw [w64_id (n := a.1.2.2.2.1 + 1) (by omega) (by omega)]
      by_cases a7 : 0 < a.1.2.2.2.1
      · refine p_lt a7 ?_
        rw [w64_id (n := a.1.2.2.2.1 - 1) (by omega) (by omega), a5]
        have hlt2 : (a.1.2.2.2.1 - 1).toNat < s.1.length := by omega
        rw [bIdx_ok (by omega) (List.getElem?_eq_getElem hlt2)]
        simp only [bnd_some]
        have := List.pairwise_iff_getElem.1 h2 (a.1.2.2.2.1 - 1).toNat a.1.2.2.2.1.toNat hlt2 hlt (by omega)
        refine p_f (le_f (by omega)) ?_
        exact .inl ⟨_, rfl, ⟨rfl, a2, by simp only; omega, by simp only; omega, rfl⟩, by simp only; omega⟩
      · refine p_nlt a7 ?_
        exact .inl ⟨_, rfl, ⟨rfl, a2, by simp only; omega, by simp only; omega, a5⟩, by simp only; omega⟩
    · refine p_nlt a6 ?_
      rw [a5]
      refine p_t (by rw [h3]; simp) ?_
      rw [areHashes_eq _ (by unfold Sm; omega)]
      simp only [bnd_some]
      have : (s.2.1.all fun x => x.length == 32) = true := by rw [List.all_eq_true]; intro x hx; simp [h4 x hx]
      rw [this]
      exact .inr ⟨_, rfl, rfl⟩) ⟨rfl, rfl, Int.le_refl _, by simp only; omega, rfl⟩
  rw [hq]

/-- a stack of these leaves -/
structure St (s : Stack) (l : List Bytes) : Prop where
  bl : Blocks s.1 s.2.1 l
  dec : s.1.Pairwise (· > ·)

theorem blocks_short {hs : List Int} {xs l : List Bytes} (hb : Blocks hs xs l) : hs.length ≤ l.length := by
  induction hs generalizing xs l with
  | nil => simp
  | cons h hs ih => cases xs with
    | nil => exact hb.elim
    | cons x xs =>
      obtain ⟨k, a, b, rfl, rfl, h3, rfl, h5⟩ := hb
      have := ih h5
      have : 0 < 2 ^ k := Nat.pow_pos (by omega)
      simp only [List.length_append, List.length_cons]
      omega

theorem St.ok {s : Stack} {l : List Bytes} (h : St s l) (hl : l.length ≤ 1048576) (hs : LeafSm l) : impl_StackOk s = some ((true, ()), ()) :=
  stackOk_t s (h.bl.bound hl) h.dec h.bl.len (h.bl.hash hs) (by have := blocks_short h.bl; unfold Sm; omega)

theorem pair_last {p : List Int} {y h : Int} : (p ++ [y]).Pairwise (· > ·) → h < y → ((p ++ [y]) ++ [h]).Pairwise (· > ·) := by
  intro hp hh
  rw [List.pairwise_append] at hp ⊢
  refine ⟨List.pairwise_append.2 hp, by simp, fun a ha b hb => ?_⟩
  simp at hb
  subst hb
  rcases List.mem_append.1 ha with ha | ha
  · have := hp.2.2 a ha y (by simp); omega
  · simp at ha; omega

theorem push_ok (s : Stack) (l : List Bytes) (x : Bytes) (h : St s l) (hl : l.length < 1048576) (hs : LeafSm l) (hx : x.length ≤ 200000000) :
    ∃ s', impl_StackPush s (leafH x) = some ((s', (true, ())), ()) ∧ St s' (l ++ [x]) := by
  have hs' : LeafSm (l ++ [x]) := by
    intro y hy
    rcases List.mem_append.1 hy with hy | hy
    · exact hs y hy
    · simp at hy; subst hy; exact hx
  have hlen := leaf_len x hx
  have hsh := blocks_short h.bl
  have hxl := h.bl.len
  have main : ∃ r, impl_StackPush s (leafH x) = some r ∧ ∃ s', r = ((s', (true, ())), ()) ∧ St s' (l ++ [x]) := by
    unfold impl_StackPush
    rw [h.ok (by omega) hs, set1, areHashes_eq _ (sm1 _)]
    simp only [bnd_some, Bool.not_true, br_false, List.all_cons, List.all_nil, hlen, rep0, set1]
    refine p_f (P := fun o => ∃ r : RDen o28 × BDen i28, o = some r ∧ ∃ s', r = ((s', (true, ())), ()) ∧ St s' (l ++ [x])) (by rfl) ?_
    refine p_le (P := fun o => ∃ r : RDen o28 × BDen i28, o = some r ∧ ∃ s', r = ((s', (true, ())), ()) ∧ St s' (l ++ [x])) (len_most (by simp; omega)) ?_
    refine p_le (P := fun o => ∃ r : RDen o28 × BDen i28, o = some r ∧ ∃ s', r = ((s', (true, ())), ()) ∧ St s' (l ++ [x])) (len_most (by simp; omega)) ?_
    rw [copyList_eq s.2.1 (by unfold Sm; omega) (fun y hy => by have := h.bl.hash hs y hy; unfold Sm; omega), copyBytes_eq _ (by unfold Sm; omega)]
    simp only [bnd_some, List.nil_append]
    refine p_le (P := fun o => ∃ r : RDen o28 × BDen i28, o = some r ∧ ∃ s', r = ((s', (true, ())), ()) ∧ St s' (l ++ [x])) (len_most (by simp; omega)) ?_
    refine p_iter (P := fun o => ∃ r : RDen o28 × BDen i28, o = some r ∧ ∃ s', r = ((s', (true, ())), ()) ∧ St s' (l ++ [x])) (fun y => y.1.2.1.toNat)
      (fun y => y.1.2.1 = (y.2.2.1.1.length : Int) ∧ Blocks y.2.2.1.1 y.2.2.1.2.1 (l ++ [x]) ∧ ∃ p e, y.2.2.1.1 = p ++ [e] ∧ p.Pairwise (· > ·) ∧ ∀ q z, p = q ++ [z] → e ≤ z) (fun r => ∃ s', r = ((s', (true, ())), ()) ∧ St s' (l ++ [x])) (fun a ha => ?_)
      ⟨rfl, h.bl.app Blocks.one, s.1, 0, rfl, h.dec, fun q z hq => (h.bl.bound (by omega) z (by rw [hq]; simp)).1⟩ (fun r hr => ⟨r, rfl, hr⟩)
    obtain ⟨a1, a2, p, e, a3, a4, a5⟩ := ha
    have hsl := blocks_short a2
    have hhash := a2.hash hs'
    have hxl2 := a2.len
    simp only [List.length_append, List.length_singleton] at hsl
    have fin : (p ++ [e]).Pairwise (· > ·) → St a.2.2.1 (l ++ [x]) := fun hp => ⟨a2, by rw [a3]; exact hp⟩
    by_cases a6 : 1 < a.1.2.1
    · refine p_lt a6 ?_
      have hpl : p ≠ [] := by
        rintro rfl
        rw [a1, a3] at a6
        simp at a6
      obtain ⟨q, z, rfl⟩ : ∃ q z, p = q ++ [z] := ⟨p.dropLast, p.getLast hpl, (List.dropLast_concat_getLast hpl).symm⟩
      have hez := a5 q z rfl
      have hl1 : a.1.2.1 = (q.length : Int) + 2 := by rw [a1, a3]; simp only [List.length_append, List.length_singleton]; omega
      have hl2 : a.2.2.1.1.length = q.length + 2 := by rw [a3]; simp
      rw [w64_id (n := a.1.2.1 - 1) (by omega) (by omega), w64_id (n := a.1.2.1 - 2) (by omega) (by omega)]
      have g1 : a.2.2.1.1[(a.1.2.1 - 1).toNat]? = some e := by
        rw [a3, show (a.1.2.1 - 1).toNat = (q ++ [z]).length by simp; omega, List.getElem?_append_right (Nat.le_refl _)]
        simp
      have g2 : a.2.2.1.1[(a.1.2.1 - 2).toNat]? = some z := by
        rw [a3, List.append_assoc, show (a.1.2.1 - 2).toNat = q.length by omega, List.getElem?_append_right (Nat.le_refl _)]
        simp
      rw [bIdx_ok (by omega) g1, bIdx_ok (by omega) g2]
      simp only [bnd_some]
      by_cases hee : e = z
      · subst hee
        refine p_t (by simp) ?_
        -- the last two are joined
        have b1 := a2
        rw [a3] at b1
        obtain ⟨k, ys, la, lb, k1, k2, k3, k4, k5⟩ := b1.snoc
        obtain ⟨k', ys', la', lb', j1, j2, j3, j4, j5⟩ := k5.snoc
        have hkk : k' = k := by omega
        subst hkk
        have hys : ys'.length = q.length := j5.len.symm
        have c1 : a.2.2.1.2.1[(a.1.2.1 - 2).toNat]? = some (treeRoot lb') := by
          rw [k2, j2, List.append_assoc, show (a.1.2.1 - 2).toNat = ys'.length by omega, List.getElem?_append_right (Nat.le_refl _)]
          simp
        have c2 : a.2.2.1.2.1[(a.1.2.1 - 1).toNat]? = some (treeRoot lb) := by
          rw [k2, j2, show (a.1.2.1 - 1).toNat = (ys' ++ [treeRoot lb']).length by simp; omega, List.getElem?_append_right (Nat.le_refl _)]
          simp
        rw [bIdx_ok (by omega) c1, bIdx_ok (by omega) c2]
        simp only [bnd_some]
        have d1 : (treeRoot lb').length = 32 := hhash _ (by rw [k2, j2]; simp)
        have d2 : (treeRoot lb).length = 32 := hhash _ (by rw [k2]; simp)
        rw [node_eq _ _ d1 d2]
        simp only [bnd_some]
        have hz := a2.bound (by simp; omega) e (by rw [a3]; simp)
        rw [w64_id (n := e + 1) (by omega) (by omega)]
        have s1 : (List.set a.2.2.1.1 (a.1.2.1 - 2).toNat (e + 1)) = (q ++ [e + 1]) ++ [e] := by
          rw [a3, show (a.1.2.1 - 2).toNat = q.length by omega]
          simp
        have s2 : (List.set a.2.2.1.2.1 (a.1.2.1 - 2).toNat (nodeH (treeRoot lb') (treeRoot lb))) = (ys' ++ [nodeH (treeRoot lb') (treeRoot lb)]) ++ [treeRoot lb] := by
          rw [k2, j2, show (a.1.2.1 - 2).toNat = ys'.length by omega]
          simp
        rw [s1, s2, cut_ok (by decide) (by omega) (by simp; omega), cut_ok (by decide) (by omega) (by simp; omega)]
        have t1 : ((((q ++ [e + 1]) ++ [e]).take (a.1.2.1 - 1).toNat).drop (Int.toNat 0)) = q ++ [e + 1] := by
          rw [show (a.1.2.1 - 1).toNat = (q ++ [e + 1]).length by simp; omega, List.take_left' rfl]
          rfl
        have t2 : ((((ys' ++ [nodeH (treeRoot lb') (treeRoot lb)]) ++ [treeRoot lb]).take (a.1.2.1 - 1).toNat).drop (Int.toNat 0)) = ys' ++ [nodeH (treeRoot lb') (treeRoot lb)] := by
          rw [show (a.1.2.1 - 1).toNat = (ys' ++ [nodeH (treeRoot lb') (treeRoot lb)]).length by simp; omega, List.take_left' rfl]
          rfl
        rw [t1, t2]
        simp only [bnd_some]
        have hp2 : (0 : Nat) < 2 ^ k' := Nat.pow_pos (by omega)
        have hjoin : nodeH (treeRoot lb') (treeRoot lb) = treeRoot (lb' ++ lb) := (root_join j4 (by omega) (by omega)).symm
        have hnew : Blocks (q ++ [e + 1]) (ys' ++ [nodeH (treeRoot lb') (treeRoot lb)]) (l ++ [x]) := by
          rw [k3, j3, List.append_assoc]
          refine j5.app ⟨k' + 1, lb' ++ lb, [], by omega, by simp, by rw [Nat.pow_succ]; simp; omega, hjoin, by simp [Blocks]⟩
        refine .inl ⟨_, rfl, ⟨?_, hnew, q, e + 1, rfl, ?_, ?_⟩, by simp only; omega⟩
        · simp only; simp; omega
        · exact (List.pairwise_append.1 a4).1
        · intro q' z' hq
          have := (List.pairwise_append.1 a4).2.2 z' (by rw [hq]; simp) e (by simp)
          omega
      · refine p_f (by simp; exact hee) ?_
        have hst := fin (pair_last a4 (by omega))
        rw [hst.ok (by simp; omega) hs']
        exact .inr ⟨_, rfl, _, rfl, hst⟩
    · refine p_nlt a6 ?_
      have hp0 : p = [] := by
        have : a.1.2.1 = (p.length : Int) + 1 := by rw [a1, a3]; simp
        exact List.length_eq_zero_iff.1 (by omega)
      subst hp0
      have hst := fin (by simp)
      rw [hst.ok (by simp; omega) hs']
      exact .inr ⟨_, rfl, _, rfl, hst⟩
  obtain ⟨r, hr, s', rfl, hq⟩ := main
  exact ⟨s', hr, hq⟩

theorem stackOf_ok (l : List Bytes) (hl : l.length < 1048576) (hs : LeafSm l) : ∃ s, impl_StackOf l = some ((s, (true, ())), ()) ∧ St s l := by
  unfold impl_StackOf
  generalize hst : iter _ _ = o
  obtain ⟨r, rfl, s, hr, hq⟩ := iter_stp hst (fun y => (l.length - y.1.2.2.2.1.toNat)) (fun y => y.1.2.1 = l ∧ y.1.2.2.1 = (l.length : Int) ∧ 0 ≤ y.1.2.2.2.1 ∧ y.1.2.2.2.1 ≤ l.length ∧ St y.2.2.1 (l.take y.1.2.2.2.1.toNat)) (fun r => ∃ s, r = ((s, (true, ())), ()) ∧ St s l) (fun a ha => by
    obtain ⟨a1, a2, a3, a4, a5⟩ := ha
    by_cases a6 : a.1.2.2.2.1 < a.1.2.2.1
    · have hlt : a.1.2.2.2.1.toNat < l.length := by omega
      refine p_lt a6 ?_
      rw [a1, bIdx_ok a3 (List.getElem?_eq_getElem hlt)]
      simp only [bnd_some]
      rw [leaf_eq _ (hs _ (List.getElem_mem hlt))]
      simp only [bnd_some]
      obtain ⟨s', e, hs'⟩ := push_ok a.2.2.1 _ l[a.1.2.2.2.1.toNat] a5 (by simp; omega) (fun x hx => hs x (List.mem_of_mem_take hx)) (hs _ (List.getElem_mem hlt))
      rw [e]
      simp only [bnd_some, Bool.not_true, br_false]
      rw [w64_id (n := a.1.2.2.2.1 + 1) (by omega) (by omega)]
      refine .inl ⟨_, rfl, ⟨rfl, a2, by simp only; omega, by simp only; omega, ?_⟩, by simp only; omega⟩
      simp only
      rw [show (a.1.2.2.2.1 + 1).toNat = a.1.2.2.2.1.toNat + 1 by omega, List.take_succ_eq_append_getElem hlt]
      exact hs'
    · refine p_nlt a6 ?_
      rw [List.take_of_length_le (by omega)] at a5
      exact .inr ⟨_, rfl, _, rfl, a5⟩) ⟨rfl, rfl, Int.le_refl _, by simp only; omega, ⟨by simp [Blocks], by simp⟩⟩
  exact ⟨s, by rw [hr], hq⟩

/-- the roots of blocks, from the last to the first -/
noncomputable def foldRoot : List Bytes → Bytes
  | [] => []
  | [x] => x
  | x :: y :: r => nodeH x (foldRoot (y :: r))

theorem foldRoot_eq {hs : List Int} {xs l : List Bytes} (hb : Blocks hs xs l) (hd : hs.Pairwise (· > ·)) (h0 : xs ≠ []) : foldRoot xs = treeRoot l ∧ 0 < l.length := by
  induction hs generalizing xs l with
  | nil => cases xs with
    | nil => exact absurd rfl h0
    | cons _ _ => exact hb.elim
  | cons h hs ih => cases xs with
    | nil => exact hb.elim
    | cons x xs =>
      obtain ⟨k, a, b, rfl, rfl, h3, rfl, h5⟩ := hb
      have hp : 0 < 2 ^ k := Nat.pow_pos (by omega)
      rw [List.pairwise_cons] at hd
      cases xs with
      | nil =>
        cases hs with
        | nil => simp only [Blocks] at h5; subst h5; simp only [foldRoot, List.append_nil]; exact ⟨trivial, by omega⟩
        | cons _ _ => exact h5.elim
      | cons y r =>
        obtain ⟨i1, i2⟩ := ih h5 hd.2 (by simp)
        have hlt := h5.less k (fun z hz => hd.1 z hz) hd.2
        rw [foldRoot, i1, root_join h3 i2 (by omega)]
        exact ⟨rfl, by simp; omega⟩

theorem foldRoot_len {xs : List Bytes} (h : ∀ x ∈ xs, x.length = 32) (h0 : xs ≠ []) : (foldRoot xs).length = 32 := by
  induction xs with
  | nil => exact absurd rfl h0
  | cons x r ih =>
    cases r with
    | nil => exact h x (by simp)
    | cons y r => exact node_len _ _ (h x (by simp)) (ih (fun z hz => h z (List.mem_cons_of_mem _ hz)) (by simp))

theorem foldRoot_drop (xs : List Bytes) (i : Nat) (h : i + 1 < xs.length) : foldRoot (xs.drop i) = nodeH xs[i] (foldRoot (xs.drop (i + 1))) := by
  rw [List.drop_eq_getElem_cons (by omega)]
  have : xs.drop (i + 1) ≠ [] := by intro hh; have := congrArg List.length hh; simp at this; omega
  cases hq : xs.drop (i + 1) with
  | nil => exact absurd hq this
  | cons y r => rfl

theorem stackRoot_ok (s : Stack) (l : List Bytes) (h : St s l) (hl : l.length ≤ 1048576) (hs : LeafSm l) (h0 : 0 < l.length) : impl_StackRoot s = some ((treeRoot l, ()), ()) := by
  have hne : s.2.1 ≠ [] := by
    intro hh
    have := h.bl
    have e := h.bl.len
    rw [hh] at this e
    have e1 : s.1 = [] := List.length_eq_zero_iff.1 (by simpa using e)
    rw [e1] at this
    simp only [Blocks] at this
    rw [this] at h0
    simp at h0
  have hlen : 0 < s.2.1.length := List.length_pos_iff.2 hne
  have hsh := blocks_short h.bl
  have hxl := h.bl.len
  have hhash := h.bl.hash hs
  unfold impl_StackRoot
  rw [h.ok hl hs]
  simp only [bnd_some, Bool.not_true, br_false]
  have e0 : ((s.2.1.length : Int) == 0) = false := by simp; exact hne
  rw [e0, br_false, w64_id (n := (s.2.1.length : Int) - 1) (by omega) (by omega), w64_id (n := (s.2.1.length : Int) - 2) (by omega) (by omega)]
  have hlt : ((s.2.1.length : Int) - 1).toNat < s.2.1.length := by omega
  rw [bIdx_ok (by omega) (List.getElem?_eq_getElem hlt)]
  simp only [bnd_some]
  rw [copyBytes_eq _ (by have := hhash _ (List.getElem_mem hlt); unfold Sm; omega)]
  simp only [bnd_some]
  generalize hst : iter _ _ = o
  obtain ⟨r, rfl, hq⟩ := iter_stp hst (fun y => (y.1.2.1 + 1).toNat) (fun y => y.2.1 = s ∧ -1 ≤ y.1.2.1 ∧ y.1.2.1 < (s.2.1.length : Int) - 1 ∧ y.1.1 = foldRoot (s.2.1.drop (y.1.2.1 + 1).toNat)) (fun r => r = ((treeRoot l, ()), ())) (fun a ha => by
    obtain ⟨a1, a2, a3, a4⟩ := ha
    by_cases a5 : 0 ≤ a.1.2.1
    · refine p_le a5 ?_
      have hlt2 : a.1.2.1.toNat < s.2.1.length := by omega
      rw [a1, bIdx_ok a5 (List.getElem?_eq_getElem hlt2), w64_id (n := a.1.2.1 - 1) (by omega) (by omega)]
      simp only [bnd_some]
      have hl1 : (foldRoot (s.2.1.drop (a.1.2.1 + 1).toNat)).length = 32 := foldRoot_len (fun x hx => hhash x (List.mem_of_mem_drop hx)) (by intro hh; have := congrArg List.length hh; simp at this; omega)
      rw [a4, node_eq _ _ (hhash _ (List.getElem_mem hlt2)) hl1]
      simp only [bnd_some]
      refine .inl ⟨_, rfl, ⟨rfl, by simp only; omega, by simp only; omega, ?_⟩, by simp only; omega⟩
      simp only
      rw [show (a.1.2.1 - 1 + 1).toNat = a.1.2.1.toNat by omega, show (a.1.2.1 + 1).toNat = a.1.2.1.toNat + 1 by omega, ← foldRoot_drop _ _ (by omega)]
    · refine p_f (le_f a5) ?_
      refine .inr ⟨_, rfl, ?_⟩
      rw [a4, show (a.1.2.1 + 1).toNat = 0 by omega, List.drop_zero, (foldRoot_eq h.bl h.dec hne).1]) ⟨rfl, by simp only; omega, by simp only; omega, by
      simp only
      rw [show ((s.2.1.length : Int) - 2 + 1).toNat = ((s.2.1.length : Int) - 1).toNat by omega, List.drop_eq_getElem_cons hlt, List.drop_of_length_le (by omega)]
      rfl⟩
  rw [hq]

end Go.Proofs.Ytlehbecajmjgkaa.P
