/- Plain law: blocks; a stack of perfect trees has the root of the whole tree. -/
import Derived.Test.YtlehbecajmjgkaaPf
set_option linter.unusedVariables false
set_option linter.unusedSimpArgs false
namespace Go.Proofs.Ytlehbecajmjgkaa.P
open Go Go.Proofs.Ytlehbecajmjgkaa.V Go.Proofs.Ytlehbecajmjgkaa.F

abbrev Block : Type := Head × (List Bytes × Unit)

noncomputable def blockB (l : Lim) (x : Block) : Bool := (x.2.1.all fun t => leB (t.length : Int) l.2.1) && (headB l x.1 && (leB (x.2.1.length : Int) l.2.2.1 && eqD x.1.2.2.2.2.1 (treeRoot x.2.1)))

theorem blockOk_eq (l : Lim) (x : Block) (hs : HeadSm x.1) (hx : Sm x.2.1) (hl : LeafSm x.2.1) : impl_BlockOk l x = some ((blockB l x, ()), ()) := by
  have hx' := hx
  unfold Sm at hx
  unfold impl_BlockOk
  generalize hst : iter _ _ = o
  obtain ⟨r, rfl, hq⟩ := iter_stp hst (fun y => (x.2.1.length - y.1.2.2.2.1.toNat)) (fun y => y.1.2.1 = x.2.1 ∧ y.1.2.2.1 = (x.2.1.length : Int) ∧ 0 ≤ y.1.2.2.2.1 ∧ y.1.2.2.2.1 ≤ x.2.1.length ∧ (x.2.1.take y.1.2.2.2.1.toNat).all (fun t => leB (t.length : Int) l.2.1) = true ∧ y.2.1 = l ∧ y.2.2.1 = x) (fun r => r = ((blockB l x, ()), ())) (by
    intro a ha
    obtain ⟨h1, h2, h3, h4, h5, h8, h9⟩ := ha
    by_cases h6 : a.1.2.2.2.1 < a.1.2.2.1
    · have hlt : a.1.2.2.2.1.toNat < x.2.1.length := by omega
      refine p_lt h6 ?_
      rw [h1, bIdx_ok h3 (List.getElem?_eq_getElem hlt)]
      simp only [bnd_some]
      rw [h8]
      by_cases h7 : l.2.1 < (x.2.1[a.1.2.2.2.1.toNat].length : Int)
      · refine p_lt h7 ?_
        refine .inr ⟨_, rfl, ?_⟩
        have : blockB l x = false := by
          unfold blockB
          rw [show (x.2.1.all fun t => leB (t.length : Int) l.2.1) = false from by rw [List.all_eq_false]; exact ⟨_, List.getElem_mem hlt, by rw [le_f (by omega)]; simp⟩]
          rfl
        rw [this]
      · refine p_nlt h7 ?_
        rw [w64_id (n := a.1.2.2.2.1 + 1) (by omega) (by omega)]
        refine .inl ⟨_, rfl, ⟨rfl, h2, by simp only; omega, by simp only; omega, ?_, rfl, h9⟩, by simp only; omega⟩
        simp only
        rw [show (a.1.2.2.2.1 + 1).toNat = a.1.2.2.2.1.toNat + 1 by omega, List.take_succ_eq_append_getElem hlt, List.all_append, h5]
        simp [le_t (a := (x.2.1[a.1.2.2.2.1.toNat].length : Int)) (b := l.2.1) (by omega)]
    · refine p_nlt h6 ?_
      rw [List.take_of_length_le (by omega)] at h5
      rw [h8, h9, headOk_eq l x.1 hs, tree_eq x.2.1 hx' hl]
      simp only [bnd_some, same_eq]
      unfold blockB
      rw [h5]
      cases headB l x.1 with
      | false => exact .inr ⟨_, rfl, rfl⟩
      | true =>
        cases leB (x.2.1.length : Int) l.2.2.1 with
        | false => exact .inr ⟨_, rfl, rfl⟩
        | true => exact .inr ⟨_, rfl, rfl⟩) ⟨rfl, rfl, Int.le_refl _, by simp only; omega, by simp, rfl, rfl⟩
  rw [hq]

def withRoot (h : Head) (r : Bytes) : Head := (h.1, (h.2.1, (h.2.2.1, (h.2.2.2.1, (r, h.2.2.2.2.2)))))
def noHead : Head := (0, (0, (0, ([], ([], ((0, (0, ([], ([], ([], ()))))), ()))))))
theorem withRoot_sm {h : Head} {r : Bytes} (hs : HeadSm h) (hr : Sm r) : HeadSm (withRoot h r) := ⟨hs.1, hr, hs.2.2⟩

/-- the block of a header and transactions -/
theorem blockOf_few (l : Lim) (h : Head) (txs : List Bytes) (hs : HeadSm h) (ht : LeafSm txs) (hn : txs.length ≤ 8) :
    impl_BlockOf l h txs = some ((if blockB l (withRoot h (treeRoot txs), (txs, ())) then ((withRoot h (treeRoot txs), (txs, ())), (true, ())) else ((noHead, ([], ())), (false, ()))), ()) := by
  unfold impl_BlockOf
  have hsm : Sm txs := by unfold Sm; omega
  rw [headCopied_eq h hs, copyList_eq txs hsm (fun x hx => by have := ht x hx; unfold Sm; omega)]
  simp only [bnd_some]
  rw [le_t (by omega), br_true, tree_eq txs hsm ht]
  simp only [bnd_some]
  have hb := blockOk_eq l (withRoot h (treeRoot txs), (txs, ())) (withRoot_sm hs (by unfold Sm; rw [tree_len txs ht]; decide)) hsm ht
  unfold withRoot at hb ⊢
  rw [hb]
  simp only [bnd_some]
  cases blockB l ((h.1, (h.2.1, (h.2.2.1, (h.2.2.2.1, (treeRoot txs, h.2.2.2.2.2))))), (txs, ())) <;> rfl

theorem blockOf_many (l : Lim) (h : Head) (txs : List Bytes) (hs : HeadSm h) (ht : LeafSm txs) (hn : 8 < txs.length) (hn2 : Sm txs) (hl : l.2.2.1 ≤ 8) : impl_BlockOf l h txs = some (((noHead, ([], ())), (false, ())), ()) := by
  unfold impl_BlockOf
  rw [headCopied_eq h hs, copyList_eq txs hn2 (fun x hx => by have := ht x hx; unfold Sm; omega)]
  simp only [bnd_some]
  rw [le_f (by omega), br_false]
  have hb := blockOk_eq l (h, (txs, ())) hs hn2 ht
  rw [hb]
  have : blockB l (h, (txs, ())) = false := by
    unfold blockB
    rw [le_f (a := (txs.length : Int)) (by omega)]
    simp
  rw [this]
  rfl

/-! stacks -/
theorem splitGo_pow (k n : Nat) (h1 : 2 ^ k < n) (h2 : n ≤ 2 ^ (k + 1)) : (d j f : Nat) → j + d = k → n ≤ f + 2 ^ j → splitGo f n (2 ^ j) = 2 ^ k
  | 0, j, f, hj, hf => by
    obtain rfl : j = k := by omega
    have : 2 ^ (j + 1) = 2 * 2 ^ j := by rw [Nat.pow_succ]; omega
    cases f with
    | zero => rfl
    | succ f => rw [splitGo, if_neg (by omega)]
  | d + 1, j, f, hj, hf => by
    have e : 2 ^ (j + 1) = 2 * 2 ^ j := by rw [Nat.pow_succ]; omega
    have hp : 2 ^ (j + 1) ≤ 2 ^ k := Nat.pow_le_pow_right (by omega) (by omega)
    have h0 : 0 < 2 ^ j := Nat.pow_pos (by omega)
    cases f with
    | zero => omega
    | succ f =>
      rw [splitGo, if_pos (by omega), ← e]
      exact splitGo_pow k n h1 h2 d (j + 1) f (by omega) (by omega)

theorem splitAt_pow (k n : Nat) (h1 : 2 ^ k < n) (h2 : n ≤ 2 ^ (k + 1)) : splitAt n = 2 ^ k := by
  have := splitGo_pow k n h1 h2 k 0 n (by omega) (by omega)
  simpa [splitAt] using this

/-- perfect trees, one behind the other -/
def Blocks : List Int → List Bytes → List Bytes → Prop
  | [], [], l => l = []
  | h :: hs, x :: xs, l => ∃ (k : Nat) (a b : List Bytes), h = k ∧ l = a ++ b ∧ a.length = 2 ^ k ∧ x = treeRoot a ∧ Blocks hs xs b
  | _, _, _ => False

theorem Blocks.len : {hs : List Int} → {xs l : List Bytes} → Blocks hs xs l → hs.length = xs.length
  | [], [], _, _ => rfl
  | _ :: _, _ :: _, _, ⟨_, _, _, _, _, _, _, h⟩ => by simp [h.len]
  | [], _ :: _, _, h => h.elim
  | _ :: _, [], _, h => h.elim

theorem Blocks.app : {hs : List Int} → {xs l : List Bytes} → Blocks hs xs l → {hs' : List Int} → {xs' l' : List Bytes} → Blocks hs' xs' l' → Blocks (hs ++ hs') (xs ++ xs') (l ++ l')
  | [], [], _, h, _, _, _, h' => by simp only [Blocks] at h; subst h; simpa using h'
  | _ :: _, _ :: _, _, ⟨k, a, b, h1, h2, h3, h4, h⟩, _, _, l', h' => ⟨k, a, b ++ l', h1, by rw [h2, List.append_assoc], h3, h4, h.app h'⟩
  | [], _ :: _, _, h, _, _, _, _ => h.elim
  | _ :: _, [], _, h, _, _, _, _ => h.elim

theorem Blocks.snoc : {hs : List Int} → {h : Int} → {xs l : List Bytes} → Blocks (hs ++ [h]) xs l → ∃ (k : Nat) (ys : List Bytes) (a b : List Bytes), h = k ∧ xs = ys ++ [treeRoot b] ∧ l = a ++ b ∧ b.length = 2 ^ k ∧ Blocks hs ys a
  | [], h, xs, l, hb => by
    cases xs with
    | nil => exact hb.elim
    | cons x xs =>
      obtain ⟨k, a, b, h1, h2, h3, h4, h5⟩ := hb
      cases xs with
      | cons _ _ => exact h5.elim
      | nil =>
        simp only [Blocks] at h5
        subst h5
        exact ⟨k, [], [], a, h1, by rw [h4]; rfl, by simpa using h2, h3, by simp [Blocks]⟩
  | h0 :: hs, h, xs, l, hb => by
    cases xs with
    | nil => exact hb.elim
    | cons x xs =>
      obtain ⟨k, a, b, h1, h2, h3, h4, h5⟩ := hb
      obtain ⟨k', ys, a', b', g1, g2, g3, g4, g5⟩ := h5.snoc
      exact ⟨k', x :: ys, a ++ a', b', g1, by rw [g2]; rfl, by rw [h2, g3, List.append_assoc], g4, ⟨k, a, a', h1, rfl, h3, h4, g5⟩⟩

theorem Blocks.one {x : Bytes} : Blocks [0] [leafH x] [x] := ⟨0, [x], [], rfl, rfl, rfl, (tree_one x).symm, by simp [Blocks]⟩

theorem root_join {a b : List Bytes} {k : Nat} (ha : a.length = 2 ^ k) (hb : 0 < b.length) (hb2 : b.length ≤ 2 ^ k) : treeRoot (a ++ b) = nodeH (treeRoot a) (treeRoot b) := by
  have h0 : 0 < 2 ^ k := Nat.pow_pos (by omega)
  have hs : splitAt (a ++ b).length = 2 ^ k := splitAt_pow k _ (by simp; omega) (by rw [Nat.pow_succ]; simp; omega)
  rw [tree_split _ (by simp; omega), hs, List.take_left' ha, List.drop_left' ha]

theorem Blocks.hash {hs : List Int} {xs l : List Bytes} (hb : Blocks hs xs l) (hl : LeafSm l) : ∀ x ∈ xs, x.length = 32 := by
  induction hs generalizing xs l with
  | nil => cases xs with
    | nil => simp
    | cons _ _ => exact hb.elim
  | cons h hs ih => cases xs with
    | nil => exact hb.elim
    | cons x xs =>
      obtain ⟨k, a, b, h1, rfl, h3, rfl, h5⟩ := hb
      intro y hy
      rcases List.mem_cons.1 hy with rfl | hy
      · exact tree_len a (fun z hz => hl z (List.mem_append_left _ hz))
      · exact ih h5 (fun z hz => hl z (List.mem_append_right _ hz)) y hy

theorem Blocks.bound {hs : List Int} {xs l : List Bytes} (hb : Blocks hs xs l) (hl : l.length ≤ 1048576) : ∀ h ∈ hs, 0 ≤ h ∧ h ≤ 20 := by
  induction hs generalizing xs l with
  | nil => simp
  | cons h hs ih => cases xs with
    | nil => exact hb.elim
    | cons x xs =>
      obtain ⟨k, a, b, rfl, rfl, h3, rfl, h5⟩ := hb
      simp only [List.length_append] at hl
      intro y hy
      rcases List.mem_cons.1 hy with rfl | hy
      · have : k ≤ 20 := by
          by_cases hk : k ≤ 20
          · exact hk
          · have : 2 ^ 21 ≤ 2 ^ k := Nat.pow_le_pow_right (by omega) (by omega)
            omega
        omega
      · exact ih h5 (by omega) y hy

/-- what the blocks that follow a block of height 'k' come to -/
theorem Blocks.less {hs : List Int} {xs l : List Bytes} (hb : Blocks hs xs l) : (k : Nat) → (∀ h ∈ hs, h < k) → hs.Pairwise (· > ·) → l.length < 2 ^ k := by
  induction hs generalizing xs l with
  | nil => cases xs with
    | nil => intro k _ _; simp only [Blocks] at hb; subst hb; exact Nat.pow_pos (by omega)
    | cons _ _ => exact hb.elim
  | cons h hs ih => cases xs with
    | nil => exact hb.elim
    | cons x xs =>
      obtain ⟨j, a, b, rfl, rfl, h3, rfl, h5⟩ := hb
      intro k hk hp
      rw [List.pairwise_cons] at hp
      have h1 := ih h5 j (fun y hy => hp.1 y hy) hp.2
      have h2 : (j : Int) < k := hk j (by simp)
      have h4 : 2 ^ (j + 1) ≤ 2 ^ k := Nat.pow_le_pow_right (by omega) (by omega)
      rw [Nat.pow_succ] at h4
      simp only [List.length_append]
      omega

end Go.Proofs.Ytlehbecajmjgkaa.P
