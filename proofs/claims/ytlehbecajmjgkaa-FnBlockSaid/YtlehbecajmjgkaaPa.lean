/- Plain law: words for reading the typed functions. -/
import Derived.Test.YtlehbecajmjgkaaFn
import Derived.IntWalk
set_option linter.unusedVariables false
set_option linter.unusedSimpArgs false
namespace Go.Proofs.Ytlehbecajmjgkaa.P
open Go Go.Proofs.Ytlehbecajmjgkaa.V Go.Proofs.Ytlehbecajmjgkaa.F

theorem bnd_some {α β : Type} (a : α) (f : α → Option β) : bnd (some a) f = f a := rfl
theorem br_true {α : Type} (x y : Option α) : br true x y = x := rfl
theorem br_false {α : Type} (x y : Option α) : br false x y = y := rfl
theorem le_t {α : Type} [LE α] [DecidableLE α] {a b : α} (h : a ≤ b) : leB a b = true := decide_eq_true h
theorem le_f {α : Type} [LE α] [DecidableLE α] {a b : α} (h : ¬ a ≤ b) : leB a b = false := decide_eq_false h
theorem lt_t {α : Type} [LT α] [DecidableLT α] {a b : α} (h : a < b) : ltB a b = true := decide_eq_true h
theorem lt_f {α : Type} [LT α] [DecidableLT α] {a b : α} (h : ¬ a < b) : ltB a b = false := decide_eq_false h
theorem eq_t {α : Type} [DecidableEq α] {a b : α} (h : a = b) : eqD a b = true := decide_eq_true h
theorem eq_f {α : Type} [DecidableEq α] {a b : α} (h : ¬ a = b) : eqD a b = false := decide_eq_false h

theorem w64_id {n : Int} (h1 : -9223372036854775808 ≤ n) (h2 : n ≤ 9223372036854775807) : w64 n = n := IntWalk.i64_in n (by omega)
theorem w8_id {n : Int} (h1 : 0 ≤ n) (h2 : n < 256) : w8 n = n := by
  show IntKind.wrap .u8 n = n
  simp [IntKind.wrap, IntKind.signed, IntKind.bits]
  omega

theorem bIdx_ok {α : Type} {xs : List α} {i : Int} {x : α} (h0 : 0 ≤ i) (h : xs[i.toNat]? = some x) : bIdx xs i = some x := by
  unfold bIdx; rw [if_pos h0, h]
theorem bIdx_nat {α : Type} {xs : List α} {i : Nat} (h : i < xs.length) : bIdx xs (i : Int) = some xs[i] := by
  unfold bIdx; rw [if_pos (by omega)]; simp [h]
theorem bIdx_ex {α : Type} {xs : List α} {i : Int} (h0 : 0 ≤ i) (h : i < xs.length) : ∃ x, bIdx xs i = some x ∧ x ∈ xs := by
  have h' : i.toNat < xs.length := by omega
  exact ⟨xs[i.toNat], bIdx_ok h0 (List.getElem?_eq_getElem h'), List.getElem_mem h'⟩
theorem cut_ok {α : Type} {xs : List α} {lo hi : Int} (h0 : 0 ≤ lo) (h1 : lo ≤ hi) (h2 : hi ≤ xs.length) : cut xs lo hi = some ((xs.take hi.toNat).drop lo.toNat) := by
  unfold cut; rw [if_pos h0, if_pos h1, if_pos h2]

theorem set1 {α : Type} (a b : α) : List.set (List.replicate 1 a) 0 b = [b] := rfl
theorem rep0 {α : Type} (a : α) : List.replicate 0 a = [] := rfl
theorem len_most {n : Nat} (h : n ≤ 4294967296) : n ≤ most := h

/-! loops -/
theorem iter_wf {α β : Type} {step : α → Option (α ⊕ β)} (μ : α → Nat) (I : α → Prop) (Q : β → Prop) (h : ∀ a, I a → (∃ a', step a = some (.inl a') ∧ I a' ∧ μ a' < μ a) ∨ ∃ r, step a = some (.inr r) ∧ Q r) {a : α} (ha : I a) : ∃ r, iter step a = some r ∧ Q r := by
  have key : ∀ n a, μ a ≤ n → I a → ∃ r, iterN step (n + 1) a = some r ∧ Q r := by
    intro n
    induction n with
    | zero =>
      intro a hn ha
      rcases h a ha with ⟨a', _, _, hlt⟩ | ⟨r, hr, hq⟩
      · omega
      · exact ⟨r, by simp only [iterN, hr], hq⟩
    | succ n ih =>
      intro a hn ha
      rcases h a ha with ⟨a', hs, hi, hlt⟩ | ⟨r, hr, hq⟩
      · obtain ⟨r, hr, hq⟩ := ih a' (by omega) hi
        refine ⟨r, ?_, hq⟩
        rw [iterN, hs]
        exact hr
      · exact ⟨r, by simp only [iterN, hr], hq⟩
  obtain ⟨r, hr, hq⟩ := key (μ a) a (Nat.le_refl _) ha
  exact ⟨r, iter_of hr, hq⟩

theorem iter_at {α β : Type} {step : α → Option (α ⊕ β)} {a : α} {o : Option β} (hst : iter step a = o) (μ : α → Nat) (I : α → Prop) (Q : β → Prop) (h : ∀ a, I a → (∃ a', step a = some (.inl a') ∧ I a' ∧ μ a' < μ a) ∨ ∃ r, step a = some (.inr r) ∧ Q r) (ha : I a) : ∃ r, o = some r ∧ Q r := by
  obtain ⟨r, hr, hq⟩ := iter_wf μ I Q h ha
  exact ⟨r, by rw [← hst, hr], hq⟩

theorem iter_for {α β : Type} {step : α → Option (α ⊕ β)} (st : Nat → α) (n : Nat) {r : β} (h : ∀ i, i < n → step (st i) = some (.inl (st (i + 1)))) (hn : step (st n) = some (.inr r)) : iter step (st 0) = some r := by
  have key : ∀ k i, i + k = n → iterN step (k + 1) (st i) = some r := by
    intro k
    induction k with
    | zero => intro i hi; obtain rfl : i = n := by omega
              simp only [iterN, hn]
    | succ k ih =>
      intro i hi
      rw [iterN, h i (by omega)]
      exact ih (i + 1) (by omega)
  exact iter_of (key n 0 (by omega))

theorem iter_step {α β : Type} (step : α → Option (α ⊕ β)) (a : α) : iter step a = match step a with
    | none => none
    | some (.inl a') => iter step a'
    | some (.inr b) => some b := by
  cases hs : step a with
  | none =>
    cases hi : iter step a with
    | none => rfl
    | some b =>
      obtain ⟨n, hn⟩ := iter_some hi
      cases n with
      | zero => simp [iterN] at hn
      | succ n => simp [iterN, hs] at hn
  | some x =>
    cases x with
    | inr b => exact iter_of (n := 1) (by simp [iterN, hs])
    | inl a' =>
      simp only
      cases hi : iter step a' with
      | some b =>
        obtain ⟨n, hn⟩ := iter_some hi
        exact iter_of (n := n + 1) (by simp [iterN, hs, hn])
      | none =>
        cases hj : iter step a with
        | none => rfl
        | some b =>
          obtain ⟨n, hn⟩ := iter_some hj
          cases n with
          | zero => simp [iterN] at hn
          | succ n =>
            simp only [iterN, hs] at hn
            rw [iter_of hn] at hi
            cases hi

/-! words -/
theorem iAnd_mask (x : Int) (m : Nat) (hm : m < 2 ^ 63) : 0 ≤ iAnd .i64 x m ∧ iAnd .i64 x m ≤ m := by
  unfold iAnd
  have h1 : (BitVec.ofInt IntKind.i64.bits x &&& BitVec.ofInt IntKind.i64.bits (m : Int)).toNat ≤ m := by
    rw [BitVec.toNat_and]
    have h2 : (BitVec.ofInt IntKind.i64.bits (m : Int)).toNat = m := by
      rw [BitVec.toNat_ofInt]
      show ((m : Int) % ((2 ^ 64 : Nat) : Int)).toNat = m
      omega
    rw [h2]
    exact Nat.and_le_right
  have h3 := w64_id (n := ((BitVec.ofInt IntKind.i64.bits x &&& BitVec.ofInt IntKind.i64.bits (m : Int)).toNat : Int)) (by omega) (by omega)
  unfold w64 at h3
  rw [h3]
  omega

end Go.Proofs.Ytlehbecajmjgkaa.P
