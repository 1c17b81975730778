/- Plain law: small functions: numbers, bytes, bits, limits, tables, certificates, headers. -/
import Derived.Test.YtlehbecajmjgkaaPb
set_option linter.unusedVariables false
set_option linter.unusedSimpArgs false
namespace Go.Proofs.Ytlehbecajmjgkaa.P
open Go Go.Proofs.Ytlehbecajmjgkaa.V Go.Proofs.Ytlehbecajmjgkaa.F

abbrev Bytes : Type := List UInt8
/-- no longer than a slice may be -/
def Sm {α : Type} (l : List α) : Prop := l.length ≤ 1073741824

theorem within_eq (a b c : Int) : impl_within a b c = some ((leB b a && leB a c, ()), ()) := by
  unfold impl_within
  cases leB b a <;> rfl
theorem isNum_eq (a : Int) : impl_isNum a = some ((leB 0 a && leB a 1152921504606846975, ()), ()) := by
  unfold impl_isNum
  rw [within_eq]; rfl
theorem copyBytes_eq (b : Bytes) (h : Sm b) : impl_copyBytes b = some ((b, ()), ()) := by
  unfold impl_copyBytes
  rw [rep0, le_t (by unfold Sm at h; have := len_most (n := b.length) (by omega); simpa using this)]
  rfl
theorem same_eq (a b : Bytes) : impl_SameBytes a b = some ((eqD a b, ()), ()) := rfl

theorem areHashes_eq (l : List Bytes) (h : Sm l) : impl_areHashes l = some ((l.all fun x => x.length == 32, ()), ()) := by
  unfold Sm at h
  unfold impl_areHashes
  generalize hst : iter _ _ = o
  obtain ⟨r, rfl, hq⟩ := iter_at hst (fun y => (l.length - y.1.2.2.2.1.toNat)) (fun y => y.1.2.1 = l ∧ y.1.2.2.1 = (l.length : Int) ∧ 0 ≤ y.1.2.2.2.1 ∧ y.1.2.2.2.1 ≤ l.length ∧ (l.take y.1.2.2.2.1.toNat).all (fun x => x.length == 32) = true) (fun r => r = ((l.all fun x => x.length == 32, ()), ())) (by
    intro a ha
    obtain ⟨h1, h2, h3, h4, h5⟩ := ha
    by_cases h6 : a.1.2.2.2.1 < a.1.2.2.1
    · have hlt : a.1.2.2.2.1.toNat < l.length := by omega
      simp only [lt_t h6, br_true]
      rw [h1, bIdx_ok h3 (List.getElem?_eq_getElem hlt)]
      simp only [bnd_some]
      by_cases h7 : l[a.1.2.2.2.1.toNat].length = 32
      · have e : (((l[a.1.2.2.2.1.toNat].length : Int) != 32)) = false := by simp; omega
        rw [e, br_false]
        rw [w64_id (n := a.1.2.2.2.1 + 1) (by omega) (by omega)]
        refine .inl ⟨_, rfl, ⟨rfl, h2, by simp only; omega, by simp only; omega, ?_⟩, by simp only; omega⟩
        simp only
        rw [show (a.1.2.2.2.1 + 1).toNat = a.1.2.2.2.1.toNat + 1 by omega, List.take_succ_eq_append_getElem hlt, List.all_append, h5]
        simp [h7]
      · have e : (((l[a.1.2.2.2.1.toNat].length : Int) != 32)) = true := by simp; omega
        rw [e, br_true]
        refine .inr ⟨_, rfl, ?_⟩
        have : (l.all fun x => x.length == 32) = false := by
          rw [List.all_eq_false]
          exact ⟨_, List.getElem_mem hlt, by simpa using h7⟩
        rw [this]
    · simp only [lt_f h6, br_false]
      refine .inr ⟨_, rfl, ?_⟩
      rw [List.take_of_length_le (by omega)] at h5
      rw [h5]) ⟨rfl, rfl, Int.le_refl _, by simp only; omega, by simp⟩
  rw [hq]

theorem copyList_eq (l : List Bytes) (h : Sm l) (h' : ∀ x ∈ l, Sm x) : impl_copyList l = some ((l, ()), ()) := by
  have hh := h
  unfold Sm at h
  unfold impl_copyList
  generalize hst : iter _ _ = o
  obtain ⟨r, rfl, hq⟩ := iter_at hst (fun y => (l.length - y.1.2.2.2.1.toNat)) (fun y => y.1.2.1 = l ∧ y.1.2.2.1 = (l.length : Int) ∧ 0 ≤ y.1.2.2.2.1 ∧ y.1.2.2.2.1 ≤ l.length ∧ y.1.1 = l.take y.1.2.2.2.1.toNat) (fun r => r = ((l, ()), ())) (by
    intro a ha
    obtain ⟨h1, h2, h3, h4, h5⟩ := ha
    by_cases h6 : a.1.2.2.2.1 < a.1.2.2.1
    · have hlt : a.1.2.2.2.1.toNat < l.length := by omega
      simp only [lt_t h6, br_true]
      rw [h1, bIdx_ok h3 (List.getElem?_eq_getElem hlt)]
      simp only [bnd_some]
      rw [copyBytes_eq _ (h' _ (List.getElem_mem hlt))]
      simp only [bnd_some, set1]
      rw [le_t (by rw [h5]; have := len_most (n := a.1.2.2.2.1.toNat + 1) (by omega); simp; omega), br_true]
      rw [w64_id (n := a.1.2.2.2.1 + 1) (by omega) (by omega)]
      refine .inl ⟨_, rfl, ⟨rfl, h2, by simp only; omega, by simp only; omega, ?_⟩, by simp only; omega⟩
      simp only
      rw [show (a.1.2.2.2.1 + 1).toNat = a.1.2.2.2.1.toNat + 1 by omega, List.take_succ_eq_append_getElem hlt, h5]
    · simp only [lt_f h6, br_false]
      refine .inr ⟨_, rfl, ?_⟩
      rw [List.take_of_length_le (by omega)] at h5
      rw [h5]) ⟨rfl, rfl, Int.le_refl _, by simp only; omega, by simp⟩
  rw [hq]

/-! limits and tables -/
def limB (l : Lim) : Bool := (leB 1 l.1 && leB l.1 10) && ((leB 0 l.2.1 && leB l.2.1 40) && ((leB 0 l.2.2.1 && leB l.2.2.1 8) && ((leB 1 l.2.2.2.1 && leB l.2.2.2.1 4000) && (leB 3 l.2.2.2.2.1 && leB l.2.2.2.2.1 5))))
theorem limitsOk_eq (l : Lim) : impl_LimitsOk l = some ((limB l, ()), ()) := by
  unfold impl_LimitsOk limB
  simp only [within_eq, bnd_some]
  cases (leB 1 l.1 && leB l.1 10) <;> cases (leB 0 l.2.1 && leB l.2.1 40) <;> cases (leB 0 l.2.2.1 && leB l.2.2.1 8) <;> cases (leB 1 l.2.2.2.1 && leB l.2.2.2.1 4000) <;> rfl

theorem leB_iff {α : Type} [LE α] [DecidableLE α] {a b : α} : leB a b = true ↔ a ≤ b := decide_eq_true_iff
theorem ltB_iff {α : Type} [LT α] [DecidableLT α] {a b : α} : ltB a b = true ↔ a < b := decide_eq_true_iff
theorem eqD_iff {α : Type} [DecidableEq α] {a b : α} : eqD a b = true ↔ a = b := decide_eq_true_iff

theorem limB_iff (l : Lim) : limB l = true ↔ (1 ≤ l.1 ∧ l.1 ≤ 10) ∧ (0 ≤ l.2.1 ∧ l.2.1 ≤ 40) ∧ (0 ≤ l.2.2.1 ∧ l.2.2.1 ≤ 8) ∧ (1 ≤ l.2.2.2.1 ∧ l.2.2.2.1 ≤ 4000) ∧ (3 ≤ l.2.2.2.2.1 ∧ l.2.2.2.2.1 ≤ 5) := by
  unfold limB
  simp only [Bool.and_eq_true, leB_iff]

def rowB (r : Row) : Bool := (leB 1 r.1 && leB r.1 1099511627776) && (leB 1 (r.2.1.length : Int) && leB (r.2.1.length : Int) 64)
def tabB (t : Table) : Bool := t.1.all rowB && (leB 1 (t.1.length : Int) && leB (t.1.length : Int) 10)

theorem tableOk_eq (t : Table) (h : Sm t.1) : impl_TableOk t = some ((tabB t, ()), ()) := by
  unfold Sm at h
  unfold impl_TableOk
  generalize hst : iter _ _ = o
  obtain ⟨r, rfl, hq⟩ := iter_at hst (fun y => (t.1.length - y.1.2.2.2.1.toNat)) (fun y => y.1.2.1 = t.1 ∧ y.1.2.2.1 = (t.1.length : Int) ∧ 0 ≤ y.1.2.2.2.1 ∧ y.1.2.2.2.1 ≤ t.1.length ∧ (t.1.take y.1.2.2.2.1.toNat).all rowB = true ∧ y.2.1 = t) (fun r => r = ((tabB t, ()), ())) (by
    intro a ha
    obtain ⟨h1, h2, h3, h4, h5, h8⟩ := ha
    by_cases h6 : a.1.2.2.2.1 < a.1.2.2.1
    · have hlt : a.1.2.2.2.1.toNat < t.1.length := by omega
      simp only [lt_t h6, br_true]
      rw [h1, bIdx_ok h3 (List.getElem?_eq_getElem hlt)]
      simp only [bnd_some, within_eq]
      have bad : rowB t.1[a.1.2.2.2.1.toNat] = false → tabB t = false := by
        intro hb
        unfold tabB
        rw [show t.1.all rowB = false from by rw [List.all_eq_false]; exact ⟨_, List.getElem_mem hlt, by rw [hb]; simp⟩]
        rfl
      unfold rowB at bad
      cases e1 : (leB 1 t.1[a.1.2.2.2.1.toNat].1 && leB t.1[a.1.2.2.2.1.toNat].1 1099511627776) with
      | false =>
        rw [e1] at bad
        exact .inr ⟨_, rfl, by rw [bad rfl]⟩
      | true =>
        cases e2 : (leB 1 (t.1[a.1.2.2.2.1.toNat].2.1.length : Int) && leB (t.1[a.1.2.2.2.1.toNat].2.1.length : Int) 64) with
        | false =>
          rw [e1, e2] at bad
          exact .inr ⟨_, rfl, by rw [bad rfl]⟩
        | true =>
          simp only [Bool.not_true, br_false]
          rw [w64_id (n := a.1.2.2.2.1 + 1) (by omega) (by omega)]
          refine .inl ⟨_, rfl, ⟨rfl, h2, by simp only; omega, by simp only; omega, ?_, h8⟩, by simp only; omega⟩
          simp only
          rw [show (a.1.2.2.2.1 + 1).toNat = a.1.2.2.2.1.toNat + 1 by omega, List.take_succ_eq_append_getElem hlt, List.all_append, h5]
          simp [rowB, e1, e2]
    · simp only [lt_f h6, br_false, within_eq, bnd_some]
      refine .inr ⟨_, rfl, ?_⟩
      rw [List.take_of_length_le (by omega)] at h5
      unfold tabB
      rw [h5, h8]
      rfl) ⟨rfl, rfl, Int.le_refl _, by simp only; omega, by simp, rfl⟩
  rw [hq]

def belB (l : Lim) (t : Table) : Bool := limB l && (tabB t && ((t.1.length : Int) == l.1))
theorem belongs_eq (l : Lim) (t : Table) (h : Sm t.1) : impl_belongs l t = some ((belB l t, ()), ()) := by
  unfold impl_belongs belB
  rw [limitsOk_eq, tableOk_eq t h]
  simp only [bnd_some]
  cases limB l <;> cases tabB t <;> rfl

/-! bits -/
def has8 (b : UInt8) (k : Nat) : Bool := b.toNat.testBit k
def bitsOf8 (b : UInt8) : List Nat := (List.range 8).filter (has8 b)
def bitsFrom : Nat → Bytes → List Nat
  | _, [] => []
  | n, b :: r => (bitsOf8 b).map (8 * n + ·) ++ bitsFrom (n + 1) r
/-- the set bits -/
def bitsL (b : Bytes) : List Int := (bitsFrom 0 b).map Int.ofNat

theorem has_all : ∀ n : Nat, n < 256 → ∀ k : Nat, k < 8 → (((UInt8.toNat (UInt8.ofNat (Int.toNat (iAnd IntKind.u8 ((UInt8.toNat (UInt8.ofNat (Int.toNat (iShr IntKind.u8 ((UInt8.toNat (UInt8.ofNat n)) : Int) (k : Int))))) : Int) ((UInt8.toNat (UInt8.ofNat (Int.toNat 1))) : Int))))) : Int) == ((UInt8.toNat (UInt8.ofNat (Int.toNat 1))) : Int)) = has8 (UInt8.ofNat n) k := by
  decide +kernel

theorem has_one (b : UInt8) (k : Int) (h0 : 0 ≤ k) (h : k < 8) : (((UInt8.toNat (UInt8.ofNat (Int.toNat (iAnd IntKind.u8 ((UInt8.toNat (UInt8.ofNat (Int.toNat (iShr IntKind.u8 ((UInt8.toNat b) : Int) k)))) : Int) ((UInt8.toNat (UInt8.ofNat (Int.toNat 1))) : Int))))) : Int) == ((UInt8.toNat (UInt8.ofNat (Int.toNat 1))) : Int)) = has8 b k.toNat := by
  have := has_all b.toNat (UInt8.toNat_lt b) k.toNat (by omega)
  rw [UInt8.ofNat_toNat] at this
  rw [← this]
  rw [show ((k.toNat : Nat) : Int) = k by omega]

def bitAt (b : Bytes) (i : Nat) : Bool := match b[i / 8]? with
  | some x => has8 x (i % 8)
  | none => false

theorem bitsHas_eq (b : Bytes) (i : Int) (h : Sm b) (hi : -4611686018427387904 ≤ i ∧ i ≤ 4611686018427387904) : impl_BitsHas b i = some ((leB 0 i && bitAt b i.toNat, ()), ()) := by
  unfold Sm at h
  unfold impl_BitsHas
  rw [w64_id (n := 8 * (b.length : Int)) (by omega) (by omega), w64_id (n := 8 * (b.length : Int) - 1) (by omega) (by omega), within_eq]
  simp only [bnd_some]
  by_cases h0 : 0 ≤ i
  · rw [le_t h0]
    by_cases h1 : i ≤ 8 * (b.length : Int) - 1
    · rw [le_t h1]
      simp only [Bool.and_self, br_true]
      have e1 : Int.tdiv i 8 = i / 8 := Int.tdiv_eq_ediv_of_nonneg h0
      have e2 : Int.tmod i 8 = i % 8 := Int.tmod_eq_emod_of_nonneg h0
      rw [e1, e2, w64_id (by omega) (by omega)]
      have hlt : (i / 8).toNat < b.length := by omega
      rw [bIdx_ok (by omega) (List.getElem?_eq_getElem hlt)]
      simp only [bnd_some]
      rw [lt_f (by omega), br_false, has_one _ _ (by omega) (by omega)]
      have e3 : i.toNat / 8 = (i / 8).toNat := by omega
      have e4 : i.toNat % 8 = (i % 8).toNat := by omega
      unfold bitAt
      rw [e3, List.getElem?_eq_getElem hlt, e4]
      rfl
    · rw [le_f h1]
      have : bitAt b i.toNat = false := by
        unfold bitAt
        rw [List.getElem?_eq_none (by omega)]
      rw [this]
      rfl
  · rw [le_f h0]
    rfl

theorem bitsFrom_filter : (b : Bytes) → (n : Nat) → (bitsFrom n b) = ((List.range (8 * b.length)).filter (bitAt b)).map (8 * n + ·)
  | [], n => by simp [bitsFrom]
  | x :: r, n => by
    rw [bitsFrom, bitsFrom_filter r (n + 1)]
    have e : List.range (8 * (x :: r).length) = List.range 8 ++ (List.range (8 * r.length)).map (8 + ·) := by
      rw [← List.range_add]
      congr 1
      simp; omega
    have e1 : (List.range 8).filter (bitAt (x :: r)) = bitsOf8 x := by
      unfold bitsOf8
      apply List.filter_congr
      intro k hk
      have hk := List.mem_range.1 hk
      unfold bitAt
      rw [Nat.div_eq_of_lt hk, Nat.mod_eq_of_lt hk]
      rfl
    have e2 : (bitAt (x :: r) ∘ fun k => 8 + k) = bitAt r := by
      funext k
      unfold bitAt
      simp only [Function.comp]
      rw [show (8 + k) / 8 = k / 8 + 1 by omega, show (8 + k) % 8 = k % 8 by omega]
      rfl
    have e3 : ((fun k => 8 * n + k) ∘ fun k => 8 + k) = fun k => 8 * (n + 1) + k := by
      funext k
      simp only [Function.comp]
      omega
    rw [e, List.filter_append, List.map_append, e1, List.filter_map, e2, List.map_map, e3]

theorem bitsList_eq (b : Bytes) (h : b.length ≤ 100000000) : impl_BitsList b = some ((bitsL b, ()), ()) := by
  unfold impl_BitsList
  rw [w64_id (n := 8 * (b.length : Int)) (by omega) (by omega)]
  generalize hst : iter _ _ = o
  obtain ⟨r, rfl, hq⟩ := iter_at hst (fun y => (8 * b.length - y.1.2.2.2.1.toNat)) (fun y => y.1.1 = b ∧ y.1.2.2.1 = (8 * b.length : Int) ∧ 0 ≤ y.1.2.2.2.1 ∧ y.1.2.2.2.1 ≤ 8 * b.length ∧ y.1.2.1 = ((List.range y.1.2.2.2.1.toNat).filter (bitAt b)).map Int.ofNat) (fun r => r = ((bitsL b, ()), ())) (by
    intro a ha
    obtain ⟨h1, h2, h3, h4, h5⟩ := ha
    by_cases h6 : a.1.2.2.2.1 < a.1.2.2.1
    · simp only [lt_t h6, br_true]
      rw [h1, bitsHas_eq b _ (by unfold Sm; omega) (by omega), le_t h3]
      simp only [bnd_some, Bool.true_and, set1]
      rw [w64_id (n := a.1.2.2.2.1 + 1) (by omega) (by omega)]
      have e : List.range (a.1.2.2.2.1 + 1).toNat = List.range a.1.2.2.2.1.toNat ++ [a.1.2.2.2.1.toNat] := by
        rw [show (a.1.2.2.2.1 + 1).toNat = a.1.2.2.2.1.toNat + 1 by omega, List.range_succ]
      cases hb : bitAt b a.1.2.2.2.1.toNat with
      | true =>
        simp only [br_true]
        rw [le_t, br_true]
        · refine .inl ⟨_, rfl, ⟨rfl, h2, by simp only; omega, by simp only; omega, ?_⟩, by simp only; omega⟩
          simp only
          rw [e, List.filter_append, List.map_append, h5]
          simp [hb]; omega
        · rw [h5]
          have := List.length_filter_le (bitAt b) (List.range a.1.2.2.2.1.toNat)
          rw [List.length_range] at this
          refine len_most ?_
          simp only [List.length_map, List.length_singleton]
          omega
      | false =>
        simp only [br_false]
        refine .inl ⟨_, rfl, ⟨rfl, h2, by simp only; omega, by simp only; omega, ?_⟩, by simp only; omega⟩
        simp only
        rw [e, List.filter_append, List.map_append, h5]
        simp [hb]
    · simp only [lt_f h6, br_false]
      refine .inr ⟨_, rfl, ?_⟩
      have e : a.1.2.2.2.1.toNat = 8 * b.length := by omega
      rw [h5, e]
      unfold bitsL
      rw [bitsFrom_filter]
      simp) ⟨rfl, rfl, Int.le_refl _, by simp only; omega, by simp⟩
  rw [hq]

end Go.Proofs.Ytlehbecajmjgkaa.P
