/- Plain law: bit sets, certificates, headers. -/
import Derived.Test.YtlehbecajmjgkaaPc
set_option linter.unusedVariables false
set_option linter.unusedSimpArgs false
namespace Go.Proofs.Ytlehbecajmjgkaa.P
open Go Go.Proofs.Ytlehbecajmjgkaa.V Go.Proofs.Ytlehbecajmjgkaa.F

abbrev Qc : Type := Int × (Int × (Bytes × (Bytes × (List Bytes × Unit))))
abbrev Head : Type := Int × (Int × (Int × (Bytes × (Bytes × (Qc × Unit)))))

def numB (n : Int) : Bool := leB 0 n && leB n 1152921504606846975
theorem isNum_eq' (a : Int) : impl_isNum a = some ((numB a, ()), ()) := isNum_eq a
def bsz (n : Int) : Int := (n - 1) / 8 + 1

theorem bitsSize_eq (n : Int) (h : 1 ≤ n ∧ n ≤ 1000000) : impl_BitsSize n = some ((bsz n, ()), ()) := by
  unfold impl_BitsSize bsz
  rw [lt_f (by omega), br_false, w64_id (n := n - 1) (by omega) (by omega), Int.tdiv_eq_ediv_of_nonneg (by omega), w64_id (n := (n - 1) / 8) (by omega) (by omega), w64_id (by omega) (by omega)]

def bitsB (b : Bytes) (n : Int) : Bool := (leB 1 n && leB n 10) && (((b.length : Int) == bsz n) && (bitsL b).all (fun i => ltB i n))

theorem bitsOk_eq (b : Bytes) (n : Int) : impl_BitsOk b n = some ((bitsB b n, ()), ()) := by
  unfold impl_BitsOk bitsB
  rw [within_eq]
  simp only [bnd_some]
  cases hn : (leB 1 n && leB n 10) with
  | false => rfl
  | true =>
    have hn' : 1 ≤ n ∧ n ≤ 10 := by simpa only [Bool.and_eq_true, leB_iff] using hn
    simp only [Bool.not_true, br_false, Bool.true_and]
    rw [bitsSize_eq n (by omega)]
    simp only [bnd_some]
    by_cases hl : (b.length : Int) = bsz n
    · have e1 : ((b.length : Int) != bsz n) = false := by simp [hl]
      have e2 : ((b.length : Int) == bsz n) = true := by simp [hl]
      rw [e1, e2, br_false]
      have hb2 : bsz n ≤ 2 := by unfold bsz; omega
      rw [bitsList_eq b (by omega)]
      simp only [bnd_some, Bool.true_and]
      have hlen : (bitsL b).length ≤ 8 * b.length := by
        unfold bitsL
        rw [bitsFrom_filter, List.length_map, List.length_map]
        have := List.length_filter_le (bitAt b) (List.range (8 * b.length))
        rwa [List.length_range] at this
      generalize bitsL b = l at hlen ⊢
      generalize hst : iter _ _ = o
      obtain ⟨r, rfl, hq⟩ := iter_at hst (fun y => (l.length - y.1.2.2.2.2.1.toNat)) (fun y => y.1.1 = n ∧ y.1.2.2.1 = l ∧ y.1.2.2.2.1 = (l.length : Int) ∧ 0 ≤ y.1.2.2.2.2.1 ∧ y.1.2.2.2.2.1 ≤ l.length ∧ (l.take y.1.2.2.2.2.1.toNat).all (fun i => ltB i n) = true) (fun r => r = ((l.all (fun i => ltB i n), ()), ())) (by
        intro a ha
        obtain ⟨h0, h1, h2, h3, h4, h5⟩ := ha
        by_cases h6 : a.1.2.2.2.2.1 < a.1.2.2.2.1
        · have hlt : a.1.2.2.2.2.1.toNat < l.length := by omega
          simp only [lt_t h6, br_true]
          rw [h1, bIdx_ok h3 (List.getElem?_eq_getElem hlt)]
          simp only [bnd_some]
          by_cases h7 : a.1.1 ≤ l[a.1.2.2.2.2.1.toNat]
          · rw [le_t h7, br_true]
            refine .inr ⟨_, rfl, ?_⟩
            have : (l.all (fun i => ltB i n)) = false := by
              rw [List.all_eq_false]
              exact ⟨_, List.getElem_mem hlt, by rw [lt_f (by omega)]; simp⟩
            rw [this]
          · rw [le_f h7, br_false, w64_id (n := a.1.2.2.2.2.1 + 1) (by omega) (by omega)]
            refine .inl ⟨_, rfl, ⟨h0, rfl, h2, by simp only; omega, by simp only; omega, ?_⟩, by simp only; omega⟩
            simp only
            rw [show (a.1.2.2.2.2.1 + 1).toNat = a.1.2.2.2.2.1.toNat + 1 by omega, List.take_succ_eq_append_getElem hlt, List.all_append, h5]
            simp [lt_t (a := l[a.1.2.2.2.2.1.toNat]) (b := n) (by omega)]
        · simp only [lt_f h6, br_false]
          refine .inr ⟨_, rfl, ?_⟩
          rw [List.take_of_length_le (by omega)] at h5
          rw [h5]) ⟨rfl, rfl, rfl, Int.le_refl _, by simp only; omega, by simp⟩
      rw [hq]
    · have e1 : ((b.length : Int) != bsz n) = true := by simp [hl]
      have e2 : ((b.length : Int) == bsz n) = false := by simp [hl]
      rw [e1, e2]
      rfl

theorem ones_all : ((List.range 256).all fun n => match bits_OnesCount8 (UInt8.ofNat n) with
    | some ((v, _), _) => v == ((bitsOf8 (UInt8.ofNat n)).length : Int)
    | none => false) = true := by decide +kernel

theorem ones_eq (b : UInt8) : bits_OnesCount8 b = some ((((bitsOf8 b).length : Int), ()), ()) := by
  have := List.all_eq_true.1 ones_all b.toNat (List.mem_range.2 (UInt8.toNat_lt b))
  rw [UInt8.ofNat_toNat] at this
  split at this
  · rename_i v u u' he
    rw [he]
    have : v = ((bitsOf8 b).length : Int) := by simpa using this
    rw [this]
  · cases this

theorem bitsOf8_le (b : UInt8) : (bitsOf8 b).length ≤ 8 := by
  have := List.length_filter_le (has8 b) (List.range 8)
  simpa [bitsOf8] using this

theorem bitsFrom_len (b : Bytes) : (n m : Nat) → (bitsFrom n b).length = (bitsFrom m b).length := by
  induction b with
  | nil => intro n m; rfl
  | cons x r ih => intro n m; simp only [bitsFrom, List.length_append, List.length_map]; rw [ih (n + 1) (m + 1)]
theorem bitsFrom_app (a b : Bytes) : (n : Nat) → (bitsFrom n (a ++ b)).length = (bitsFrom n a).length + (bitsFrom n b).length := by
  induction a with
  | nil => intro n; simp [bitsFrom]
  | cons x r ih => intro n; simp only [List.cons_append, bitsFrom, List.length_append, List.length_map, ih]; rw [bitsFrom_len b (n + 1) n]; omega

theorem bitsCount_eq (b : Bytes) (h : Sm b) : impl_BitsCount b = some ((((bitsL b).length : Int), ()), ()) := by
  unfold Sm at h
  unfold impl_BitsCount
  generalize hst : iter _ _ = o
  obtain ⟨r, rfl, hq⟩ := iter_at hst (fun y => (b.length - y.1.2.2.2.2.1.toNat)) (fun y => y.1.2.2.1 = b ∧ y.1.2.2.2.1 = (b.length : Int) ∧ 0 ≤ y.1.2.2.2.2.1 ∧ y.1.2.2.2.2.1 ≤ b.length ∧ y.1.2.1 = ((bitsFrom 0 (b.take y.1.2.2.2.2.1.toNat)).length : Int) ∧ y.1.2.1 ≤ 8 * y.1.2.2.2.2.1) (fun r => r = ((((bitsL b).length : Int), ()), ())) (by
    intro a ha
    obtain ⟨h1, h2, h3, h4, h5, h7⟩ := ha
    by_cases h6 : a.1.2.2.2.2.1 < a.1.2.2.2.1
    · have hlt : a.1.2.2.2.2.1.toNat < b.length := by omega
      simp only [lt_t h6, br_true]
      rw [h1, bIdx_ok h3 (List.getElem?_eq_getElem hlt)]
      simp only [bnd_some]
      rw [ones_eq]
      simp only [bnd_some]
      have h8 := bitsOf8_le b[a.1.2.2.2.2.1.toNat]
      rw [w64_id (n := a.1.2.2.2.2.1 + 1) (by omega) (by omega), w64_id (n := a.1.2.1 + _) (by omega) (by omega)]
      refine .inl ⟨_, rfl, ⟨rfl, h2, by simp only; omega, by simp only; omega, ?_, by simp only; omega⟩, by simp only; omega⟩
      simp only
      rw [show (a.1.2.2.2.2.1 + 1).toNat = a.1.2.2.2.2.1.toNat + 1 by omega, List.take_succ_eq_append_getElem hlt, bitsFrom_app, h5]
      simp [bitsFrom]
    · simp only [lt_f h6, br_false]
      refine .inr ⟨_, rfl, ?_⟩
      rw [List.take_of_length_le (by omega)] at h5
      rw [h5]
      unfold bitsL
      rw [List.length_map]) ⟨rfl, rfl, Int.le_refl _, by simp only; omega, by simp [bitsFrom], by simp only; omega⟩
  rw [hq]

def h32 (b : Bytes) : Bool := b.length == 32
def qcB (l : Lim) (q : Qc) : Bool := limB l && (numB q.1 && (numB q.2.1 && (h32 q.2.2.1 && (bitsB q.2.2.2.1 l.1 && (((q.2.2.2.2.1.length : Int) == ((bitsL q.2.2.2.1).length : Int)) && q.2.2.2.2.1.all h32)))))

/-- a certificate that is no longer than slices may be -/
def QcSm (q : Qc) : Prop := Sm q.2.2.1 ∧ Sm q.2.2.2.1 ∧ Sm q.2.2.2.2.1 ∧ ∀ t ∈ q.2.2.2.2.1, Sm t
def HeadSm (h : Head) : Prop := Sm h.2.2.2.1 ∧ Sm h.2.2.2.2.1 ∧ QcSm h.2.2.2.2.2.1

theorem set2 {α : Type} (a b c : α) : List.set (List.set (List.replicate 2 a) 0 b) 1 c = [b, c] := rfl
theorem sm1 {α : Type} (a : α) : Sm [a] := by unfold Sm; simp
theorem sm2 {α : Type} (a b : α) : Sm [a, b] := by unfold Sm; simp

theorem qcOk_eq (l : Lim) (q : Qc) (h : QcSm q) : impl_QcOk l q = some ((qcB l q, ()), ()) := by
  unfold impl_QcOk qcB
  rw [limitsOk_eq, isNum_eq', isNum_eq', set1, areHashes_eq _ (sm1 _), bitsOk_eq, bitsCount_eq _ h.2.1, areHashes_eq _ h.2.2.1]
  simp only [bnd_some, List.all_cons, List.all_nil, Bool.and_true]
  change _ = some ((limB l && (numB q.1 && (numB q.2.1 && ((q.2.2.1.length == 32) && (bitsB q.2.2.2.1 l.1 && (((q.2.2.2.2.1.length : Int) == ((bitsL q.2.2.2.1).length : Int)) && q.2.2.2.2.1.all fun x => x.length == 32))))), ()), ())
  cases limB l <;> cases numB q.1 <;> cases numB q.2.1 <;> cases (q.2.2.1.length == 32) <;> cases bitsB q.2.2.2.1 l.1 <;> cases ((q.2.2.2.2.1.length : Int) == ((bitsL q.2.2.2.1).length : Int)) <;> rfl

def matB (h : Head) : Bool := ltB h.2.2.2.2.2.1.1 h.1 && ((h.2.2.2.2.2.1.2.1 == w64 (h.2.1 - 1)) && eqD h.2.2.2.2.2.1.2.2.1 h.2.2.2.1)
theorem matches_eq (h : Head) : impl_Head_matches h = some ((matB h, ()), ()) := by
  unfold impl_Head_matches matB
  simp only [same_eq, bnd_some]
  cases ltB h.2.2.2.2.2.1.1 h.1 <;> cases (h.2.2.2.2.2.1.2.1 == w64 (h.2.1 - 1)) <;> rfl

def headB (l : Lim) (h : Head) : Bool := qcB l h.2.2.2.2.2.1 && (numB h.1 && ((leB 1 h.2.1 && leB h.2.1 1152921504606846975) && ((leB 0 h.2.2.1 && leB h.2.2.1 (w64 (l.1 - 1))) && ((h32 h.2.2.2.1 && h32 h.2.2.2.2.1) && matB h))))
theorem headOk_eq (l : Lim) (h : Head) (hs : HeadSm h) : impl_HeadOk l h = some ((headB l h, ()), ()) := by
  unfold impl_HeadOk headB
  rw [qcOk_eq l _ hs.2.2, isNum_eq', within_eq, within_eq, set2, areHashes_eq _ (sm2 _ _), matches_eq]
  simp only [bnd_some, List.all_cons, List.all_nil, Bool.and_true]
  change _ = some ((qcB l h.2.2.2.2.2.1 && (numB h.1 && ((leB 1 h.2.1 && leB h.2.1 1152921504606846975) && ((leB 0 h.2.2.1 && leB h.2.2.1 (w64 (l.1 - 1))) && (((h.2.2.2.1.length == 32) && (h.2.2.2.2.1.length == 32)) && matB h)))), ()), ())
  cases qcB l h.2.2.2.2.2.1 <;> cases numB h.1 <;> cases (leB 1 h.2.1 && leB h.2.1 1152921504606846975) <;> cases (leB 0 h.2.2.1 && leB h.2.2.1 (w64 (l.1 - 1))) <;> cases ((h.2.2.2.1.length == 32) && (h.2.2.2.2.1.length == 32)) <;> rfl

theorem qcCopied_eq (q : Qc) (h : QcSm q) : impl_Qc_copied q = some ((q, ()), ()) := by
  unfold impl_Qc_copied
  rw [copyBytes_eq _ h.1, copyBytes_eq _ h.2.1, copyList_eq _ h.2.2.1 h.2.2.2]
  rfl
theorem headCopied_eq (h : Head) (hs : HeadSm h) : impl_Head_copied h = some ((h, ()), ()) := by
  unfold impl_Head_copied
  rw [copyBytes_eq _ hs.1, copyBytes_eq _ hs.2.1, qcCopied_eq _ hs.2.2]
  rfl

/-- 32 zeros -/
def zero32 : Bytes := List.replicate 32 0
def bitsZero (n : Int) : Bytes := List.replicate (bsz n).toNat 0

theorem bitsNew_eq (n : Int) (h : 1 ≤ n ∧ n ≤ 10) : impl_BitsNew n = some ((bitsZero n, ()), ()) := by
  unfold impl_BitsNew
  rw [within_eq, le_t h.1, le_t h.2, bitsSize_eq n (by omega)]
  simp only [bnd_some]
  rw [le_t (show (0 : Int) ≤ bsz n by unfold bsz; omega), le_t (Int.le_refl (bsz n)), le_t (show bsz n ≤ ((most : Nat) : Int) by show bsz n ≤ ((4294967296 : Nat) : Int); unfold bsz; omega)]
  rfl

theorem bitsFrom_zero (n m : Nat) : bitsFrom n (List.replicate m 0) = [] := by
  induction m generalizing n with
  | zero => rfl
  | succ m ih => rw [List.replicate_succ, bitsFrom, ih]; rfl

def firstHead (view : Int) (root : Bytes) (n : Int) : Head := (view, (1, (0, (zero32, (root, ((0, (0, (zero32, (bitsZero n, ([], ()))))), ()))))))

theorem firstHead_sm (view : Int) (root : Bytes) (n : Int) (hn : n ≤ 10) (hr : Sm root) : HeadSm (firstHead view root n) := by
  refine ⟨by unfold Sm firstHead zero32; simp, hr, ⟨by unfold Sm firstHead zero32; simp, ?_, by unfold Sm firstHead; simp, by simp [firstHead]⟩⟩
  unfold Sm firstHead bitsZero bsz
  simp only [List.length_replicate]
  omega

theorem firstHead_ok (l : Lim) (view : Int) (root : Bytes) (hl : limB l = true) (hv : 1 ≤ view ∧ view ≤ 1152921504606846975) (hr : root.length = 32) : headB l (firstHead view root l.1) = true := by
  have hl' := (limB_iff l).1 hl
  unfold headB qcB matB numB h32
  have hb : bitsL (bitsZero l.1) = [] := by unfold bitsL bitsZero; rw [bitsFrom_zero]; rfl
  have hbb : bitsB (bitsZero l.1) l.1 = true := by
    unfold bitsB
    rw [hb, le_t hl'.1.1, le_t hl'.1.2]
    unfold bitsZero
    simp only [List.length_replicate, Bool.true_and, List.all_nil, Bool.and_true, beq_iff_eq]
    have : 0 ≤ bsz l.1 := by unfold bsz; omega
    omega
  simp only [firstHead, hl, hbb, hb]
  rw [w64_id (n := (1 : Int) - 1) (by decide) (by decide), w64_id (n := l.1 - 1) (by omega) (by omega), le_t hv.2, le_t (show (0 : Int) ≤ view by omega), lt_t (show (0 : Int) < view by omega), le_t (show (0 : Int) ≤ l.1 - 1 by omega)]
  simp [leB, zero32, hr, eqD]

theorem first_eq (l : Lim) (t : Table) (view : Int) (root : Bytes) (ht : Sm t.1) (hb : belB l t = true) (hv : 1 ≤ view ∧ view ≤ 1152921504606846975) (hr : root.length = 32) :
    impl_FirstHead l t view root = some ((firstHead view root l.1, (true, ())), ()) := by
  have hl : limB l = true := by
    unfold belB at hb
    rw [Bool.and_eq_true] at hb
    exact hb.1
  have hl' := (limB_iff l).1 hl
  unfold impl_FirstHead
  have hz : (List.replicate (Int.toNat 32) (UInt8.ofNat (Int.toNat 0))) = zero32 := rfl
  rw [hz, copyBytes_eq _ (by unfold Sm; omega), copyBytes_eq _ (by unfold Sm zero32; simp), bitsNew_eq _ hl'.1, belongs_eq _ _ ht, hb]
  simp only [bnd_some, Bool.not_true, br_false]
  have := headOk_eq l (firstHead view root l.1) (firstHead_sm view root l.1 (by omega) (by unfold Sm; omega))
  unfold firstHead at this
  rw [this]
  have h2 := firstHead_ok l view root hl hv hr
  unfold firstHead at h2
  rw [h2]
  rfl

end Go.Proofs.Ytlehbecajmjgkaa.P
