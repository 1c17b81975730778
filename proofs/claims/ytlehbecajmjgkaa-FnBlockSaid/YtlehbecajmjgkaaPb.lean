/- Plain law: the statements' own drawing of data. -/
import Derived.Test.YtlehbecajmjgkaaPa
set_option linter.unusedVariables false
set_option linter.unusedSimpArgs false
namespace Go.Proofs.Ytlehbecajmjgkaa.P
open Go Go.Proofs.Ytlehbecajmjgkaa.V Go.Proofs.Ytlehbecajmjgkaa.F

/-- a cursor over bytes -/
abbrev Cur : Type := List UInt8 × (Int × (Int × Unit))

structure CurOk (c : Cur) : Prop where
  lo : 0 ≤ c.2.1
  hi : c.2.1 ≤ c.1.length
  len : c.1.length ≤ 1048576

theorem CurOk.seed {b : List UInt8} {i h h' : Int} {u u' : Unit} (k : CurOk (b, (i, (h, u)))) : CurOk (b, (i, (h', u'))) := ⟨k.lo, k.hi, k.len⟩

theorem new_ok (b : List UInt8) (hb : b.length ≤ 1048576) : ∃ c : Cur, spec_l01New b = some ((c, ()), ()) ∧ CurOk c := by
  unfold spec_l01New
  generalize hst : iter _ _ = o
  obtain ⟨r, rfl, hq⟩ := iter_at hst (fun y => (y.1.1.length - y.1.2.2.1.toNat)) (fun y => y.1.1 = b ∧ 0 ≤ y.1.2.2.1) (fun r => CurOk r.1.1) (by
    intro a ha
    obtain ⟨h1, h2⟩ := ha
    have fin : CurOk (a.1.1, (0, (a.1.2.1, ()))) := ⟨Int.le_refl _, by rw [h1]; simp, by rw [h1]; exact hb⟩
    by_cases h3 : a.1.2.2.1 < (a.1.1.length : Int)
    · simp only [lt_t h3, br_true]
      by_cases h4 : a.1.2.2.1 < 4000
      · simp only [lt_t h4, br_true]
        obtain ⟨x, hx, _⟩ := bIdx_ex h2 h3
        simp only [hx, bnd_some]
        rw [w64_id (n := a.1.2.2.1 + 1) (by omega) (by omega)]
        refine .inl ⟨_, rfl, ⟨h1, by simp only; omega⟩, by simp only; omega⟩
      · simp only [lt_f h4, br_false]
        exact .inr ⟨_, rfl, fin⟩
    · simp only [lt_f h3, br_false]
      exact .inr ⟨_, rfl, fin⟩) ⟨rfl, Int.le_refl _⟩
  exact ⟨r.1.1, rfl, hq⟩

theorem byte_ok (c : Cur) (h : CurOk c) : ∃ (v : Int) (c' : Cur), spec_l01Byte c = some ((v, ()), (c', ())) ∧ 0 ≤ v ∧ v ≤ 255 ∧ CurOk c' := by
  obtain ⟨h1, h2, h3⟩ := h
  unfold spec_l01Byte
  by_cases hl : c.2.1 < (c.1.length : Int)
  · simp only [lt_t hl, br_true]
    obtain ⟨x, hx, _⟩ := bIdx_ex h1 hl
    simp only [hx, bnd_some]
    refine ⟨_, _, rfl, (iAnd_mask _ 255 (by decide)).1, (iAnd_mask _ 255 (by decide)).2, ?_⟩
    have e : w64 (c.2.1 + 1) = c.2.1 + 1 := w64_id (by omega) (by omega)
    refine ⟨?_, ?_, h3⟩
    · show 0 ≤ w64 (c.2.1 + 1); omega
    · show w64 (c.2.1 + 1) ≤ _; rw [e]; simp only; omega
  · simp only [lt_f hl, br_false]
    exact ⟨_, _, rfl, (iAnd_mask _ 255 (by decide)).1, (iAnd_mask _ 255 (by decide)).2, ⟨h1, h2, h3⟩⟩

theorem below_ok (c : Cur) (n : Int) (h : CurOk c) (hn : n ≤ 9223372036854775807) : ∃ (v : Int) (c' : Cur), spec_l01Below c n = some ((v, ()), (c', ())) ∧ 0 ≤ v ∧ (0 < n → v < n) ∧ (n ≤ 0 → v = 0) ∧ CurOk c' := by
  unfold spec_l01Below
  by_cases h0 : n ≤ 0
  · simp only [le_t h0, br_true]
    exact ⟨_, _, rfl, Int.le_refl _, fun _ => by omega, fun _ => rfl, h⟩
  · simp only [le_f h0, br_false]
    have hne : ¬ n = 0 := by omega
    have mod : ∀ x : Int, 0 ≤ x → 0 ≤ Int.tmod x n ∧ Int.tmod x n < n := fun x hx => ⟨Int.tmod_nonneg _ hx, Int.tmod_lt_of_pos _ (by omega)⟩
    by_cases h1 : n ≤ 256
    · simp only [le_t h1, br_true]
      obtain ⟨v, c', e, h2, h3, h4⟩ := byte_ok c h
      simp only [e, bnd_some, eq_f hne, br_false]
      exact ⟨_, _, rfl, (mod v h2).1, fun _ => (mod v h2).2, fun hh => absurd hh h0, h4⟩
    · simp only [le_f h1, br_false]
      obtain ⟨x, c1, e1, x1, x2, k1⟩ := byte_ok c h
      simp only [e1, bnd_some]
      obtain ⟨y, c2, e2, y1, y2, k2⟩ := byte_ok c1 k1
      simp only [e2, bnd_some]
      obtain ⟨z, c3, e3, z1, z2, k3⟩ := byte_ok c2 k2
      simp only [e3, bnd_some]
      obtain ⟨w, c4, e4, w1, w2, k4⟩ := byte_ok c3 k3
      simp only [e4, bnd_some, eq_f hne, br_false]
      have q1 : w64 (x * 16777216) = x * 16777216 := w64_id (by omega) (by omega)
      have q2 : w64 (y * 65536) = y * 65536 := w64_id (by omega) (by omega)
      have q3 : w64 (z * 256) = z * 256 := w64_id (by omega) (by omega)
      have q4 : w64 (x * 16777216 + y * 65536) = x * 16777216 + y * 65536 := w64_id (by omega) (by omega)
      have q5 : w64 (x * 16777216 + y * 65536 + z * 256) = x * 16777216 + y * 65536 + z * 256 := w64_id (by omega) (by omega)
      have q6 : w64 (x * 16777216 + y * 65536 + z * 256 + w) = x * 16777216 + y * 65536 + z * 256 + w := w64_id (by omega) (by omega)
      simp only [q1, q2, q3, q4, q5, q6]
      have hm := mod (x * 16777216 + y * 65536 + z * 256 + w) (by omega)
      exact ⟨_, _, rfl, hm.1, fun _ => hm.2, fun hh => absurd hh h0, k4⟩

theorem pick_ok (c : Cur) (l : List Int) (h : CurOk c) (h0 : 0 < l.length) (hl : l.length ≤ 1000) : ∃ (v : Int) (c' : Cur), spec_l01Pick c l = some ((v, ()), (c', ())) ∧ v ∈ l ∧ CurOk c' := by
  unfold spec_l01Pick
  obtain ⟨v, c', e, h1, h2, _, h3⟩ := below_ok c l.length h (by omega)
  simp only [e, bnd_some]
  obtain ⟨x, hx, hm⟩ := bIdx_ex (xs := l) h1 (h2 (by omega))
  simp only [hx, bnd_some]
  exact ⟨_, _, rfl, hm, h3⟩

abbrev Lim : Type := Int × (Int × (Int × (Int × (Int × Unit))))
/-- limits as they are drawn -/
structure LimDrawn (l : Lim) : Prop where
  n : 1 ≤ l.1 ∧ l.1 ≤ 10
  tx : 0 ≤ l.2.1 ∧ l.2.1 ≤ 40
  txs : 0 ≤ l.2.2.1 ∧ l.2.2.1 ≤ 8
  frame : 60 ≤ l.2.2.2.1 ∧ l.2.2.2.1 ≤ 4000
  heads : 3 ≤ l.2.2.2.2.1 ∧ l.2.2.2.2.1 ≤ 5

theorem draw10_ok (c : Cur) (h : CurOk c) : ∃ (l : Lim) (c' : Cur), spec_l10Draw c = some ((l, ()), (c', ())) ∧ LimDrawn l ∧ CurOk c' := by
  unfold spec_l10Draw
  obtain ⟨a, c1, e1, m1, k1⟩ := pick_ok c (List.set (List.set (List.set (List.set (List.set (List.set (List.set (List.replicate 7 0) 0 1) 1 3) 2 4) 3 4) 4 7) 5 9) 6 10) h (by decide) (by decide)
  simp only [e1, bnd_some]
  obtain ⟨b, c2, e2, m2, k2⟩ := pick_ok c1 (List.set (List.set (List.set (List.set (List.replicate 4 0) 0 0) 1 4) 2 8) 3 40) k1 (by decide) (by decide)
  simp only [e2, bnd_some]
  obtain ⟨d, c3, e3, m3, k3⟩ := pick_ok c2 (List.set (List.set (List.set (List.replicate 3 0) 0 0) 1 3) 2 8) k2 (by decide) (by decide)
  simp only [e3, bnd_some]
  obtain ⟨f, c4, e4, m4, k4⟩ := pick_ok c3 (List.set (List.set (List.set (List.set (List.replicate 4 0) 0 4000) 1 4000) 2 300) 3 60) k3 (by decide) (by decide)
  simp only [e4, bnd_some]
  obtain ⟨g, c5, e5, g1, g2, _, k5⟩ := below_ok c4 3 k4 (by decide)
  simp only [e5, bnd_some]
  have g3 := g2 (by decide)
  rw [w64_id (by omega) (by omega)]
  refine ⟨_, _, rfl, ?_, k5⟩
  simp [List.set, List.replicate] at m1 m2 m3 m4
  exact ⟨by simp only; omega, by simp only; omega, by simp only; omega, by simp only; omega, by simp only; omega⟩

theorem makeLimits_ok (b : List UInt8) (hb : b.length ≤ 1048576) : ∃ l : Lim, spec_MakeLimits b = some ((l, ()), ()) ∧ LimDrawn l := by
  unfold spec_MakeLimits
  obtain ⟨c, e, k⟩ := new_ok b hb
  simp only [e, bnd_some]
  obtain ⟨l, c', e', k', _⟩ := draw10_ok (c.1, (c.2.1, (w64 (c.2.2.1 + 5), c.2.2.2))) ⟨k.lo, k.hi, k.len⟩
  simp only [e', bnd_some]
  exact ⟨_, rfl, k'.n, k'.tx, k'.txs, by simp only; omega, k'.heads⟩

theorem bytes_ok (c : Cur) (n : Int) (h : CurOk c) (h0 : 0 ≤ n) (hn : n ≤ 100000) : ∃ (v : List UInt8) (c' : Cur), spec_l01Bytes c n = some ((v, ()), (c', ())) ∧ (v.length : Int) ≤ n ∧ CurOk c' := by
  unfold spec_l01Bytes
  rw [w64_id (by omega) (by omega)]
  obtain ⟨k, c1, e, k1, k2, _, k3⟩ := below_ok c (n + 1) h (by omega)
  have k2 := k2 (by omega)
  simp only [e, bnd_some]
  generalize hst : iter _ _ = o
  obtain ⟨r, rfl, hq⟩ := iter_at hst (fun y => y.1.2.1.toNat) (fun y => 0 ≤ y.1.2.1 ∧ y.1.1.length + y.1.2.1 ≤ n ∧ CurOk y.2.1) (fun r => (r.1.1.length : Int) ≤ n ∧ CurOk r.2.1) (by
    intro a ha
    obtain ⟨h1, h2, h3⟩ := ha
    by_cases h4 : 0 < a.1.2.1
    · simp only [lt_t h4, br_true]
      obtain ⟨v, c2, e2, _, _, h5⟩ := byte_ok a.2.1 h3
      simp only [e2, bnd_some, set1]
      rw [le_t (by have := len_most (n := a.1.1.length + 1) (by omega); simpa using this), br_true, w64_id (n := a.1.2.1 - 1) (by omega) (by omega)]
      exact .inl ⟨_, rfl, ⟨by simp only; omega, by simp; omega, h5⟩, by simp only; omega⟩
    · simp only [lt_f h4, br_false]
      exact .inr ⟨_, rfl, by simp only; omega, h3⟩) ⟨k1, by simp; omega, k3⟩
  exact ⟨r.1.1, r.2.1, rfl, hq⟩

theorem list6_ok (c : Cur) (n : Int) (h : CurOk c) (h0 : 0 ≤ n) (hn : n ≤ 100000) : ∃ (v : List (List UInt8)) (c' : Cur), spec_l06List c n = some ((v, ()), (c', ())) ∧ (v.length : Int) ≤ n ∧ (∀ x ∈ v, x.length ≤ 4) ∧ CurOk c' := by
  unfold spec_l06List
  rw [w64_id (by omega) (by omega)]
  obtain ⟨k, c1, e, k1, k2, _, k3⟩ := below_ok c (n + 1) h (by omega)
  have k2 := k2 (by omega)
  simp only [e, bnd_some]
  generalize hst : iter _ _ = o
  obtain ⟨r, rfl, hq⟩ := iter_at hst (fun y => y.1.2.1.toNat) (fun y => 0 ≤ y.1.2.1 ∧ y.1.1.length + y.1.2.1 ≤ n ∧ (∀ x ∈ y.1.1, x.length ≤ 4) ∧ CurOk y.2.1) (fun r => (r.1.1.length : Int) ≤ n ∧ (∀ x ∈ r.1.1, x.length ≤ 4) ∧ CurOk r.2.1) (by
    intro a ha
    obtain ⟨h1, h2, h3, h4⟩ := ha
    by_cases h5 : 0 < a.1.2.1
    · simp only [lt_t h5, br_true]
      obtain ⟨v, c2, e2, hv, h6⟩ := bytes_ok a.2.1 4 h4 (by decide) (by decide)
      simp only [e2, bnd_some, set1]
      rw [le_t (by have := len_most (n := a.1.1.length + 1) (by omega); simpa using this), br_true, w64_id (n := a.1.2.1 - 1) (by omega) (by omega)]
      refine .inl ⟨_, rfl, ⟨by simp only; omega, by simp; omega, fun x hx => ?_, h6⟩, by simp only; omega⟩
      simp only at hx
      rcases List.mem_append.1 hx with hx | hx
      · exact h3 x hx
      · simp at hx; subst hx; omega
    · simp only [lt_f h5, br_false]
      exact .inr ⟨_, rfl, by simp only; omega, h3, h4⟩) ⟨k1, by simp; omega, by simp, k3⟩
  exact ⟨r.1.1, r.2.1, rfl, hq⟩

theorem makeList_ok (b : List UInt8) (hb : b.length ≤ 1048576) : ∃ l : List (List UInt8), spec_MakeList b = some ((l, ()), ()) ∧ 1 ≤ l.length ∧ l.length ≤ 9 ∧ ∀ x ∈ l, x.length ≤ 4 := by
  unfold spec_MakeList
  obtain ⟨c, e, k⟩ := new_ok b hb
  simp only [e, bnd_some]
  unfold spec_l08List
  obtain ⟨l, c1, e1, k1, k2, k3⟩ := list6_ok c 8 k (by decide) (by decide)
  simp only [e1, bnd_some]
  obtain ⟨x, c2, e2, k4, k5⟩ := bytes_ok c1 3 k3 (by decide) (by decide)
  simp only [e2, bnd_some, set1]
  rw [le_t (by have := len_most (n := l.length + 1) (by omega); simpa using this), br_true]
  obtain ⟨v, c3, e3, _⟩ := below_ok c2 ((l ++ [x]).length) k5 (by simp; omega)
  simp only [e3, bnd_some]
  refine ⟨_, rfl, by simp, by simp; omega, fun y hy => ?_⟩
  rcases List.mem_append.1 hy with hy | hy
  · exact k2 y hy
  · simp at hy; subst hy; omega

abbrev Row : Type := Int × (List UInt8 × Unit)
abbrev Table : Type := List Row × Unit

def RowOk (r : Row) : Prop := 1 ≤ r.1 ∧ r.1 ≤ 1099511627776 ∧ 1 ≤ r.2.1.length ∧ r.2.1.length ≤ 64

theorem draw21_ok (c : Cur) (n : Int) (h : CurOk c) (h0 : 1 ≤ n) (hn : n ≤ 10) : ∃ (t : Table) (c' : Cur), spec_l21Draw c n = some ((t, ()), (c', ())) ∧ (t.1.length : Int) = n ∧ (∀ r ∈ t.1, RowOk r) ∧ CurOk c' := by
  unfold spec_l21Draw
  generalize hst : iter _ _ = o
  obtain ⟨r, rfl, hq⟩ := iter_at hst (fun y => (n - y.1.2.1).toNat) (fun y => y.1.1 = n ∧ 0 ≤ y.1.2.1 ∧ y.1.2.1 ≤ n ∧ (y.2.2.2.1.1.length : Int) = y.1.2.1 ∧ (∀ q ∈ y.2.2.2.1.1, RowOk q) ∧ CurOk y.2.1) (fun r => (r.1.1.1.length : Int) = n ∧ (∀ q ∈ r.1.1.1, RowOk q) ∧ CurOk r.2.1) (by
    intro a ha
    obtain ⟨h1, h2, h3, h4, h5, h6⟩ := ha
    by_cases h7 : a.1.2.1 < a.1.1
    · simp only [lt_t h7, br_true]
      obtain ⟨v, c1, e1, v0, v1, _, k1⟩ := below_ok a.2.1 9 h6 (by decide)
      have v1 := v1 (by decide)
      simp only [e1, bnd_some]
      rw [w64_id (n := 1 + v) (by omega) (by omega)]
      obtain ⟨q, c2, e2, m2, k2⟩ := pick_ok c1 (List.set (List.set (List.set (List.set (List.set (List.set (List.set (List.replicate 7 0) 0 1) 1 1) 2 1) 3 2) 4 5) 5 1099511627776) 6 (1 + v)) k1 (by simp) (by simp)
      simp only [e2, bnd_some]
      obtain ⟨z, c3, e3, z0, z1, _, k3⟩ := below_ok c2 9 k2 (by decide)
      simp only [e3, bnd_some, set1]
      rw [le_t (by have := len_most (n := a.2.2.2.1.1.length + 1) (by omega); simpa using this), br_true]
      rw [w64_id (n := a.1.2.1 + 1) (by omega) (by omega)]
      refine .inl ⟨_, rfl, ⟨h1, by simp only; omega, by simp only; omega, ?_, ?_, k3⟩, by simp only; omega⟩
      · simp; omega
      · intro x hx
        simp only at hx
        rcases List.mem_append.1 hx with hx | hx
        · exact h5 x hx
        · simp at hx
          subst hx
          simp [List.set, List.replicate] at m2
          refine ⟨?_, ?_, ?_, ?_⟩ <;> simp only <;> first | omega | simp
    · simp only [lt_f h7, br_false]
      exact .inr ⟨_, rfl, by simp only; omega, h5, h6⟩) ⟨rfl, Int.le_refl _, by simp only; omega, by simp, by simp, h⟩
  exact ⟨r.1.1, r.2.1, rfl, hq⟩

/-- limits and a table as they are drawn -/
structure PairDrawn (l : Lim) (t : Table) : Prop where
  lim : LimDrawn l
  n : (t.1.length : Int) = l.1
  n5 : l.1 ≤ 5
  rows : ∀ r ∈ t.1, RowOk r
  frame : l.2.2.2.1 = 4000

theorem pair_ok (c : Cur) (h : CurOk c) : ∃ (l : Lim) (t : Table) (c' : Cur), spec_l23Pair c = some ((l, (t, ())), (c', ())) ∧ PairDrawn l t ∧ CurOk c' := by
  unfold spec_l23Pair
  obtain ⟨l, c1, e1, k1, k2⟩ := draw10_ok c h
  simp only [e1, bnd_some]
  obtain ⟨v, c2, e2, v0, v1, _, k3⟩ := below_ok c1 5 k2 (by decide)
  have v1 := v1 (by decide)
  simp only [e2, bnd_some]
  rw [w64_id (n := 1 + v) (by omega) (by omega)]
  obtain ⟨t, c3, e3, t1, t2, k4⟩ := draw21_ok c2 (1 + v) k3 (by omega) (by omega)
  simp only [e3, bnd_some]
  exact ⟨_, _, _, rfl, ⟨⟨by simp only; omega, k1.tx, k1.txs, by simp only; omega, k1.heads⟩, t1, by simp only; omega, t2, rfl⟩, k4⟩

theorem makeTable_ok (b : List UInt8) (hb : b.length ≤ 1048576) : ∃ (l : Lim) (t : Table), spec_MakeTable b = some ((l, (t, ())), ()) ∧ PairDrawn l t := by
  unfold spec_MakeTable
  obtain ⟨c, e, k⟩ := new_ok b hb
  simp only [e, bnd_some]
  obtain ⟨l, t, c', e', k', _⟩ := pair_ok c k
  simp only [e', bnd_some]
  exact ⟨_, _, rfl, k'⟩

theorem hash11_ok (c : Cur) (h : CurOk c) : ∃ (v : List UInt8) (c' : Cur), spec_l11Hash c = some ((v, ()), (c', ())) ∧ v.length = 32 ∧ CurOk c' := by
  unfold spec_l11Hash
  obtain ⟨v, c1, e1, v0, v1, _, k1⟩ := below_ok c 3 h (by decide)
  simp only [e1, bnd_some]
  rw [bIdx_ok (x := UInt8.ofNat (Int.toNat 0)) (by decide) (by rfl)]
  simp only [bnd_some]
  obtain ⟨z, c2, e2, z0, z1, k2⟩ := byte_ok (c1.1, (c1.2.1, (c1.2.2.1, c1.2.2.2))) ⟨k1.lo, k1.hi, k1.len⟩
  simp only [e2, bnd_some]
  obtain ⟨x, hx, _⟩ := bIdx_ex (xs := List.set (List.replicate (Int.toNat 32) (UInt8.ofNat (Int.toNat 0))) (Int.toNat 0) (UInt8.ofNat (Int.toNat (w8 v)))) (i := 31) (by decide) (by simp)
  simp only [hx, bnd_some]
  exact ⟨_, _, rfl, by simp, ⟨k2.lo, k2.hi, k2.len⟩⟩

theorem makeHash_ok (b : List UInt8) (hb : b.length ≤ 1048576) (n : Int) : ∃ v : List UInt8, spec_MakeHash b n = some ((v, ()), ()) ∧ v.length = 32 := by
  unfold spec_MakeHash
  obtain ⟨c, e, k⟩ := new_ok b hb
  simp only [e, bnd_some]
  obtain ⟨v, c', e', k', _⟩ := hash11_ok (c.1, (c.2.1, (w64 (c.2.2.1 + n), c.2.2.2))) ⟨k.lo, k.hi, k.len⟩
  simp only [e', bnd_some]
  obtain ⟨x, hx, _⟩ := bIdx_ex (xs := v) (i := 7) (by decide) (by omega)
  simp only [hx, bnd_some]
  exact ⟨_, rfl, by simp [k']⟩

end Go.Proofs.Ytlehbecajmjgkaa.P
