/- Plain law: the hash of bytes is there, and has 32 bytes. -/
import Derived.Test.YtlehbecajmjgkaaPd
set_option linter.unusedVariables false
set_option linter.unusedSimpArgs false
namespace Go.Proofs.Ytlehbecajmjgkaa.P
open Go Go.Proofs.Ytlehbecajmjgkaa.V Go.Proofs.Ytlehbecajmjgkaa.F

/-- what a round of a loop comes to -/
def Stp {α β : Type} (μ : α → Nat) (I : α → Prop) (Q : β → Prop) (a : α) (o : Option (α ⊕ β)) : Prop := (∃ a', o = some (.inl a') ∧ I a' ∧ μ a' < μ a) ∨ ∃ r, o = some (.inr r) ∧ Q r
theorem iter_stp {α β : Type} {step : α → Option (α ⊕ β)} {a : α} {o : Option β} (hst : iter step a = o) (μ : α → Nat) (I : α → Prop) (Q : β → Prop) (h : ∀ a, I a → Stp μ I Q a (step a)) (ha : I a) : ∃ r, o = some r ∧ Q r := iter_at hst μ I Q h ha

theorem p_get {α β : Type} {P : Option β → Prop} {l : List α} {k : Nat} {f : α → Option β} (h : k < l.length) (hf : ∀ x, l[k]? = some x → P (f x)) : P (bnd (l[k]?) f) := by
  rw [List.getElem?_eq_getElem h]
  exact hf _ (List.getElem?_eq_getElem h)
theorem p_idx {α β : Type} {P : Option β → Prop} {l : List α} {k : Int} {f : α → Option β} (h0 : 0 ≤ k) (h : k < l.length) (hf : ∀ x, x ∈ l → P (f x)) : P (bnd (bIdx l k) f) := by
  obtain ⟨x, hx, hm⟩ := bIdx_ex h0 h
  rw [hx]
  exact hf x hm
theorem p_bnd {α β : Type} {P : Option β → Prop} {m : Option α} {f : α → Option β} (Q : α → Prop) (h : ∃ x, m = some x ∧ Q x) (hf : ∀ x, Q x → P (f x)) : P (bnd m f) := by
  obtain ⟨x, rfl, hq⟩ := h
  exact hf x hq
theorem p_le {α β : Type} [LE α] [DecidableLE α] {P : Option β → Prop} {a b : α} {x y : Option β} (h : a ≤ b) (hx : P x) : P (br (leB a b) x y) := by rw [le_t h]; exact hx
theorem p_lt {α β : Type} [LT α] [DecidableLT α] {P : Option β → Prop} {a b : α} {x y : Option β} (h : a < b) (hx : P x) : P (br (ltB a b) x y) := by rw [lt_t h]; exact hx
theorem p_nlt {α β : Type} [LT α] [DecidableLT α] {P : Option β → Prop} {a b : α} {x y : Option β} (h : ¬ a < b) (hx : P y) : P (br (ltB a b) x y) := by rw [lt_f h]; exact hx
theorem p_t {β : Type} {P : Option β → Prop} {b : Bool} {x y : Option β} (h : b = true) (hx : P x) : P (br b x y) := by rw [h]; exact hx
theorem p_f {β : Type} {P : Option β → Prop} {b : Bool} {x y : Option β} (h : b = false) (hx : P y) : P (br b x y) := by rw [h]; exact hx
theorem p_iter {α β : Type} {P : Option β → Prop} {step : α → Option (α ⊕ β)} {a : α} (μ : α → Nat) (I : α → Prop) (Q : β → Prop) (h : ∀ a, I a → Stp μ I Q a (step a)) (ha : I a) (hq : ∀ r, Q r → P (some r)) : P (iter step a) := by
  obtain ⟨r, hr, hh⟩ := iter_wf μ I Q h ha
  rw [hr]
  exact hq r hh

def WordOk (x : Int) : Prop := 0 ≤ x ∧ x ≤ 4294967295

theorem isWord_eq (x : Int) : impl_isWord x = some ((leB 0 x && leB x 4294967295, ()), ()) := by
  unfold impl_isWord
  rw [within_eq]; rfl

theorem mask_ok (x : Int) : WordOk (iAnd .i64 x 4294967295) := iAnd_mask x 4294967295 (by decide)

theorem turn_ok (x n : Int) (h : 0 ≤ n ∧ n ≤ 31) : ∃ v, impl_TurnRight x n = some v ∧ True := by
  unfold impl_TurnRight
  rw [isWord_eq, within_eq, le_t h.1, le_t h.2]
  simp only [bnd_some]
  cases (leB 0 x && leB x 4294967295) with
  | false => exact ⟨_, rfl, trivial⟩
  | true =>
    rw [w64_id (n := 32 - n) (by omega) (by omega), lt_f (show ¬ n < 0 by omega), lt_f (show ¬ 32 - n < 0 by omega)]
    exact ⟨_, rfl, trivial⟩

theorem rounds_ok : ∃ r, impl_rounds = some r ∧ r.1.1.length = 64 := ⟨_, rfl, by decide +kernel⟩

set_option maxRecDepth 10000 in
theorem block_ok (h : List Int) (b : Bytes) (hh : h.length = 8) (hb : b.length = 64) (hw : ∀ x ∈ h, WordOk x) : ∃ r : List Int, impl_ShaBlock h b = some ((r, ()), ()) ∧ r.length = 8 ∧ ∀ x ∈ r, WordOk x := by
  have main : ∃ r, impl_ShaBlock h b = some r ∧ (r.1.1.length = 8 ∧ ∀ x ∈ r.1.1, WordOk x) := by
    unfold impl_ShaBlock
    refine p_f (P := fun o => ∃ r : RDen o53 × BDen i53, o = some r ∧ (r.1.1.length = 8 ∧ ∀ x ∈ r.1.1, WordOk x)) (show ((h.length : Int) != 8) = false by simp [hh]) ?_
    refine p_f (P := fun o => ∃ r : RDen o53 × BDen i53, o = some r ∧ (r.1.1.length = 8 ∧ ∀ x ∈ r.1.1, WordOk x)) (show ((b.length : Int) != 64) = false by simp [hb]) ?_
    refine p_iter (P := fun o => ∃ r : RDen o53 × BDen i53, o = some r ∧ (r.1.1.length = 8 ∧ ∀ x ∈ r.1.1, WordOk x)) (fun y => (8 - y.1.2.2.2.2.1.toNat)) (fun y => y.1.1 = h ∧ y.1.2.1 = b ∧ y.1.2.2.1 = h ∧ y.1.2.2.2.1 = 8 ∧ 0 ≤ y.1.2.2.2.2.1) (fun r => r.1.1.length = 8 ∧ ∀ x ∈ r.1.1, WordOk x) (fun a ha => ?_) ⟨rfl, rfl, rfl, (by show (h.length : Int) = 8; omega), Int.le_refl _⟩ (fun r hr => ⟨r, rfl, hr⟩)
    obtain ⟨a1, a2, a3, a4, a5⟩ := ha
    by_cases ha6 : a.1.2.2.2.2.1 < a.1.2.2.2.1
    · refine p_lt ha6 ?_
      refine p_idx a5 (by rw [a3]; omega) (fun x hx => ?_)
      rw [a3] at hx
      have hwx := hw x hx
      rw [isWord_eq, le_t hwx.1, le_t hwx.2]
      simp only [bnd_some, Bool.and_self, Bool.not_true, br_false]
      rw [w64_id (n := a.1.2.2.2.2.1 + 1) (by omega) (by omega)]
      exact .inl ⟨_, rfl, ⟨a1, a2, a3, a4, by simp only; omega⟩, by simp only; omega⟩
    · refine p_nlt ha6 ?_
      refine p_bnd (fun r => r.1.1.length = 64) rounds_ok (fun k hk => ?_)
      -- the words of the block
      refine p_iter (fun y => (16 - y.1.2.2.2.1.toNat)) (fun y => y.1.1 = h ∧ y.1.2.1 = b ∧ y.1.2.2.1.length = 64 ∧ 0 ≤ y.1.2.2.2.1 ∧ y.2.1.length = 64 ∧ y.2.2.1.length = 8) (fun z => ∃ r, z = Sum.inr r ∧ (r.1.1.length = 8 ∧ ∀ x ∈ r.1.1, WordOk x)) (fun c hc => ?_) ⟨a1, a2, hk, Int.le_refl _, by simp, by simp⟩ (fun z hz => by obtain ⟨r, rfl, hr⟩ := hz; exact .inr ⟨r, rfl, hr⟩)
      obtain ⟨c1, c2, c3, c4, c5, c6⟩ := hc
      by_cases c7 : c.1.2.2.2.1 < 16
      · refine p_lt c7 ?_
        rw [w64_id (n := 4 * c.1.2.2.2.1) (by omega) (by omega), w64_id (n := 4 * c.1.2.2.2.1 + 1) (by omega) (by omega), w64_id (n := 4 * c.1.2.2.2.1 + 2) (by omega) (by omega), w64_id (n := 4 * c.1.2.2.2.1 + 3) (by omega) (by omega), w64_id (n := c.1.2.2.2.1 + 1) (by omega) (by omega)]
        refine p_idx (by omega) (by rw [c2]; omega) (fun x1 _ => ?_)
        refine p_idx (by omega) (by rw [c2]; omega) (fun x2 _ => ?_)
        refine p_idx (by omega) (by rw [c2]; omega) (fun x3 _ => ?_)
        refine p_idx (by omega) (by rw [c2]; omega) (fun x4 _ => ?_)
        refine p_le c4 ?_
        refine p_lt (by omega) ?_
        refine p_get (by omega) (fun x5 _ => ?_)
        exact .inl ⟨_, rfl, ⟨c1, c2, c3, by simp only; omega, by simpa using c5, c6⟩, by simp only; omega⟩
      · refine p_nlt c7 ?_
        refine p_iter (fun y => (64 - y.1.2.2.1.toNat)) (fun y => y.1.1 = h ∧ y.1.2.1.length = 64 ∧ 16 ≤ y.1.2.2.1 ∧ y.2.1.length = 64 ∧ y.2.2.1.length = 8) (fun z => ∃ r, z = Sum.inr (Sum.inr r) ∧ (r.1.1.length = 8 ∧ ∀ x ∈ r.1.1, WordOk x)) (fun d hd => ?_) ⟨c1, c3, Int.le_refl _, c5, c6⟩ (fun z hz => by obtain ⟨r, rfl, hr⟩ := hz; exact .inr ⟨_, rfl, r, rfl, hr⟩)
        obtain ⟨d1, d2, d3, d4, d5⟩ := hd
        by_cases d6 : d.1.2.2.1 < 64
        · refine p_lt d6 ?_
          rw [w64_id (n := d.1.2.2.1 - 15) (by omega) (by omega), w64_id (n := d.1.2.2.1 - 2) (by omega) (by omega), w64_id (n := d.1.2.2.1 - 16) (by omega) (by omega), w64_id (n := d.1.2.2.1 - 7) (by omega) (by omega), w64_id (n := d.1.2.2.1 + 1) (by omega) (by omega)]
          refine p_le (by omega) ?_
          refine p_lt (by omega) ?_
          refine p_get (by omega) (fun x1 _ => ?_)
          refine p_le (by omega) ?_
          refine p_lt (by omega) ?_
          refine p_get (by omega) (fun x2 _ => ?_)
          refine p_bnd _ (turn_ok x1 7 (by decide)) (fun t1 _ => ?_)
          refine p_bnd _ (turn_ok x1 18 (by decide)) (fun t2 _ => ?_)
          refine p_bnd _ (turn_ok x2 17 (by decide)) (fun t3 _ => ?_)
          refine p_bnd _ (turn_ok x2 19 (by decide)) (fun t4 _ => ?_)
          refine p_le (by omega) ?_
          refine p_lt (by omega) ?_
          refine p_get (by omega) (fun x3 _ => ?_)
          refine p_le (by omega) ?_
          refine p_lt (by omega) ?_
          refine p_get (by omega) (fun x4 _ => ?_)
          refine p_le (by omega) ?_
          refine p_lt (by omega) ?_
          refine p_get (by omega) (fun x5 _ => ?_)
          exact .inl ⟨_, rfl, ⟨d1, d2, by simp only; omega, by simpa using d4, d5⟩, by simp only; omega⟩
        · refine p_nlt d6 ?_
          refine p_iter (fun y => (64 - y.1.2.2.1.toNat)) (fun y => y.1.1 = h ∧ y.1.2.1.length = 64 ∧ 0 ≤ y.1.2.2.1 ∧ y.2.1.length = 64 ∧ y.2.2.1.length = 8) (fun z => ∃ r, z = Sum.inr (Sum.inr (Sum.inr r)) ∧ (r.1.1.length = 8 ∧ ∀ x ∈ r.1.1, WordOk x)) (fun e he => ?_) ⟨d1, d2, Int.le_refl _, d4, ?_⟩ (fun z hz => by obtain ⟨r, rfl, hr⟩ := hz; exact .inr ⟨_, rfl, r, rfl, hr⟩)
          · obtain ⟨e1, e2, e3, e4, e5⟩ := he
            by_cases e6 : e.1.2.2.1 < 64
            · refine p_lt e6 ?_
              rw [w64_id (n := e.1.2.2.1 + 1) (by omega) (by omega)]
              refine p_get (by rw [e5]; decide) (fun x1 _ => ?_)
              refine p_get (by rw [e5]; decide) (fun x2 _ => ?_)
              refine p_get (by rw [e5]; decide) (fun x3 _ => ?_)
              refine p_get (by rw [e5]; decide) (fun x4 _ => ?_)
              refine p_get (by rw [e5]; decide) (fun x5 _ => ?_)
              refine p_get (by rw [e5]; decide) (fun x6 _ => ?_)
              refine p_get (by rw [e5]; decide) (fun x7 _ => ?_)
              refine p_get (by rw [e5]; decide) (fun x8 _ => ?_)
              refine p_get (by rw [e5]; decide) (fun x9 _ => ?_)
              refine p_bnd _ (turn_ok x1 6 (by decide)) (fun t1 _ => ?_)
              refine p_bnd _ (turn_ok x1 11 (by decide)) (fun t2 _ => ?_)
              refine p_bnd _ (turn_ok x1 25 (by decide)) (fun t3 _ => ?_)
              refine p_idx e3 (by rw [e2]; omega) (fun x10 _ => ?_)
              refine p_le e3 ?_
              refine p_lt (by omega) ?_
              refine p_get (by omega) (fun x11 _ => ?_)
              refine p_bnd _ (turn_ok x2 2 (by decide)) (fun t4 _ => ?_)
              refine p_bnd _ (turn_ok x2 13 (by decide)) (fun t5 _ => ?_)
              refine p_bnd _ (turn_ok x2 22 (by decide)) (fun t6 _ => ?_)
              refine p_get (by rw [e5]; decide) (fun y1 _ => ?_)
              refine p_get (by rw [e5]; decide) (fun y2 _ => ?_)
              refine p_get (by rw [e5]; decide) (fun y3 _ => ?_)
              refine p_get (by rw [e5]; decide) (fun y4 _ => ?_)
              refine p_get (by rw [e5]; decide) (fun y5 _ => ?_)
              iterate 16 refine p_get (by simp) (fun _ _ => ?_)
              exact .inl ⟨_, rfl, ⟨e1, e2, by simp only; omega, e4, by simp⟩, by simp only; omega⟩
            · refine p_nlt e6 ?_
              refine p_iter (fun y => (8 - y.1.2.2.1.toNat)) (fun y => y.1.1 = h ∧ 0 ≤ y.1.2.2.1 ∧ y.1.2.2.1 ≤ 8 ∧ (y.1.2.1.length : Int) = y.1.2.2.1 ∧ (∀ x ∈ y.1.2.1, WordOk x) ∧ y.2.1.length = 8) (fun z => ∃ r, z = Sum.inr (Sum.inr (Sum.inr (Sum.inr r))) ∧ (r.1.1.length = 8 ∧ ∀ x ∈ r.1.1, WordOk x)) (fun f hf => ?_) ⟨e1, Int.le_refl _, (show (0 : Int) ≤ 8 by decide), by simp, by simp, e5⟩ (fun z hz => by obtain ⟨r, rfl, hr⟩ := hz; exact .inr ⟨_, rfl, r, rfl, hr⟩)
              obtain ⟨f1, f2, f3, f4, f5, f6⟩ := hf
              by_cases f7 : f.1.2.2.1 < 8
              · refine p_lt f7 ?_
                rw [w64_id (n := f.1.2.2.1 + 1) (by omega) (by omega)]
                refine p_idx f2 (by rw [f1, hh]; omega) (fun x1 _ => ?_)
                refine p_le f2 ?_
                refine p_lt f7 ?_
                refine p_get (by omega) (fun x2 _ => ?_)
                rw [set1]
                refine p_le (len_most (by simp; omega)) ?_
                refine .inl ⟨_, rfl, ⟨f1, by simp only; omega, by simp only; omega, by simp only [List.length_append, List.length_singleton]; omega, ?_, f6⟩, by simp only; omega⟩
                intro x hx
                simp only at hx
                rcases List.mem_append.1 hx with hx | hx
                · exact f5 x hx
                · simp at hx
                  rw [hx]
                  exact mask_ok _
              · refine p_nlt f7 ?_
                exact .inr ⟨_, rfl, _, rfl, (show f.1.2.1.length = 8 by omega), f5⟩
          · show (over d.1.1 d.2.2.1).length = 8
            unfold over
            simp [d1, d5, hh]
  obtain ⟨r, hr, hq⟩ := main
  exact ⟨r.1.1, hr, hq⟩

end Go.Proofs.Ytlehbecajmjgkaa.P
