/- Part of a proof by a value interpreter: new blocks, boxes, and letting go. -/
import Derived.Test.YtlehbecajmjgkaaVi
set_option linter.unusedVariables false
set_option linter.unusedSimpArgs false
namespace Go.Proofs.Ytlehbecajmjgkaa.V

/-- a memory with one block more -/
structure Grew (w w' : World) (o : Obj) : Prop where
  os : w'.os = w.os
  tape : w'.tape = w.tape
  output : w'.output = w.output
  heap : w'.heap = w.heap.push o

theorem Grew.alloc (w : World) (o : Obj) : Grew w (w.alloc o) o := ⟨rfl, rfl, rfl, rfl⟩
theorem Grew.drew (w : World) (o : Obj) : Grew w (w.drew.alloc o) o := ⟨rfl, rfl, rfl, rfl⟩
theorem Grew.old {w w' : World} {o : Obj} (h : Grew w w' o) {k : Nat} (hk : k < w.heap.size) : w'.heap[k]? = w.heap[k]? := by
  rw [h.heap, Array.getElem?_push]
  split
  · omega
  · rfl
theorem Grew.new {w w' : World} {o : Obj} (h : Grew w w' o) : w'.heap[w.heap.size]? = some o := by rw [h.heap, Array.getElem?_push_size]
theorem Grew.size {w w' : World} {o : Obj} (h : Grew w w' o) : w'.heap.size = w.heap.size + 1 := by rw [h.heap, Array.size_push]

theorem Fr.grew {w0 w w' : World} {M : Hx} {o : Obj} (h : Fr w0 M w) (hg : Grew w w' o) : Fr w0 M w' :=
  ⟨hg.os.trans h.os, hg.tape.trans h.tape, hg.output.trans h.output, by rw [hg.size]; exact Nat.le_succ_of_le h.size,
   fun k hk hm => (hg.old (Nat.lt_of_lt_of_le hk h.size)).trans (h.block k hk hm)⟩

def Gh.addBox (G : Gh) (b k : Nat) (τ : Ty) : Gh := { G with lb := fun b' => if b' = b then some (k, τ) else G.lb b' }
def Gh.addOwn (G : Gh) (id k n sz : Nat) : Gh := { G with la := fun i => if i = id then some (some (k, n)) else G.la i, sz := fun k' => if k' = k then sz else G.sz k' }
def Gh.addNil (G : Gh) (id : Nat) : Gh := { G with la := fun i => if i = id then some none else G.la i }
/-- the blocks of these arrays are nobody's now -/
def Gh.let (G : Gh) (ids : List Nat) : Gh := { G with im := fun k => G.im k ∨ ∃ i ∈ ids, ∃ n, G.la i = some (some (k, n)) }

section
variable {P : Program} {el : Ty → TypeId} {w0 : World} {M : Hx} {s : St} {a : Act} {w w' : World} {G : Gh}

theorem Gh.let_nil (G : Gh) : G.let [] = G := by
  cases G
  simp [Gh.let]

theorem Inv.keepsBox (h : Inv el w0 M s a w G) {ob : Obj} (hg : Grew w w' ob) {b : Nat} (hb : G.lb b = none) (k : Nat) (τ : Ty) : Keeps w G w' (G.addBox b k τ) el :=
  keeps_of (fun k hk => ⟨hg.old (h.imb k hk), hk⟩) (fun _ _ hq => hq) (fun id g n hq => ⟨rfl, hg.old (h.lam id g n hq).1⟩) (fun b' k' τ' hq => by
    show (if b' = b then _ else _) = _
    split
    · subst b'; rw [hb] at hq; cases hq
    · exact hq)

theorem Inv.keepsOwn (h : Inv el w0 M s a w G) {ob : Obj} (hg : Grew w w' ob) {id : Nat} (hid : G.la id = none) (n sz : Nat) : Keeps w G w' (G.addOwn id w.heap.size n sz) el :=
  keeps_of (fun k hk => ⟨hg.old (h.imb k hk), hk⟩) (fun id' q hq => by
    show (if id' = id then _ else _) = _
    split
    · subst id'; rw [hid] at hq; cases hq
    · exact hq) (fun id g m hq => ⟨by
      have := (h.lam id g m hq).1
      show (if g = w.heap.size then _ else _) = _
      rw [if_neg (by omega)], hg.old (h.lam id g m hq).1⟩) (fun _ _ _ hq => hq)

theorem Inv.keepsLet (G : Gh) (w : World) (ids : List Nat) : Keeps w G w (G.let ids) el :=
  keeps_of (fun _ hk => ⟨rfl, .inl hk⟩) (fun _ _ hq => hq) (fun _ _ _ _ => ⟨rfl, rfl⟩) (fun _ _ _ hq => hq)

theorem box_set {s : St} {b b' : Nat} {d : Option D} : ({ s with bx := s.bx.set b d } : St).box b' = if b = b' ∧ b < s.bx.length then d else s.box b' := by
  unfold St.box
  simp only [List.getElem?_set]
  by_cases hb : b = b'
  · subst hb
    by_cases hl : b < s.bx.length
    · simp [hl]
    · simp [hl]
  · simp [hb]

/-- a new box -/
theorem Inv.addBox (h : Inv el w0 M s a w G) {b : Nat} {cs : List Value} {e : TypeId} {τ : Ty} {x : τ.den} {g : List Tg} (hl : b < s.bx.length) (hqb : M.q ≤ b) (hb : s.box b = none) (hr : RepT w G el τ x g cs)
    (hg : Grew w w' (.cells cs.toArray e)) : Inv el w0 M { s with bx := s.bx.set b (some ⟨τ, x, g⟩) } a w' (G.addBox b w.heap.size τ) := by
  have hb0 : G.lb b = none := by
    cases hq : G.lb b with
    | none => rfl
    | some p => obtain ⟨x, g, c, e, h1, _⟩ := h.bx b p.1 p.2 hq; rw [hb] at h1; cases h1
  have hk := h.keepsBox hg hb0 w.heap.size τ
  have hlb : ∀ b' k' τ', (G.addBox b w.heap.size τ).lb b' = some (k', τ') → (b' = b ∧ k' = w.heap.size ∧ τ' = τ) ∨ (b' ≠ b ∧ G.lb b' = some (k', τ')) := by
    intro b' k' τ' hq
    change (if b' = b then _ else _) = _ at hq
    split at hq
    · rename_i hbb; cases hq; exact .inl ⟨hbb, rfl, rfl⟩
    · rename_i hbb; exact .inr ⟨hbb, hq⟩
  have old : ∀ b' k' τ', G.lb b' = some (k', τ') → k' < w.heap.size := by
    intro b' k' τ' hq
    obtain ⟨_, _, _, _, _, h2, _⟩ := h.bx b' k' τ' hq
    exact (Array.getElem?_eq_some_iff.1 h2).1
  exact
  { df := h.df
    len := h.len
    blen := by simp [h.blen]
    tm := fun i x v h1 h2 => hk.rw' (h.tm i x v h1 h2)
    bx := by
      intro b' k' τ' hq
      rcases hlb _ _ _ hq with ⟨rfl, rfl, rfl⟩ | ⟨hne, hq⟩
      · exact ⟨x, g, cs.toArray, e, by rw [box_set, if_pos ⟨rfl, hl⟩], hg.new, by simpa using hk.rt hr⟩
      · obtain ⟨x', g', c', e', h1, h2, h3⟩ := h.bx b' k' τ' hq
        exact ⟨x', g', c', e', by rw [box_set, if_neg (fun hh => hne hh.1.symm)]; exact h1, (hg.old (old _ _ _ hq)).trans h2, hk.rt h3⟩
    bn := by
      intro b' hq
      change (if b' = b then _ else _) = _ at hq
      split at hq
      · cases hq
      · rename_i hne; rw [box_set, if_neg (fun hh => hne hh.1.symm)]; exact h.bn b' hq
    lbi := by
      intro b1 b2 k τ1 τ2 h1 h2
      rcases hlb _ _ _ h1 with ⟨e1, k1, t1⟩ | ⟨hne, g1⟩ <;> rcases hlb _ _ _ h2 with ⟨e2, k2, t2⟩ | ⟨hne2, g2⟩
      · rw [e1, e2]
      · have := old _ _ _ g2; omega
      · have := old _ _ _ g1; omega
      · exact h.lbi _ _ _ _ _ g1 g2
    lbm := by
      intro b' k' τ' hq
      rcases hlb _ _ _ hq with ⟨rfl, rfl, rfl⟩ | ⟨hne, hq⟩
      · exact ⟨fun hi => Nat.lt_irrefl _ (h.imb _ hi), fun i n hi => Nat.lt_irrefl _ (h.lam _ _ _ hi).1, .inl h.fr.size⟩
      · exact h.lbm _ _ _ hq
    lam := fun i k n hq => ⟨by rw [hg.size]; exact Nat.lt_succ_of_lt (h.lam i k n hq).1, (h.lam i k n hq).2⟩
    las := h.las
    imb := fun k hk => by rw [hg.size]; exact Nat.lt_succ_of_lt (h.imb k hk)
    him := h.him
    hlb := by
      intro b' hb'
      have hne : b' ≠ b := by omega
      show (if b' = b then _ else _) = _ ∨ (if b' = b then _ else _) = _
      rw [if_neg hne]
      exact h.hlb b' hb'
    hnb := by
      intro b' k τ' hb' hq
      rcases hlb _ _ _ hq with ⟨_, rfl, _⟩ | ⟨_, hq⟩
      · exact h.fr.size
      · exact h.hnb b' k τ' hb' hq
    fr := h.fr.grew hg }

/-- a new array of the frame's own -/
theorem Inv.addOwn (h : Inv el w0 M s a w G) {id n sz : Nat} {ob : Obj} (hid : G.la id = none) (hg : Grew w w' ob) : Inv el w0 M s a w' (G.addOwn id w.heap.size n sz) := by
  have hk := h.keepsOwn hg hid n sz
  have hla : ∀ i k m, (G.addOwn id w.heap.size n sz).la i = some (some (k, m)) → (i = id ∧ k = w.heap.size ∧ m = n) ∨ (i ≠ id ∧ G.la i = some (some (k, m))) := by
    intro i k m hq
    change (if i = id then _ else _) = _ at hq
    split at hq
    · rename_i hbb; cases hq; exact .inl ⟨hbb, rfl, rfl⟩
    · rename_i hbb; exact .inr ⟨hbb, hq⟩
  have old : ∀ b' k' τ', G.lb b' = some (k', τ') → k' < w.heap.size := by
    intro b' k' τ' hq
    obtain ⟨_, _, _, _, _, h2, _⟩ := h.bx b' k' τ' hq
    exact (Array.getElem?_eq_some_iff.1 h2).1
  exact
  { df := h.df
    len := h.len
    blen := h.blen
    tm := fun i x v h1 h2 => hk.rw' (h.tm i x v h1 h2)
    bx := by
      intro b' k' τ' hq
      obtain ⟨x', g', c', e', h1, h2, h3⟩ := h.bx b' k' τ' hq
      exact ⟨x', g', c', e', h1, (hg.old (old _ _ _ hq)).trans h2, hk.rt h3⟩
    bn := h.bn
    lbi := h.lbi
    lbm := by
      intro b' k' τ' hq
      refine ⟨(h.lbm _ _ _ hq).1, fun i m hi => ?_, (h.lbm _ _ _ hq).2.2⟩
      rcases hla _ _ _ hi with ⟨rfl, rfl, rfl⟩ | ⟨_, hi⟩
      · exact Nat.lt_irrefl _ (old _ _ _ hq)
      · exact (h.lbm _ _ _ hq).2.1 i m hi
    lam := by
      intro i k m hq
      rcases hla _ _ _ hq with ⟨rfl, rfl, rfl⟩ | ⟨_, hq⟩
      · exact ⟨by rw [hg.size]; omega, fun _ _ hi => Nat.lt_irrefl _ (h.imb _ hi), .inl h.fr.size⟩
      · exact ⟨by rw [hg.size]; exact Nat.lt_succ_of_lt (h.lam i k m hq).1, (h.lam i k m hq).2⟩
    las := by
      intro i j k n1 n2 h1 h2 hne
      rcases hla _ _ _ h1 with ⟨e1, k1, t1⟩ | ⟨hne1, g1⟩ <;> rcases hla _ _ _ h2 with ⟨e2, k2, t2⟩ | ⟨hne2, g2⟩
      · exact absurd (e1.trans e2.symm) hne
      · have := (h.lam _ _ _ g2).1; omega
      · have := (h.lam _ _ _ g1).1; omega
      · exact h.las _ _ _ _ _ g1 g2 hne
    imb := fun k hk => by rw [hg.size]; exact Nat.lt_succ_of_lt (h.imb k hk)
    him := h.him
    hlb := h.hlb
    hnb := h.hnb
    fr := h.fr.grew hg }

theorem Inv.addNil (h : Inv el w0 M s a w G) {id : Nat} (hid : G.la id = none) : Inv el w0 M s a w (G.addNil id) := by
  have hk : Keeps w G w (G.addNil id) el := keeps_of (fun k hk => ⟨rfl, hk⟩) (fun id' q hq => by
    show (if id' = id then _ else _) = _
    split
    · subst id'; rw [hid] at hq; cases hq
    · exact hq) (fun _ _ _ _ => ⟨rfl, rfl⟩) (fun _ _ _ hq => hq)
  have hla : ∀ i k m, (G.addNil id).la i = some (some (k, m)) → G.la i = some (some (k, m)) := by
    intro i k m hq
    change (if i = id then _ else _) = _ at hq
    split at hq
    · cases hq
    · exact hq
  exact
  { df := h.df
    len := h.len
    blen := h.blen
    tm := fun i x v h1 h2 => hk.rw' (h.tm i x v h1 h2)
    bx := by
      intro b' k' τ' hq
      obtain ⟨x', g', c', e', h1, h2, h3⟩ := h.bx b' k' τ' hq
      exact ⟨x', g', c', e', h1, h2, hk.rt h3⟩
    bn := h.bn
    lbi := h.lbi
    lbm := fun b' k' τ' hq => ⟨(h.lbm _ _ _ hq).1, fun i m hi => (h.lbm _ _ _ hq).2.1 i m (hla _ _ _ hi), (h.lbm _ _ _ hq).2.2⟩
    lam := fun i k m hq => h.lam i k m (hla _ _ _ hq)
    las := fun i j k n1 n2 h1 h2 hne => h.las _ _ _ _ _ (hla _ _ _ h1) (hla _ _ _ h2) hne
    imb := h.imb
    him := h.him
    hlb := h.hlb
    hnb := h.hnb
    fr := h.fr }

/-- a block that nobody names -/
theorem Inv.garbage (h : Inv el w0 M s a w G) {ob : Obj} (hg : Grew w w' ob) : Inv el w0 M s a w' G := by
  have hk : Keeps w G w' G el := keeps_of (fun k hk => ⟨hg.old (h.imb k hk), hk⟩) (fun _ _ hq => hq) (fun id g n hq => ⟨rfl, hg.old (h.lam id g n hq).1⟩) (fun _ _ _ hq => hq)
  exact
  { df := h.df
    len := h.len
    blen := h.blen
    tm := fun i x v h1 h2 => hk.rw' (h.tm i x v h1 h2)
    bx := by
      intro b' k' τ' hq
      obtain ⟨x', g', c', e', h1, h2, h3⟩ := h.bx b' k' τ' hq
      exact ⟨x', g', c', e', h1, (hg.old (Array.getElem?_eq_some_iff.1 h2).1).trans h2, hk.rt h3⟩
    bn := h.bn
    lbi := h.lbi
    lbm := h.lbm
    lam := fun i k n hq => ⟨by rw [hg.size]; exact Nat.lt_succ_of_lt (h.lam i k n hq).1, (h.lam i k n hq).2⟩
    las := h.las
    imb := fun k hk => by rw [hg.size]; exact Nat.lt_succ_of_lt (h.imb k hk)
    him := h.him
    hlb := h.hlb
    hnb := h.hnb
    fr := h.fr.grew hg }

/-- arrays let go -/
theorem Inv.letGo (h : Inv el w0 M s a w G) {ids : List Nat} (hm : ids.any s.mv = false) : Inv el w0 M { s with fz := fun i => s.fz i || ids.contains i } a w (G.let ids) := by
  have hk := Inv.keepsLet (el := el) G w ids
  have hm' : ∀ i ∈ ids, s.mv i = false := fun i hi => by
    have := List.any_eq_false.1 hm i hi
    simpa using this
  exact
  { df := h.df
    len := h.len
    blen := h.blen
    tm := fun i x v h1 h2 => hk.rw' (h.tm i x v h1 h2)
    bx := by
      intro b' k' τ' hq
      obtain ⟨x', g', c', e', h1, h2, h3⟩ := h.bx b' k' τ' hq
      exact ⟨x', g', c', e', h1, h2, hk.rt h3⟩
    bn := h.bn
    lbi := h.lbi
    lbm := fun b' k' τ' hq => ⟨fun hi => by
      rcases hi with hi | ⟨i, _, n, hi⟩
      · exact (h.lbm _ _ _ hq).1 hi
      · exact (h.lbm _ _ _ hq).2.1 i n hi, (h.lbm _ _ _ hq).2⟩
    lam := by
      intro i k n hq
      refine ⟨(h.lam i k n hq).1, fun hf hmv hi => ?_, (h.lam i k n hq).2.2⟩
      simp only [Bool.or_eq_false_iff] at hf
      rcases hi with hi | ⟨j, hj, m, hi⟩
      · exact (h.lam i k n hq).2.1 hf.1 hmv hi
      · have hne : i ≠ j := by
          rintro rfl
          have : ids.contains i = true := by simpa using hj
          rw [this] at hf; exact absurd hf.2 (by simp)
        rcases (h.las i j k n m hq hi hne).1 with h1 | h1
        · rw [hmv] at h1; cases h1
        · rw [hm' j hj] at h1; cases h1
    las := h.las
    imb := by
      intro k hk
      rcases hk with hk | ⟨i, _, n, hi⟩
      · exact h.imb k hk
      · exact (h.lam i k n hi).1
    him := by
      intro k hk
      rcases hk with hk | ⟨i, _, n, hi⟩
      · exact h.him k hk
      · exact .inr (h.lam i k n hi).2.2
    hlb := h.hlb
    hnb := h.hnb
    fr := h.fr }

theorem app_eq (s : St) (dst : Option Tmp) (u : U) : s.app dst u = ({ s with bx := setBoxes s.bx u.wb, mv := fun i => s.mv i || u.mvs.contains i, fz := fun i => s.fz i || u.fzs.contains i } : St).put dst u.v := by
  cases dst <;> rfl

theorem St.same (s : St) : ({ s with bx := s.bx, mv := fun i => s.mv i || [].contains i, fz := fun i => s.fz i || [].contains i } : St) = s := by
  cases s; simp

end
end Go.Proofs.Ytlehbecajmjgkaa.V
