/- Part of a proof by a value interpreter: parts of values, and how types are laid out. -/
import Derived.Test.YtlehbecajmjgkaaVb
set_option linter.unusedVariables false
set_option linter.unusedSimpArgs false
namespace Go.Proofs.Ytlehbecajmjgkaa.V

theorem bnd_some {α β : Type} {m : Option α} {f : α → Option β} {b : β} (h : bnd m f = some b) : ∃ a, m = some a ∧ f a = some b := Option.bind_eq_some_iff.1 h
theorem br_some {α : Type} {b : Bool} {x y : Option α} {a : α} (h : br b x y = some a) : (b = true ∧ x = some a) ∨ (b = false ∧ y = some a) := by
  unfold br at h
  split at h
  · rename_i hb; exact .inl ⟨hb, h⟩
  · rename_i hb; exact .inr ⟨by simpa using hb, h⟩

theorem D.as_some {d : D} {τ : Ty} {y : τ.den} (h : d.as τ = some y) : d = ⟨τ, y, d.g⟩ := by
  unfold D.as at h
  split at h
  · rename_i hty
    obtain ⟨ty, x, g⟩ := d
    simp only at hty
    subst hty
    simp at h
    subst h
    rfl
  · cases h

/-! ### paths -/
def Ty.off : Ty → List Step → Option (Ty × Nat)
  | τ, [] => some (τ, 0)
  | .pr a _, .fld 0 :: p => a.off p
  | .pr a b, .fld (i + 1) :: p => (b.off (.fld i :: p)).map fun r => (r.1, a.size + r.2)
  | .arr n t, .idx i :: p => if i < n then (t.off p).map fun r => (r.1, i * t.size + r.2) else none
  | _, _ :: _ => none

theorem Ty.off_fits : {τ : Ty} → {p : List Step} → {τ' : Ty} → {n : Nat} → τ.off p = some (τ', n) → n + τ'.size ≤ τ.size
  | τ, [], _, _, h => by
    rw [Ty.off] at h
    simp at h
    obtain ⟨rfl, rfl⟩ := h
    omega
  | .pr a b, .fld 0 :: p, _, _, h => by
    rw [Ty.off] at h
    have := Ty.off_fits h
    simp only [Ty.size]; omega
  | .pr a b, .fld (i + 1) :: p, _, _, h => by
    rw [Ty.off] at h
    simp only [Option.map_eq_some_iff] at h
    obtain ⟨⟨t, k⟩, h, he⟩ := h
    have := Ty.off_fits h
    simp at he
    obtain ⟨rfl, rfl⟩ := he
    simp only [Ty.size]; omega
  | .arr m t, .idx i :: p, _, _, h => by
    rw [Ty.off] at h
    split at h
    · rename_i hi
      simp only [Option.map_eq_some_iff] at h
      obtain ⟨⟨t', k⟩, h, he⟩ := h
      have := Ty.off_fits h
      simp at he
      obtain ⟨rfl, rfl⟩ := he
      simp only [Ty.size]
      have h2 : (i + 1) * t.size ≤ m * t.size := Nat.mul_le_mul_right _ hi
      rw [Nat.add_mul, Nat.one_mul] at h2
      omega
    · cases h
  | .int _, _ :: _, _, _, h => by simp [Ty.off] at h
  | .bool, _ :: _, _, _, h => by simp [Ty.off] at h
  | .str, _ :: _, _, _, h => by simp [Ty.off] at h
  | .sl _, _ :: _, _, _, h => by simp [Ty.off] at h
  | .un, _ :: _, _, _, h => by simp [Ty.off] at h
  | .pr _ _, .idx _ :: _, _, _, h => by simp [Ty.off] at h
  | .arr _ _, .fld _ :: _, _, _, h => by simp [Ty.off] at h

theorem Ty.off_append : {τ : Ty} → {p : List Step} → {q : List Step} → {τ' τ'' : Ty} → {n m : Nat} → τ.off p = some (τ', n) → τ'.off q = some (τ'', m) → τ.off (p ++ q) = some (τ'', n + m)
  | τ, [], q, _, _, _, _, h, h' => by
    rw [Ty.off] at h
    simp at h
    obtain ⟨rfl, rfl⟩ := h
    simpa using h'
  | .pr a b, .fld 0 :: p, q, _, _, _, _, h, h' => by
    rw [Ty.off] at h
    show (Ty.pr a b).off (.fld 0 :: (p ++ q)) = _
    rw [Ty.off]
    exact Ty.off_append h h'
  | .pr a b, .fld (i + 1) :: p, q, _, _, _, _, h, h' => by
    rw [Ty.off] at h
    simp only [Option.map_eq_some_iff] at h
    obtain ⟨⟨t, k⟩, h, he⟩ := h
    simp at he
    obtain ⟨rfl, rfl⟩ := he
    show (Ty.pr a b).off (.fld (i + 1) :: (p ++ q)) = _
    rw [Ty.off]
    have := Ty.off_append h h'
    simp only [List.cons_append] at this
    rw [this]
    simp; omega
  | .arr mm t, .idx i :: p, q, _, _, _, _, h, h' => by
    rw [Ty.off] at h
    split at h
    · rename_i hi
      simp only [Option.map_eq_some_iff] at h
      obtain ⟨⟨t', k⟩, h, he⟩ := h
      simp at he
      obtain ⟨rfl, rfl⟩ := he
      show (Ty.arr mm t).off (.idx i :: (p ++ q)) = _
      rw [Ty.off, if_pos hi]
      rw [Ty.off_append h h']
      simp; omega
    · cases h
  | .int _, _ :: _, _, _, _, _, _, h, _ => by simp [Ty.off] at h
  | .bool, _ :: _, _, _, _, _, _, h, _ => by simp [Ty.off] at h
  | .str, _ :: _, _, _, _, _, _, h, _ => by simp [Ty.off] at h
  | .sl _, _ :: _, _, _, _, _, _, h, _ => by simp [Ty.off] at h
  | .un, _ :: _, _, _, _, _, _, h, _ => by simp [Ty.off] at h
  | .pr _ _, .idx _ :: _, _, _, _, _, _, h, _ => by simp [Ty.off] at h
  | .arr _ _, .fld _ :: _, _, _, _, _, _, h, _ => by simp [Ty.off] at h

/-- the cells of a part -/
def part' (cs : List Value) (n k : Nat) : List Value := (cs.drop n).take k

theorem part'_left {a b : List Value} {n k : Nat} (h : n + k ≤ a.length) : part' (a ++ b) n k = part' a n k := by
  unfold part'
  rw [List.drop_append_of_le_length (by omega), List.take_append_of_le_length (by rw [List.length_drop]; omega)]
theorem part'_right {a b : List Value} {n k : Nat} : part' (a ++ b) (a.length + n) k = part' b n k := by
  unfold part'
  rw [List.drop_append, List.drop_eq_nil_of_le (by omega), List.nil_append]
  congr 2; omega

/-- with no slices of its own there is nothing to tag -/
theorem RepT.noLeaves {w : World} {G : Gh} {el : Ty → TypeId} {τ : Ty} {x : τ.den} {g : List Tg} {cs : List Value} (h0 : τ.leaves = 0) (h : RepT w G el τ x g cs) : g = [] ∧ RepIm w G.im τ x cs := by
  have hg : g = [] := List.eq_nil_of_length_eq_zero (by rw [h.len.2, h0])
  subst hg
  exact ⟨rfl, h.toIm (fun _ h => h) (fun i b n hm => by simp [tgIds] at hm)⟩
theorem RepIm.toT0 {w : World} {G : Gh} {el : Ty → TypeId} {τ : Ty} {x : τ.den} {cs : List Value} (h0 : τ.leaves = 0) (h : RepIm w G.im τ x cs) : RepT w G el τ x [] cs := by
  have := h.toT (el := el)
  rwa [h0] at this

theorem getK_off {w : World} {G : Gh} {el : Ty → TypeId} {Ω : Type} : {τ : Ty} → {x : τ.den} → {g : List Tg} → {p : List Step} → {c : D → Option Ω} → {ω : Ω} → {cs : List Value} →
    τ.getK x g p c = some ω → RepT w G el τ x g cs → ∃ d n, τ.off p = some (d.ty, n) ∧ RepT w G el d.ty d.x d.g (part' cs n d.ty.size) ∧ c d = some ω
  | τ, x, g, [], c, ω, cs, h, hr => by
    rw [Ty.getK] at h
    refine ⟨⟨τ, x, g⟩, 0, by rw [Ty.off], ?_, h⟩
    unfold part'
    simp only [List.drop_zero]
    rw [List.take_of_length_le (by rw [hr.len.1]; exact Nat.le_refl _)]
    exact hr
  | .pr a b, x, g, .fld 0 :: p, c, ω, cs, h, hr => by
    rw [Ty.getK] at h
    simp only [RepT] at hr
    obtain ⟨c1, c2, rfl, h1, h2⟩ := hr
    obtain ⟨d, n, ho, hd, hc⟩ := getK_off h h1
    refine ⟨d, n, by rw [Ty.off]; exact ho, ?_, hc⟩
    have := Ty.off_fits ho
    rw [part'_left (by rw [h1.len.1]; exact this)]
    exact hd
  | .pr a b, x, g, .fld (i + 1) :: p, c, ω, cs, h, hr => by
    rw [Ty.getK] at h
    simp only [RepT] at hr
    obtain ⟨c1, c2, rfl, h1, h2⟩ := hr
    obtain ⟨d, n, ho, hd, hc⟩ := getK_off h h2
    refine ⟨d, a.size + n, by rw [Ty.off, ho]; rfl, ?_, hc⟩
    rw [← h1.len.1, part'_right]
    exact hd
  | .arr m t, xs, g, .idx i :: p, c, ω, cs, h, hr => by
    rw [Ty.getK] at h
    split at h
    · rename_i h0
      obtain ⟨x, hx, h⟩ := bnd_some h
      simp only [RepT, RepIm] at hr
      obtain ⟨rfl, hl, hcl, he⟩ := hr
      have hi : i < m := by rw [← hl]; exact (List.getElem?_eq_some_iff.1 hx).1
      obtain ⟨d, n, ho, hd, hc⟩ := getK_off h ((he i x hx).toT0 h0)
      refine ⟨d, i * t.size + n, by rw [Ty.off, if_pos hi, ho]; rfl, ?_, hc⟩
      have hf := Ty.off_fits ho
      have e : part' (seg cs i t.size) n d.ty.size = part' cs (i * t.size + n) d.ty.size := by
        unfold part' seg
        rw [List.drop_take, List.take_take, List.drop_drop]
        congr 1
        omega
      rw [← e]; exact hd
    · cases h
  | .int _, _, _, _ :: _, _, _, _, h, _ => by simp [Ty.getK] at h
  | .bool, _, _, _ :: _, _, _, _, h, _ => by simp [Ty.getK] at h
  | .str, _, _, _ :: _, _, _, _, h, _ => by simp [Ty.getK] at h
  | .sl _, _, _, _ :: _, _, _, _, h, _ => by simp [Ty.getK] at h
  | .un, _, _, _ :: _, _, _, _, h, _ => by simp [Ty.getK] at h
  | .pr _ _, _, _, .idx _ :: _, _, _, _, h, _ => by simp [Ty.getK] at h
  | .arr _ _, _, _, .fld _ :: _, _, _, _, h, _ => by simp [Ty.getK] at h

/-- cells with a part put in -/
def putC (cs : List Value) (n : Nat) (ds : List Value) : List Value := cs.take n ++ ds ++ cs.drop (n + ds.length)

theorem putC_left {a b : List Value} {n : Nat} {ds : List Value} (h : n + ds.length ≤ a.length) : putC (a ++ b) n ds = putC a n ds ++ b := by
  unfold putC
  rw [List.take_append_of_le_length (by omega), List.drop_append_of_le_length h]
  simp [List.append_assoc]
theorem putC_right {a b : List Value} {n : Nat} {ds : List Value} : putC (a ++ b) (a.length + n) ds = a ++ putC b n ds := by
  unfold putC
  rw [List.take_append, List.drop_append, List.take_of_length_le (by omega), List.drop_eq_nil_of_le (as := a) (by omega), List.nil_append]
  simp only [List.append_assoc]
  congr 2
  · congr 1; omega
  · congr 2; omega
theorem putC_length {cs : List Value} {n : Nat} {ds : List Value} (h : n + ds.length ≤ cs.length) : (putC cs n ds).length = cs.length := by
  unfold putC
  simp only [List.length_append, List.length_take, List.length_drop]
  omega

theorem seg_putC_same {cs : List Value} {i k n : Nat} {ds : List Value} (hn : n + ds.length ≤ k) (h : (i + 1) * k ≤ cs.length) : seg (putC cs (i * k + n) ds) i k = putC (seg cs i k) n ds := by
  have hk : (i + 1) * k = i * k + k := by rw [Nat.add_mul, Nat.one_mul]
  unfold seg putC
  apply List.ext_getElem?
  intro j
  simp only [List.getElem?_take, List.getElem?_drop, List.getElem?_append, List.length_append, List.length_take, List.length_drop]
  by_cases h1 : j < k
  · by_cases h2 : j < n
    · simp [h1, show i * k + j < min (i * k + n) cs.length by omega, show i * k + j < i * k + n by omega, show j < min n (min k (cs.length - i * k)) by omega, h2,
        show i * k + j < min (i * k + n) cs.length + ds.length by omega, show j < min n (min k (cs.length - i * k)) + ds.length by omega]
    · by_cases h3 : j < n + ds.length
      · have e1 : min (i * k + n) cs.length = i * k + n := by omega
        have e2 : min n (min k (cs.length - i * k)) = n := by omega
        simp [h1, e1, e2, h2, h3, show i * k + j < i * k + n + ds.length by omega, show ¬ i * k + j < i * k + n by omega, show i * k + j - (i * k + n) = j - n by omega]
      · have e1 : min (i * k + n) cs.length = i * k + n := by omega
        have e2 : min n (min k (cs.length - i * k)) = n := by omega
        simp [h1, e1, e2, h3, show ¬ i * k + j < i * k + n + ds.length by omega, show n + ds.length + (j - (n + ds.length)) < k by omega,
          show i * k + (n + ds.length + (j - (n + ds.length))) = i * k + n + ds.length + (i * k + j - (i * k + n + ds.length)) by omega]
  · have e1 : min (i * k + n) cs.length = i * k + n := by omega
    have e2 : min n (min k (cs.length - i * k)) = n := by omega
    simp [h1, e2, show ¬ j < n by omega, show ¬ j < n + ds.length by omega]
    omega

theorem seg_putC_other {cs : List Value} {i j k n : Nat} {ds : List Value} (hij : i ≠ j) (hn : n + ds.length ≤ k) (h : (i + 1) * k ≤ cs.length) : seg (putC cs (i * k + n) ds) j k = seg cs j k := by
  have hk : (i + 1) * k = i * k + k := by rw [Nat.add_mul, Nat.one_mul]
  unfold seg putC
  apply List.ext_getElem?
  intro l
  simp only [List.getElem?_take, List.getElem?_drop, List.getElem?_append, List.length_append, List.length_take]
  by_cases hl : l < k
  · have e1 : min (i * k + n) cs.length = i * k + n := by omega
    rcases Nat.lt_or_gt_of_ne hij with hh | hh
    · have h2 : (i + 1) * k ≤ j * k := Nat.mul_le_mul_right _ hh
      simp [hl, e1, show ¬ j * k + l < i * k + n + ds.length by omega, show i * k + n + ds.length + (j * k + l - (i * k + n + ds.length)) = j * k + l by omega]
    · have h2 : (j + 1) * k ≤ i * k := Nat.mul_le_mul_right _ hh
      have h3 : (j + 1) * k = j * k + k := by rw [Nat.add_mul, Nat.one_mul]
      simp [hl, e1, show j * k + l < i * k + n by omega, show j * k + l < i * k + n + ds.length by omega]
  · simp [hl]

theorem putK_off {w : World} {G : Gh} {el : Ty → TypeId} {Ω : Type} : {τ : Ty} → {x : τ.den} → {g : List Tg} → {p : List Step} → {d : D} → {c : τ.den → List Tg → Option Ω} → {ω : Ω} → {cs ds : List Value} →
    τ.putK x g p d c = some ω → RepT w G el τ x g cs → RepT w G el d.ty d.x d.g ds → ∃ y h n, τ.off p = some (d.ty, n) ∧ RepT w G el τ y h (putC cs n ds) ∧ c y h = some ω
  | τ, x, g, [], d, c, ω, cs, ds, h, hr, hd => by
    rw [Ty.putK] at h
    split at h
    · rename_i y hy
      have he := D.as_some hy
      refine ⟨y, d.g, 0, by rw [Ty.off, he], ?_, h⟩
      have e : putC cs 0 ds = ds := by
        unfold putC
        rw [List.drop_eq_nil_of_le (by rw [hr.len.1, hd.len.1, he]; exact Nat.le_of_eq (Nat.zero_add _).symm)]
        simp
      rw [e]
      rw [he] at hd
      exact hd
    · cases h
  | .pr a b, x, g, .fld 0 :: p, d, c, ω, cs, ds, h, hr, hd => by
    rw [Ty.putK] at h
    simp only [RepT] at hr
    obtain ⟨c1, c2, rfl, h1, h2⟩ := hr
    obtain ⟨y, hg, n, ho, hy, hc⟩ := putK_off h h1 hd
    refine ⟨_, _, n, by rw [Ty.off]; exact ho, ?_, hc⟩
    have hf := Ty.off_fits ho
    rw [putC_left (by rw [h1.len.1, hd.len.1]; exact hf)]
    simp only [RepT]
    refine ⟨_, _, rfl, ?_, ?_⟩
    · rw [List.take_left' hy.len.2]; exact hy
    · rw [List.drop_left' hy.len.2]; exact h2
  | .pr a b, x, g, .fld (i + 1) :: p, d, c, ω, cs, ds, h, hr, hd => by
    rw [Ty.putK] at h
    simp only [RepT] at hr
    obtain ⟨c1, c2, rfl, h1, h2⟩ := hr
    obtain ⟨y, hg, n, ho, hy, hc⟩ := putK_off h h2 hd
    refine ⟨_, _, a.size + n, by rw [Ty.off, ho]; rfl, ?_, hc⟩
    rw [← h1.len.1, putC_right]
    simp only [RepT]
    refine ⟨_, _, rfl, ?_, ?_⟩
    · rw [List.take_left' h1.len.2]; exact h1
    · rw [List.drop_left' h1.len.2]; exact hy
  | .arr m t, xs, g, .idx i :: p, d, c, ω, cs, ds, h, hr, hd => by
    rw [Ty.putK] at h
    split at h
    · rename_i h0
      obtain ⟨x, hx, h⟩ := bnd_some h
      simp only [RepT, RepIm] at hr
      obtain ⟨rfl, hl, hcl, he⟩ := hr
      have hi : i < m := by rw [← hl]; exact (List.getElem?_eq_some_iff.1 hx).1
      obtain ⟨y, hg, n, ho, hy, hc⟩ := putK_off h ((he i x hx).toT0 h0) hd
      have hf := Ty.off_fits ho
      have hle : (i + 1) * t.size ≤ cs.length := by rw [hcl]; exact Nat.mul_le_mul_right _ hi
      refine ⟨_, _, i * t.size + n, by rw [Ty.off, if_pos hi, ho]; rfl, ?_, hc⟩
      simp only [RepT, RepIm]
      refine ⟨trivial, by simpa using hl, ?_, fun j z hz => ?_⟩
      · rw [putC_length (by rw [hd.len.1]; have : (i + 1) * t.size = i * t.size + t.size := by rw [Nat.add_mul, Nat.one_mul]
                            omega)]
        exact hcl
      · by_cases hji : i = j
        · subst hji
          rw [seg_putC_same (by rw [hd.len.1]; exact hf) hle]
          have hz' : z = y := by
            rw [List.getElem?_set_self (by omega)] at hz
            exact (Option.some.inj hz).symm
          rw [hz']
          exact (hy.noLeaves h0).2
        · rw [seg_putC_other hji (by rw [hd.len.1]; exact hf) hle]
          rw [List.getElem?_set_ne hji] at hz
          exact he j z hz
    · cases h
  | .int _, _, _, _ :: _, _, _, _, _, _, h, _, _ => by simp [Ty.putK] at h
  | .bool, _, _, _ :: _, _, _, _, _, _, h, _, _ => by simp [Ty.putK] at h
  | .str, _, _, _ :: _, _, _, _, _, _, h, _, _ => by simp [Ty.putK] at h
  | .sl _, _, _, _ :: _, _, _, _, _, _, h, _, _ => by simp [Ty.putK] at h
  | .un, _, _, _ :: _, _, _, _, _, _, h, _, _ => by simp [Ty.putK] at h
  | .pr _ _, _, _, .idx _ :: _, _, _, _, _, _, h, _, _ => by simp [Ty.putK] at h
  | .arr _ _, _, _, .fld _ :: _, _, _, _, _, _, h, _, _ => by simp [Ty.putK] at h

end Go.Proofs.Ytlehbecajmjgkaa.V
