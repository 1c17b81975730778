/- Part of a proof by a value interpreter: what it means that memory holds a typed value, and what keeps it so. -/
import Derived.Test.YtlehbecajmjgkaaVa
import Derived.Laws.AppendOwn
import Derived.Laws.OwnMore
import Derived.Laws.Tables
import Derived.Below
set_option linter.unusedVariables false
set_option linter.unusedSimpArgs false
namespace Go.Proofs.Ytlehbecajmjgkaa.V

section
variable {α : Type}
theorem fNat_eq : (n : Nat) → (k : Nat → α) → fNat n k = k n
  | 0, _ => rfl
  | n + 1, k => by rw [fNat, fNat_eq]
theorem fList_eq {β : Type} : (l : List β) → (k : List β → α) → fList l k = k l
  | [], _ => rfl
  | _ :: r, k => by rw [fList, fList_eq r]
theorem fTg_eq : (l : List Tg) → (k : List Tg → α) → fTg l k = k l
  | [], _ => rfl
  | .im :: r, k => by rw [fTg, fTg_eq r]
  | .ni :: r, k => by rw [fTg, fTg_eq r]
  | .ow n :: r, k => by rw [fTg, fNat_eq, fTg_eq r]
  | .pa n :: r, k => by rw [fTg, fNat_eq, fTg_eq r]
theorem fD_eq (d : D) (k : D → α) : fD d k = k d := by obtain ⟨τ, x, g⟩ := d; rw [fD, fTg_eq]
theorem fV_eq (v : V) (k : V → α) : fV v k = k v := by cases v <;> simp only [fV, fD_eq]
theorem fVs_eq : (l : List V) → (k : List V → α) → fVs l k = k l
  | [], _ => rfl
  | _ :: r, k => by rw [fVs, fV_eq, fVs_eq r]
theorem fTm_eq : (l : List W) → (k : List W → α) → fTm l k = k l
  | [], _ => rfl
  | .one v :: r, k => by rw [fTm, fV_eq, fTm_eq r]
  | .tup vs :: r, k => by rw [fTm, fVs_eq, fTm_eq r]
  | .un :: r, k => by rw [fTm, fTm_eq r]
theorem fBx_eq : (l : List (Option D)) → (k : List (Option D) → α) → fBx l k = k l
  | [], _ => rfl
  | none :: r, k => by rw [fBx, fBx_eq r]
  | some d :: r, k => by rw [fBx, fD_eq, fBx_eq r]
theorem fSt_eq (s : St) (k : St → α) : fSt s k = k s := by unfold fSt; rw [fTm_eq, fBx_eq, fNat_eq]
theorem normK_eq (s : St) (kill : List Nat) (k : St → α) : s.normK kill k = k (s.norm kill) := by unfold St.normK; rw [fList_eq, fList_eq, fSt_eq]; rfl
theorem headK_eq (s : St) (keep : List Tmp) (h : Hint) (k : St → α) : s.headK keep h k = k (s.head keep h) := by unfold St.headK; rw [fList_eq, normK_eq, fSt_eq, normK_eq]; rfl
theorem fSh_eq : (l : List Sh) → (k : List Sh → α) → fSh l k = k l
  | [], _ => rfl
  | .top :: r, k => by rw [fSh, fSh_eq r]
  | .un :: r, k => by rw [fSh, fSh_eq r]
  | .nl :: r, k => by rw [fSh, fSh_eq r]
  | .fn _ :: r, k => by rw [fSh, fSh_eq r]
  | .ptr _ _ _ :: r, k => by rw [fSh, fSh_eq r]
  | .dat _ _ :: r, k => by rw [fSh, fSh_eq r]
theorem fBs_eq : (l : List (Option (Ty × List Tg))) → (k : List (Option (Ty × List Tg)) → α) → fBs l k = k l
  | [], _ => rfl
  | none :: r, k => by rw [fBs, fBs_eq r]
  | some (τ, g) :: r, k => by rw [fBs, fBs_eq r]
theorem fShape_eq (h : Shape) (k : Shape → α) : fShape h k = k h := by unfold fShape; rw [fSh_eq, fBs_eq]
end

def seg (cs : List Value) (i n : Nat) : List Value := (cs.drop (i * n)).take n

theorem seg_take {cs : List Value} {i n m : Nat} (h : (i + 1) * n ≤ m) : seg (cs.take m) i n = seg cs i n := by
  unfold seg
  rw [List.drop_take, List.take_take]
  congr 1
  have : (i + 1) * n = i * n + n := by rw [Nat.add_mul, Nat.one_mul]
  omega

theorem seg_length {cs : List Value} {i n : Nat} (h : (i + 1) * n ≤ cs.length) : (seg cs i n).length = n := by
  unfold seg
  have : (i + 1) * n = i * n + n := by rw [Nat.add_mul, Nat.one_mul]
  rw [List.length_take, List.length_drop]
  omega

theorem seg_append_left {a b : List Value} {i n : Nat} (h : (i + 1) * n ≤ a.length) : seg (a ++ b) i n = seg a i n := by
  unfold seg
  have : (i + 1) * n = i * n + n := by rw [Nat.add_mul, Nat.one_mul]
  rw [List.drop_append_of_le_length (by omega), List.take_append_of_le_length (by rw [List.length_drop]; omega)]

theorem seg_append_right {a b : List Value} {i k n : Nat} (h : a.length = k * n) : seg (a ++ b) (k + i) n = seg b i n := by
  unfold seg
  rw [Nat.add_mul, ← h, List.drop_append, List.drop_eq_nil_of_le (by omega), List.nil_append]
  congr 2
  omega

theorem seg_getElem? (cs : List Value) (i n j : Nat) (h : j < n) : (seg cs i n)[j]? = cs[i * n + j]? := by
  unfold seg
  rw [List.getElem?_take, if_pos h, List.getElem?_drop]

/-- Memory 'w' holds, at cells 'cs', this value; its slices lie in blocks of 'im'. -/
def RepIm (w : World) (im : Nat → Prop) : (τ : Ty) → τ.den → List Value → Prop
  | .int k, x, cs => cs = [.int k (toI k x)]
  | .bool, x, cs => cs = [.bool x]
  | .str, x, cs => cs = [.string ⟨x.toArray⟩]
  | .sl t, xs, cs => ∃ a cap, cs = [.slice a xs.length cap] ∧
      ((a = none ∧ xs = [] ∧ cap = 0) ∨ ∃ b off c e fz, a = some ⟨b, off, none⟩ ∧ im b ∧ xs.length ≤ cap ∧ w.heap[b]? = some (.cells c e fz) ∧
        (0 < xs.length → off + xs.length * t.size ≤ c.size) ∧ ∀ i x, xs[i]? = some x → RepIm w im t x (seg (c.toList.drop off) i t.size))
  | .un, _, cs => cs = []
  | .pr a b, x, cs => ∃ c1 c2, cs = c1 ++ c2 ∧ RepIm w im a x.1 c1 ∧ RepIm w im b x.2 c2
  | .arr n t, xs, cs => xs.length = n ∧ cs.length = n * t.size ∧ ∀ i x, xs[i]? = some x → RepIm w im t x (seg cs i t.size)

theorem RepIm.len {w : World} {im : Nat → Prop} : {τ : Ty} → {x : τ.den} → {cs : List Value} → RepIm w im τ x cs → cs.length = τ.size
  | .int _, _, _, h => by simp only [RepIm] at h; subst h; rfl
  | .bool, _, _, h => by simp only [RepIm] at h; subst h; rfl
  | .str, _, _, h => by simp only [RepIm] at h; subst h; rfl
  | .sl _, _, _, h => by simp only [RepIm] at h; obtain ⟨_, _, rfl, _⟩ := h; rfl
  | .un, _, _, h => by simp only [RepIm] at h; subst h; rfl
  | .pr _ _, _, _, h => by
    simp only [RepIm] at h
    obtain ⟨c1, c2, rfl, h1, h2⟩ := h
    rw [List.length_append, h1.len, h2.len]; rfl
  | .arr _ _, _, _, h => by simp only [RepIm] at h; exact h.2.1

/-- It holds on in a memory that keeps those blocks. -/
theorem RepIm.mono {w w' : World} {im im' : Nat → Prop} (hk : ∀ b, im b → w'.heap[b]? = w.heap[b]?) (hi : ∀ b, im b → im' b) :
    {τ : Ty} → {x : τ.den} → {cs : List Value} → RepIm w im τ x cs → RepIm w' im' τ x cs
  | .int _, _, _, h => by simpa only [RepIm] using h
  | .bool, _, _, h => by simpa only [RepIm] using h
  | .str, _, _, h => by simpa only [RepIm] using h
  | .sl _, _, _, h => by
    simp only [RepIm] at h ⊢
    obtain ⟨a, cap, rfl, h | ⟨b, off, c, e, fz, rfl, hb, hc, hh, hl, hx⟩⟩ := h
    · exact ⟨a, cap, rfl, .inl h⟩
    · exact ⟨_, cap, rfl, .inr ⟨b, off, c, e, fz, rfl, hi b hb, hc, (hk b hb).trans hh, hl, fun i x hx' => (hx i x hx').mono hk hi⟩⟩
  | .un, _, _, h => by simpa only [RepIm] using h
  | .pr _ _, _, _, h => by
    simp only [RepIm] at h ⊢
    obtain ⟨c1, c2, rfl, h1, h2⟩ := h
    exact ⟨c1, c2, rfl, h1.mono hk hi, h2.mono hk hi⟩
  | .arr _ _, _, _, h => by
    simp only [RepIm] at h ⊢
    exact ⟨h.1, h.2.1, fun i x hx => (h.2.2 i x hx).mono hk hi⟩

/-- What stands behind a frame's own names: the blocks of its boxes; its arrays (not there; nil; a block, and how many elements of it are in use); the size of an array's element; the blocks that nobody writes. -/
structure Gh where
  lb : Nat → Option (Nat × Ty)
  la : Nat → Option (Option (Nat × Nat))
  sz : Nat → Nat
  im : Nat → Prop

/-- a slice of the frame's own -/
def OwnAt (w : World) (G : Gh) (el : Ty → TypeId) (t : Ty) (xs : List t.den) (id : Nat) (full : Bool) (v : Value) : Prop :=
  match G.la id with
  | none => False
  | some none => v = .slice none 0 0 ∧ xs = []
  | some (some (g, ext)) => (if full then xs.length = ext else xs.length ≤ ext) ∧ G.sz g = t.size ∧ 0 < t.size ∧
      ∃ c cap, v = .slice (some ⟨g, 0, none⟩) xs.length cap ∧ ext ≤ cap ∧ cap ≤ maxLen ∧ w.heap[g]? = some (.cells c (el t) (0, 0)) ∧ c.size = cap * t.size ∧
        ∀ i x, xs[i]? = some x → RepIm w G.im t x (seg c.toList i t.size)

def RepS (w : World) (G : Gh) (el : Ty → TypeId) (t : Ty) (xs : List t.den) : Tg → Value → Prop
  | .im, v => RepIm w G.im (.sl t) xs [v]
  | .ni, v => v = .slice none 0 0 ∧ xs = []
  | .ow id, v => OwnAt w G el t xs id true v
  | .pa id, v => OwnAt w G el t xs id false v

/-- the same for a value whose own slices bear tags -/
def RepT (w : World) (G : Gh) (el : Ty → TypeId) : (τ : Ty) → τ.den → List Tg → List Value → Prop
  | .sl t, xs, g, cs => ∃ tg v, g = [tg] ∧ cs = [v] ∧ RepS w G el t xs tg v
  | .pr a b, x, g, cs => ∃ c1 c2, cs = c1 ++ c2 ∧ RepT w G el a x.1 (g.take a.leaves) c1 ∧ RepT w G el b x.2 (g.drop a.leaves) c2
  | .int k, x, g, cs => g = [] ∧ RepIm w G.im (.int k) x cs
  | .bool, x, g, cs => g = [] ∧ RepIm w G.im .bool x cs
  | .str, x, g, cs => g = [] ∧ RepIm w G.im .str x cs
  | .un, x, g, cs => g = [] ∧ RepIm w G.im .un x cs
  | .arr n t, x, g, cs => g = [] ∧ RepIm w G.im (.arr n t) x cs

theorem RepS.one {w : World} {G : Gh} {el : Ty → TypeId} {t : Ty} {xs : List t.den} {tg : Tg} {v : Value} (h : RepS w G el t xs tg v) : ∃ a cap, v = .slice a xs.length cap := by
  cases tg with
  | im =>
    simp only [RepS, RepIm] at h
    obtain ⟨a, cap, hc, _⟩ := h
    exact ⟨a, cap, by simpa using hc⟩
  | ni => obtain ⟨rfl, rfl⟩ := h; exact ⟨none, 0, rfl⟩
  | ow id =>
    simp only [RepS, OwnAt] at h
    split at h
    · exact h.elim
    · obtain ⟨rfl, rfl⟩ := h; exact ⟨none, 0, rfl⟩
    · obtain ⟨_, _, _, c, cap, rfl, _⟩ := h; exact ⟨_, cap, rfl⟩
  | pa id =>
    simp only [RepS, OwnAt] at h
    split at h
    · exact h.elim
    · obtain ⟨rfl, rfl⟩ := h; exact ⟨none, 0, rfl⟩
    · obtain ⟨_, _, _, c, cap, rfl, _⟩ := h; exact ⟨_, cap, rfl⟩

theorem RepT.len {w : World} {G : Gh} {el : Ty → TypeId} : {τ : Ty} → {x : τ.den} → {g : List Tg} → {cs : List Value} → RepT w G el τ x g cs → cs.length = τ.size ∧ g.length = τ.leaves
  | .int _, _, _, _, h => by simp only [RepT] at h; obtain ⟨rfl, h⟩ := h; exact ⟨h.len, rfl⟩
  | .bool, _, _, _, h => by simp only [RepT] at h; obtain ⟨rfl, h⟩ := h; exact ⟨h.len, rfl⟩
  | .str, _, _, _, h => by simp only [RepT] at h; obtain ⟨rfl, h⟩ := h; exact ⟨h.len, rfl⟩
  | .sl _, _, _, _, h => by simp only [RepT] at h; obtain ⟨_, _, rfl, rfl, _⟩ := h; exact ⟨rfl, rfl⟩
  | .un, _, _, _, h => by simp only [RepT] at h; obtain ⟨rfl, h⟩ := h; exact ⟨h.len, rfl⟩
  | .pr a b, _, g, _, h => by
    simp only [RepT] at h
    obtain ⟨c1, c2, rfl, h1, h2⟩ := h
    have k1 := h1.len
    have k2 := h2.len
    refine ⟨by rw [List.length_append, k1.1, k2.1]; rfl, ?_⟩
    have e1 := k1.2
    have e2 := k2.2
    rw [List.length_take] at e1
    rw [List.length_drop] at e2
    show g.length = a.leaves + b.leaves
    omega
  | .arr _ _, _, _, _, h => by simp only [RepT] at h; obtain ⟨rfl, h⟩ := h; exact ⟨h.len, rfl⟩

/-- From one memory (and one set of names) to another, slice by slice. -/
theorem RepT.map {w w' : World} {G G' : Gh} {el : Ty → TypeId} (f : Tg → Tg) (him : ∀ {τ : Ty} {x : τ.den} {cs : List Value}, RepIm w G.im τ x cs → RepIm w' G'.im τ x cs) :
    {τ : Ty} → {x : τ.den} → {g : List Tg} → {cs : List Value} → (hs : ∀ t (xs : List t.den) tg v, tg ∈ g → RepS w G el t xs tg v → RepS w' G' el t xs (f tg) v) →
    RepT w G el τ x g cs → RepT w' G' el τ x (g.map f) cs
  | .int _, _, _, _, _, h => by simp only [RepT] at h ⊢; obtain ⟨rfl, h⟩ := h; exact ⟨rfl, him h⟩
  | .bool, _, _, _, _, h => by simp only [RepT] at h ⊢; obtain ⟨rfl, h⟩ := h; exact ⟨rfl, him h⟩
  | .str, _, _, _, _, h => by simp only [RepT] at h ⊢; obtain ⟨rfl, h⟩ := h; exact ⟨rfl, him h⟩
  | .sl _, _, _, _, hs, h => by
    simp only [RepT] at h ⊢
    obtain ⟨tg, v, rfl, rfl, h⟩ := h
    exact ⟨f tg, v, rfl, rfl, hs _ _ _ _ (by simp) h⟩
  | .un, _, _, _, _, h => by simp only [RepT] at h ⊢; obtain ⟨rfl, h⟩ := h; exact ⟨rfl, him h⟩
  | .pr _ _, _, _, _, hs, h => by
    simp only [RepT] at h ⊢
    obtain ⟨c1, c2, rfl, h1, h2⟩ := h
    refine ⟨c1, c2, rfl, ?_, ?_⟩
    · rw [← List.map_take]; exact h1.map f him (fun t xs tg v hm => hs t xs tg v (List.mem_of_mem_take hm))
    · rw [← List.map_drop]; exact h2.map f him (fun t xs tg v hm => hs t xs tg v (List.mem_of_mem_drop hm))
  | .arr _ _, _, _, _, _, h => by simp only [RepT] at h ⊢; obtain ⟨rfl, h⟩ := h; exact ⟨rfl, him h⟩

theorem RepT.same {w w' : World} {G G' : Gh} {el : Ty → TypeId} (him : ∀ {τ : Ty} {x : τ.den} {cs : List Value}, RepIm w G.im τ x cs → RepIm w' G'.im τ x cs)
    {τ : Ty} {x : τ.den} {g : List Tg} {cs : List Value} (hs : ∀ t (xs : List t.den) tg v, tg ∈ g → RepS w G el t xs tg v → RepS w' G' el t xs tg v)
    (h : RepT w G el τ x g cs) : RepT w' G' el τ x g cs := by
  have := h.map (f := id) him (fun t xs tg v hm hh => hs t xs tg v hm hh)
  simpa using this

/-- the ids in tags -/
theorem mem_tgIds {g : List Tg} {i : Nat} : i ∈ tgIds g ↔ .ow i ∈ g ∨ .pa i ∈ g := by
  induction g with
  | nil => simp [tgIds]
  | cons t r ih => cases t <;> simp [tgIds, ih, or_left_comm, or_assoc]

/-- A value whose slices are nobody's to write, if the arrays that it shows are counted in. -/
theorem RepS.toIm {w : World} {G : Gh} {el : Ty → TypeId} {im : Nat → Prop} (hi : ∀ b, G.im b → im b) {t : Ty} {xs : List t.den} {tg : Tg} {v : Value}
    (hid : ∀ i g n, i ∈ tgIds [tg] → G.la i = some (some (g, n)) → im g) (h : RepS w G el t xs tg v) : RepIm w im (.sl t) xs [v] := by
  have own : ∀ i full, i ∈ tgIds [tg] → OwnAt w G el t xs i full v → RepIm w im (.sl t) xs [v] := by
    intro i full hm h
    unfold OwnAt at h
    split at h
    · exact h.elim
    · obtain ⟨rfl, rfl⟩ := h
      simp only [RepIm]
      refine ⟨none, 0, rfl, .inl ?_⟩
      simp
    · rename_i g ext hla
      obtain ⟨hf, _, _, c, cap, rfl, h1, _, h2, h3, h4⟩ := h
      have hle : xs.length ≤ ext := by split at hf <;> omega
      simp only [RepIm]
      refine ⟨_, cap, rfl, .inr ⟨g, 0, c, el t, (0, 0), rfl, hid i g ext hm hla, by omega, h2, fun _ => ?_, fun j x hx => ?_⟩⟩
      · rw [h3, Nat.zero_add]; exact Nat.mul_le_mul_right _ (by omega)
      · simpa using (h4 j x hx).mono (fun _ _ => rfl) hi
  cases tg with
  | im => exact RepIm.mono (fun _ _ => rfl) hi h
  | ni => obtain ⟨rfl, rfl⟩ := h; simp only [RepIm]; refine ⟨none, 0, rfl, .inl ?_⟩; simp
  | ow i => exact own i true (by simp [tgIds]) h
  | pa i => exact own i false (by simp [tgIds]) h

theorem RepT.toIm {w : World} {G : Gh} {el : Ty → TypeId} {im : Nat → Prop} (hi : ∀ b, G.im b → im b) :
    {τ : Ty} → {x : τ.den} → {g : List Tg} → {cs : List Value} → (hid : ∀ i b n, i ∈ tgIds g → G.la i = some (some (b, n)) → im b) → RepT w G el τ x g cs → RepIm w im τ x cs
  | .int _, _, _, _, _, h => by simp only [RepT] at h; exact h.2.mono (fun _ _ => rfl) hi
  | .bool, _, _, _, _, h => by simp only [RepT] at h; exact h.2.mono (fun _ _ => rfl) hi
  | .str, _, _, _, _, h => by simp only [RepT] at h; exact h.2.mono (fun _ _ => rfl) hi
  | .sl _, _, _, _, hid, h => by
    simp only [RepT] at h
    obtain ⟨tg, v, rfl, rfl, h⟩ := h
    exact h.toIm hi hid
  | .un, _, _, _, _, h => by simp only [RepT] at h; exact h.2.mono (fun _ _ => rfl) hi
  | .pr _ _, _, _, _, hid, h => by
    simp only [RepT] at h
    obtain ⟨c1, c2, rfl, h1, h2⟩ := h
    simp only [RepIm]
    refine ⟨c1, c2, rfl, h1.toIm hi fun i b n hm => ?_, h2.toIm hi fun i b n hm => ?_⟩
    · exact hid i b n (mem_tgIds.2 ((mem_tgIds.1 hm).imp List.mem_of_mem_take List.mem_of_mem_take))
    · exact hid i b n (mem_tgIds.2 ((mem_tgIds.1 hm).imp List.mem_of_mem_drop List.mem_of_mem_drop))
  | .arr _ _, _, _, _, _, h => by simp only [RepT] at h; exact h.2.mono (fun _ _ => rfl) hi

/-- and back -/
theorem RepIm.toT {w : World} {G : Gh} {el : Ty → TypeId} : {τ : Ty} → {x : τ.den} → {cs : List Value} → RepIm w G.im τ x cs → RepT w G el τ x (List.replicate τ.leaves .im) cs
  | .int _, _, _, h => by simp only [RepT]; exact ⟨rfl, h⟩
  | .bool, _, _, h => by simp only [RepT]; exact ⟨rfl, h⟩
  | .str, _, _, h => by simp only [RepT]; exact ⟨rfl, h⟩
  | .sl _, _, _, h => by
    have h' := h
    simp only [RepIm] at h'
    obtain ⟨a, cap, rfl, _⟩ := h'
    simp only [RepT]
    exact ⟨.im, _, rfl, rfl, h⟩
  | .un, _, _, h => by simp only [RepT]; exact ⟨rfl, h⟩
  | .pr a b, _, _, h => by
    simp only [RepIm] at h
    obtain ⟨c1, c2, rfl, h1, h2⟩ := h
    simp only [RepT]
    have e : (List.replicate (Ty.pr a b).leaves Tg.im) = List.replicate a.leaves .im ++ List.replicate b.leaves .im := by
      rw [List.replicate_append_replicate]; rfl
    refine ⟨c1, c2, rfl, ?_, ?_⟩
    · rw [e, List.take_left' (by simp)]; exact h1.toT
    · rw [e, List.drop_left' (by simp)]; exact h2.toT
  | .arr _ _, _, _, h => by simp only [RepT]; exact ⟨rfl, h⟩

end Go.Proofs.Ytlehbecajmjgkaa.V
