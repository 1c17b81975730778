/- Part of a proof by a value interpreter: arrays counted anew. -/
import Derived.Test.YtlehbecajmjgkaaWi
set_option linter.unusedVariables false
set_option linter.unusedSimpArgs false
namespace Go.Proofs.Ytlehbecajmjgkaa.V

def normG (s : St) (kill : List Nat) (G : Gh) : Gh :=
  { lb := fun b => if kill.contains b then none else G.lb b
    la := fun j => match (liveIds s)[j]? with
      | some i => G.la i
      | none => none
    sz := G.sz
    im := fun k => G.im k ∨ ∃ i n, s.fz i = true ∧ s.mv i = false ∧ G.la i = some (some (k, n)) }

theorem nodup_dups : (n : Nat) → (l : List Nat) → l.length ≤ n → l.eraseDups.Nodup
  | _, [], _ => by simp
  | 0, _ :: _, h => by simp at h
  | n + 1, a :: l, h => by
    rw [List.eraseDups_cons, List.nodup_cons]
    refine ⟨fun hm => ?_, nodup_dups n _ (Nat.le_trans (List.length_filter_le _ _) (by simpa using h))⟩
    have := (List.mem_filter.1 (List.mem_eraseDups.1 hm)).2
    simp at this

theorem live_nodup (s : St) : (liveIds s).Nodup := by
  unfold liveIds
  exact (nodup_dups _ _ (Nat.le_refl _)).filter _

theorem live_free (s : St) (i : Nat) (h : i ∈ liveIds s) : s.mv i = false ∧ s.fz i = false := by
  unfold liveIds at h
  have := (List.mem_filter.1 h).2
  simpa using this

theorem live_bx (s : St) {b : Nat} {d : D} (hb : s.box b = some d) {i : Nat} (hi : i ∈ tgIds d.g) (hm : s.mv i = false) (hf : s.fz i = false) : i ∈ liveIds s := by
  unfold liveIds
  refine List.mem_filter.2 ⟨List.mem_eraseDups.2 (List.mem_flatMap.2 ⟨d, List.mem_append_left _ ?_, hi⟩), by simp [hm, hf]⟩
  unfold St.box at hb
  obtain ⟨o, ho, hb⟩ := Option.bind_eq_some_iff.1 hb
  exact List.mem_filterMap.2 ⟨o, List.mem_of_getElem? ho, hb⟩

/-- the slices that a temporary shows -/
def dsOf : W → List D
  | .one (.dat d) => [d]
  | .one (.el d _ _ _) => [d]
  | .tup l => l.filterMap fun | .dat d => some d | .el d _ _ _ => some d | _ => none
  | _ => []

theorem live_tm (s : St) {j : Nat} {x : W} (hb : s.tm[j]? = some x) {d : D} (hd : d ∈ dsOf x) {i : Nat} (hi : i ∈ tgIds d.g) (hm : s.mv i = false) (hf : s.fz i = false) : i ∈ liveIds s := by
  unfold liveIds
  refine List.mem_filter.2 ⟨List.mem_eraseDups.2 (List.mem_flatMap.2 ⟨d, List.mem_append_right _ ?_, hi⟩), by simp [hm, hf]⟩
  refine List.mem_flatMap.2 ⟨x, List.mem_of_getElem? hb, ?_⟩
  cases x with
  | one v => cases v <;> first | exact hd | simp [dsOf] at hd
  | tup l => exact hd
  | un => simp [dsOf] at hd

theorem deadB_mem (mv : Nat → Bool) : (bx : List (Option D)) → (i b : Nat) → (b ∈ deadB mv i bx ↔ ∃ d, i ≤ b ∧ bx[b - i]? = some (some d) ∧ (tgIds d.g).any mv = true)
  | [], i, b => by simp [deadB]
  | none :: r, i, b => by
    rw [deadB, deadB_mem mv r (i + 1) b]
    constructor
    · rintro ⟨d, h1, h2, h3⟩
      refine ⟨d, by omega, ?_, h3⟩
      rw [show b - i = (b - (i + 1)) + 1 by omega]
      simpa using h2
    · rintro ⟨d, h1, h2, h3⟩
      by_cases hb : b = i
      · subst hb; simp at h2
      · refine ⟨d, by omega, ?_, h3⟩
        rw [show b - i = (b - (i + 1)) + 1 by omega] at h2
        simpa using h2
  | some d0 :: r, i, b => by
    have ih := deadB_mem mv r (i + 1) b
    have key : (∃ d, i + 1 ≤ b ∧ r[b - (i + 1)]? = some (some d) ∧ (tgIds d.g).any mv = true) ↔ b ≠ i ∧ ∃ d, i ≤ b ∧ (some d0 :: r)[b - i]? = some (some d) ∧ (tgIds d.g).any mv = true := by
      constructor
      · rintro ⟨d, h1, h2, h3⟩
        refine ⟨by omega, d, by omega, ?_, h3⟩
        rw [show b - i = (b - (i + 1)) + 1 by omega]
        simpa using h2
      · rintro ⟨hb, d, h1, h2, h3⟩
        refine ⟨d, by omega, ?_, h3⟩
        rw [show b - i = (b - (i + 1)) + 1 by omega] at h2
        simpa using h2
    rw [deadB]
    split
    · rename_i hany
      rw [List.mem_cons, ih, key]
      constructor
      · rintro (rfl | ⟨_, h⟩)
        · exact ⟨d0, Nat.le_refl _, by simp, hany⟩
        · exact h
      · intro h
        by_cases hb : b = i
        · exact .inl hb
        · exact .inr ⟨hb, h⟩
    · rename_i hany
      rw [ih, key]
      constructor
      · exact fun h => h.2
      · rintro ⟨d, h1, h2, h3⟩
        refine ⟨?_, d, h1, h2, h3⟩
        rintro rfl
        simp at h2
        subst h2
        exact hany h3

theorem killB_get (kill : List Nat) : (bx : List (Option D)) → (i b : Nat) → (killB i kill bx)[b]? = (bx[b]?).map fun o => if kill.contains (i + b) then none else o
  | [], i, b => by simp [killB]
  | o :: r, i, b => by
    cases b with
    | zero => simp [killB]
    | succ b =>
      simp only [killB, List.getElem?_cons_succ]
      rw [killB_get kill r (i + 1) b, show i + 1 + b = i + (b + 1) by omega]

theorem killB_len (kill : List Nat) : (bx : List (Option D)) → (i : Nat) → (killB i kill bx).length = bx.length
  | [], i => rfl
  | o :: r, i => by simp [killB, killB_len kill r]

theorem norm_box (s : St) (kill : List Nat) (b : Nat) : (s.norm kill).box b = if (deadB s.mv 0 s.bx ++ kill).contains b then none else (s.box b).map (normD s.fz (liveIds s)) := by
  unfold St.box St.norm
  simp only
  rw [killB_get, List.getElem?_map, Nat.zero_add]
  cases s.bx[b]? with
  | none => simp
  | some o =>
    cases o with
    | none => by_cases h : (deadB s.mv 0 s.bx ++ kill).contains b <;> simp [normB, h]
    | some d => by_cases h : (deadB s.mv 0 s.bx ++ kill).contains b <;> simp [normB, h]

section
variable {el : Ty → TypeId} {w0 : World} {M : Hx} {s : St} {a : Act} {w : World} {G : Gh}

theorem norm_la {s : St} {G : Gh} {kill : List Nat} {i : Nat} (h : i ∈ liveIds s) : (normG s kill G).la ((liveIds s).idxOf i) = G.la i := by
  simp only [normG]
  rw [List.getElem?_eq_getElem (List.idxOf_lt_length_iff.2 h), List.getElem_idxOf]

theorem norm_rs {kill : List Nat} {t : Ty} {xs : List t.den} {tg : Tg} {v : Value} (hl : ∀ i ∈ tgIds [tg], s.mv i = false ∧ (s.fz i = false → i ∈ liveIds s)) (h : RepS w G el t xs tg v) :
    RepS w (normG s kill G) el t xs (normTg s.fz (liveIds s) tg) v := by
  have him : ∀ k, G.im k → (normG s kill G).im k := fun k hk => .inl hk
  have own : ∀ i full, i ∈ tgIds [tg] → OwnAt w G el t xs i full v → s.fz i = false → OwnAt w (normG s kill G) el t xs ((liveIds s).idxOf i) full v := by
    intro i full hi ho hf
    unfold OwnAt at ho ⊢
    rw [norm_la ((hl i hi).2 hf)]
    split at ho
    · exact ho.elim
    · exact ho
    · obtain ⟨h1, h2, h3, c, cap, h4, h5, h6, h7, h8, h9⟩ := ho
      exact ⟨h1, h2, h3, c, cap, h4, h5, h6, h7, h8, fun j x hx => (h9 j x hx).mono (fun _ _ => rfl) him⟩
  have imm : (∃ i, tgIds [tg] = [i] ∧ s.fz i = true) → RepS w (normG s kill G) el t xs .im v := by
    rintro ⟨i, hi, hf⟩
    refine h.toIm him fun j g n hj hla => .inr ⟨j, n, ?_, (hl j hj).1, hla⟩
    rw [hi] at hj
    simp at hj
    rw [hj]; exact hf
  cases tg with
  | im => exact RepIm.mono (fun _ _ => rfl) him h
  | ni => exact h
  | ow i =>
    simp only [normTg]
    split
    · rename_i hf; exact imm ⟨i, rfl, hf⟩
    · rename_i hf; exact own i true (by simp [tgIds]) h (by simpa using hf)
  | pa i =>
    simp only [normTg]
    split
    · rename_i hf; exact imm ⟨i, rfl, hf⟩
    · rename_i hf; exact own i false (by simp [tgIds]) h (by simpa using hf)

theorem norm_rt {kill : List Nat} {τ : Ty} {x : τ.den} {g : List Tg} {cs : List Value} (hl : ∀ i ∈ tgIds g, s.mv i = false ∧ (s.fz i = false → i ∈ liveIds s)) (h : RepT w G el τ x g cs) :
    RepT w (normG s kill G) el τ x (g.map (normTg s.fz (liveIds s))) cs := by
  refine h.map _ (fun hh => hh.mono (fun _ _ => rfl) fun k hk => .inl hk) (fun t xs tg v hm hs => norm_rs (fun i hi => hl i ?_) hs)
  rw [mem_tgIds] at hi ⊢
  simp only [List.mem_singleton] at hi
  rcases hi with rfl | rfl
  · exact .inl hm
  · exact .inr hm

theorem norm_rv {kill : List Nat} {v : V} {x : Value} (hl : ∀ d ∈ dsOf (.one v), ∀ i ∈ tgIds d.g, s.mv i = false → s.fz i = false → i ∈ liveIds s) (h : RepV w G el v x) :
    RepV w (normG s kill G) el (normV s.mv s.fz (liveIds s) kill v) x := by
  cases v with
  | top => trivial
  | dat d =>
    simp only [normV]
    split
    · trivial
    · rename_i hm
      have hm := any_false hm
      obtain ⟨cs, he, hr⟩ := h
      exact ⟨cs, he, norm_rt (fun i hi => ⟨by have := List.any_eq_false.1 hm i hi; simpa using this, fun hf => hl d (by simp [dsOf]) i hi (by have := List.any_eq_false.1 hm i hi; simpa using this) hf⟩) hr⟩
  | nl => exact h
  | ptr b p τ =>
    simp only [normV]
    split
    · trivial
    · rename_i hk
      obtain ⟨k, τb, n, h1, h2, h3⟩ := h
      exact ⟨k, τb, n, by simp only [normG]; rw [if_neg hk]; exact h1, h2, h3⟩
  | el d j p e =>
    simp only [normV]
    split
    · trivial
    · rename_i hm
      have hm := any_false hm
      obtain ⟨t, xs, tg, rfl, b, o, len, cap, y, n, h1, h2⟩ := h
      refine ⟨t, xs, normTg s.fz (liveIds s) tg, rfl, b, o, len, cap, y, n, ?_, h2⟩
      exact norm_rs (fun i hi => ⟨by have := List.any_eq_false.1 hm i hi; simpa using this, fun hf => hl ⟨.sl t, xs, [tg]⟩ (by simp [dsOf]) i hi (by have := List.any_eq_false.1 hm i hi; simpa using this) hf⟩) h1
  | bsl b =>
    simp only [normV]
    split
    · trivial
    · rename_i hk
      obtain ⟨k, n, t, h1, h2⟩ := h
      exact ⟨k, n, t, by simp only [normG]; rw [if_neg hk]; exact h1, h2⟩
  | fn f => exact h

theorem norm_rw {kill : List Nat} {v : W} {x : Value} (hl : ∀ d ∈ dsOf v, ∀ i ∈ tgIds d.g, s.mv i = false → s.fz i = false → i ∈ liveIds s) (h : RepW w G el v x) :
    RepW w (normG s kill G) el (normW s.mv s.fz (liveIds s) kill v) x := by
  cases v with
  | one v => exact norm_rv (v := v) hl h
  | tup l =>
    obtain ⟨vs, he, hlen, hr⟩ := h
    refine ⟨vs, he, by simpa using hlen, fun i v y hv hy => ?_⟩
    rw [List.getElem?_map] at hv
    obtain ⟨v0, hv0, rfl⟩ := Option.map_eq_some_iff.1 hv
    refine norm_rv (fun d hd => hl d ?_) (hr i v0 y hv0 hy)
    have hm := List.mem_of_getElem? hv0
    cases v0 <;> simp [dsOf] at hd
    · subst hd; exact List.mem_filterMap.2 ⟨_, hm, rfl⟩
    · subst hd; exact List.mem_filterMap.2 ⟨_, hm, rfl⟩
  | un => exact h

theorem Inv.norm (h : Inv el w0 M s a w G) (kill : List Nat) : ∃ G', Inv el w0 M (s.norm kill) a w G' ∧ ∀ id, (s.norm kill).base ≤ id → G'.la id = none := by
  refine ⟨normG s (deadB s.mv 0 s.bx ++ kill) G, ?_, fun id hid => by simp only [normG]; rw [List.getElem?_eq_none hid]⟩
  have hla : ∀ j q, (normG s (deadB s.mv 0 s.bx ++ kill) G).la j = some q → ∃ i, (liveIds s)[j]? = some i ∧ G.la i = some q := by
    intro j q hq
    simp only [normG] at hq
    split at hq
    · rename_i i hi; exact ⟨i, hi, hq⟩
    · cases hq
  have hlb : ∀ b q, (normG s (deadB s.mv 0 s.bx ++ kill) G).lb b = some q → ¬ (deadB s.mv 0 s.bx ++ kill).contains b = true ∧ G.lb b = some q := by
    intro b q hq
    simp only [normG] at hq
    split at hq
    · cases hq
    · rename_i hc; exact ⟨hc, hq⟩
  exact
  { df := h.df
    len := by simp [St.norm, h.len]
    blen := by simp only [St.norm]; rw [killB_len]; simp [h.blen]
    tm := by
      intro i x v hx hv
      simp only [St.norm] at hx
      rw [List.getElem?_map] at hx
      obtain ⟨x0, hx0, rfl⟩ := Option.map_eq_some_iff.1 hx
      exact norm_rw (fun d hd i hi hm hf => live_tm s hx0 hd hi hm hf) (h.tm i x0 v hx0 hv)
    bx := by
      intro b k τ hq
      obtain ⟨hc, hq⟩ := hlb b _ hq
      obtain ⟨x, g, c, e, h1, h2, h3⟩ := h.bx b k τ hq
      have hm : (tgIds g).any s.mv = false := by
        cases hm : (tgIds g).any s.mv with
        | false => rfl
        | true =>
          exfalso
          apply hc
          simp only [List.contains_eq_mem, decide_eq_true_eq]
          refine List.mem_append_left _ ((deadB_mem s.mv s.bx 0 b).2 ⟨⟨τ, x, g⟩, Nat.zero_le _, ?_, hm⟩)
          unfold St.box at h1
          obtain ⟨o, ho, h1⟩ := Option.bind_eq_some_iff.1 h1
          rw [Nat.sub_zero, ho]
          exact congrArg some h1
      refine ⟨x, g.map (normTg s.fz (liveIds s)), c, e, ?_, h2, norm_rt (fun i hi => ?_) h3⟩
      · rw [norm_box, if_neg hc, h1]; rfl
      · have hmi : s.mv i = false := by have := List.any_eq_false.1 hm i hi; simpa using this
        exact ⟨hmi, fun hf => live_bx s h1 hi hmi hf⟩
    bn := by
      intro b hb
      rw [norm_box]
      split
      · rfl
      · rename_i hc
        simp only [normG] at hb
        rw [if_neg hc] at hb
        rw [h.bn b hb]; rfl
    lbi := fun b b' k τ τ' h1 h2 => h.lbi _ _ _ _ _ (hlb _ _ h1).2 (hlb _ _ h2).2
    lbm := by
      intro b k τ hq
      have hq := (hlb _ _ hq).2
      obtain ⟨h1, h2, h3⟩ := h.lbm b k τ hq
      refine ⟨?_, fun i n hi => ?_, h3⟩
      · rintro (hi | ⟨i, n, _, _, hi⟩)
        · exact h1 hi
        · exact h2 i n hi
      · obtain ⟨i0, _, hi⟩ := hla _ _ hi
        exact h2 i0 n hi
    lam := by
      intro i k n hi
      obtain ⟨i0, hi0, hi⟩ := hla _ _ hi
      obtain ⟨h1, h2, h3⟩ := h.lam i0 k n hi
      obtain ⟨hm, hf⟩ := live_free s i0 (List.mem_of_getElem? hi0)
      refine ⟨h1, fun _ _ => ?_, h3⟩
      rintro (hk | ⟨j, m, hfj, hmj, hj⟩)
      · exact h2 hf hm hk
      · have hne : i0 ≠ j := by rintro rfl; rw [hf] at hfj; cases hfj
        rcases (h.las i0 j k n m hi hj hne).1 with hh | hh
        · rw [hm] at hh; cases hh
        · rw [hmj] at hh; cases hh
    las := by
      intro i j k n m hi hj hne
      obtain ⟨i0, hi0, hi⟩ := hla _ _ hi
      obtain ⟨j0, hj0, hj⟩ := hla _ _ hj
      have hne0 : i0 ≠ j0 := by
        rintro rfl
        have hil := (List.getElem?_eq_some_iff.1 hi0).1
        exact hne ((List.getElem?_inj hil (live_nodup s)).1 (hi0.trans hj0.symm))
      exfalso
      rcases (h.las i0 j0 k n m hi hj hne0).1 with hh | hh
      · rw [(live_free s i0 (List.mem_of_getElem? hi0)).1] at hh; cases hh
      · rw [(live_free s j0 (List.mem_of_getElem? hj0)).1] at hh; cases hh
    imb := by
      intro k hk
      rcases hk with hk | ⟨i, n, _, _, hi⟩
      · exact h.imb k hk
      · exact (h.lam i k n hi).1
    him := by
      intro k hk
      rcases hk with hk | ⟨i, n, _, _, hi⟩
      · exact h.him k hk
      · exact .inr (h.lam i k n hi).2.2
    hlb := by
      intro b hb
      show (if (deadB s.mv 0 s.bx ++ kill).contains b = true then _ else _) = _ ∨ (if (deadB s.mv 0 s.bx ++ kill).contains b = true then _ else _) = _
      split
      · exact .inl rfl
      · exact h.hlb b hb
    hnb := fun b k τ hb hq => h.hnb b k τ hb (hlb _ _ hq).2
    fr := h.fr }

end
end Go.Proofs.Ytlehbecajmjgkaa.V
