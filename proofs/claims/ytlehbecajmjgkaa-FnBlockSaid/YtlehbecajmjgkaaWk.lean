/- Part of a proof by a value interpreter: a state told anew: tags turned, loops' heads, shapes. -/
import Derived.Test.YtlehbecajmjgkaaWj
set_option linter.unusedVariables false
set_option linter.unusedSimpArgs false
namespace Go.Proofs.Ytlehbecajmjgkaa.V

def All2 (R : Tg → Tg → Prop) : List Tg → List Tg → Prop
  | [], [] => True
  | a :: l, b :: m => R a b ∧ All2 R l m
  | _, _ => False

theorem All2.refl {R : Tg → Tg → Prop} (h : ∀ t, R t t) : (l : List Tg) → All2 R l l
  | [] => trivial
  | t :: l => ⟨h t, All2.refl h l⟩
theorem All2.mono {R R' : Tg → Tg → Prop} (h : ∀ a b, R a b → R' a b) : {l m : List Tg} → All2 R l m → All2 R' l m
  | [], [], _ => trivial
  | _ :: _, _ :: _, hh => ⟨h _ _ hh.1, hh.2.mono h⟩
  | [], _ :: _, hh => hh.elim
  | _ :: _, [], hh => hh.elim
theorem All2.take {R : Tg → Tg → Prop} : {l m : List Tg} → (n : Nat) → All2 R l m → All2 R (l.take n) (m.take n)
  | _, _, 0, _ => by simp [All2]
  | [], [], n + 1, _ => trivial
  | _ :: _, _ :: _, n + 1, hh => ⟨hh.1, hh.2.take n⟩
  | [], _ :: _, n + 1, hh => hh.elim
  | _ :: _, [], n + 1, hh => hh.elim
theorem All2.drop {R : Tg → Tg → Prop} : {l m : List Tg} → (n : Nat) → All2 R l m → All2 R (l.drop n) (m.drop n)
  | _, _, 0, h => h
  | [], [], n + 1, _ => trivial
  | _ :: _, _ :: _, n + 1, hh => hh.2.drop n
  | [], _ :: _, n + 1, hh => hh.elim
  | _ :: _, [], n + 1, hh => hh.elim

section
variable {el : Ty → TypeId} {w0 : World} {M : Hx} {s s' : St} {a : Act} {w : World} {G G' : Gh} {R : Tg → Tg → Prop}

theorem RepT.rel (him : ∀ {τ : Ty} {x : τ.den} {cs : List Value}, RepIm w G.im τ x cs → RepIm w G'.im τ x cs) (hR : ∀ tg tg', R tg tg' → ∀ t (xs : List t.den) v, RepS w G el t xs tg v → RepS w G' el t xs tg' v) :
    {τ : Ty} → {x : τ.den} → {g g' : List Tg} → {cs : List Value} → All2 R g g' → RepT w G el τ x g cs → RepT w G' el τ x g' cs
  | .int _, _, _, g', _, ha, h => by simp only [RepT] at h ⊢; obtain ⟨rfl, h⟩ := h; cases g' with
    | nil => exact ⟨rfl, him h⟩
    | cons _ _ => exact ha.elim
  | .bool, _, _, g', _, ha, h => by simp only [RepT] at h ⊢; obtain ⟨rfl, h⟩ := h; cases g' with
    | nil => exact ⟨rfl, him h⟩
    | cons _ _ => exact ha.elim
  | .str, _, _, g', _, ha, h => by simp only [RepT] at h ⊢; obtain ⟨rfl, h⟩ := h; cases g' with
    | nil => exact ⟨rfl, him h⟩
    | cons _ _ => exact ha.elim
  | .sl _, _, _, g', _, ha, h => by
    simp only [RepT] at h ⊢
    obtain ⟨tg, v, rfl, rfl, h⟩ := h
    cases g' with
    | nil => exact ha.elim
    | cons tg' r => cases r with
      | nil => exact ⟨tg', v, rfl, rfl, hR _ _ ha.1 _ _ _ h⟩
      | cons _ _ => exact ha.2.elim
  | .un, _, _, g', _, ha, h => by simp only [RepT] at h ⊢; obtain ⟨rfl, h⟩ := h; cases g' with
    | nil => exact ⟨rfl, him h⟩
    | cons _ _ => exact ha.elim
  | .pr _ _, _, _, _, _, ha, h => by
    simp only [RepT] at h ⊢
    obtain ⟨c1, c2, rfl, h1, h2⟩ := h
    exact ⟨c1, c2, rfl, RepT.rel him hR (ha.take _) h1, RepT.rel him hR (ha.drop _) h2⟩
  | .arr _ _, _, _, g', _, ha, h => by simp only [RepT] at h ⊢; obtain ⟨rfl, h⟩ := h; cases g' with
    | nil => exact ⟨rfl, him h⟩
    | cons _ _ => exact ha.elim

/-- a temporary told anew: forgotten, as it was, or with other tags -/
def RelW (R : Tg → Tg → Prop) (x x' : W) : Prop := x' = .one .top ∨ x' = x ∨ ∃ τ y g g', x = .one (.dat ⟨τ, y, g⟩) ∧ x' = .one (.dat ⟨τ, y, g'⟩) ∧ All2 R g g'
def RelB (R : Tg → Tg → Prop) (x x' : Option D) : Prop := x' = x ∨ ∃ τ y g g', x = some ⟨τ, y, g⟩ ∧ x' = some ⟨τ, y, g'⟩ ∧ All2 R g g'

theorem Inv.retag (h : Inv el w0 M s a w G) (hlb : G'.lb = G.lb) (him : G'.im = G.im) (hsz : G'.sz = G.sz) (hla : ∀ i, G'.la i = G.la i ∨ (G.la i = none ∧ G'.la i = some none))
    (hR : ∀ tg tg', R tg tg' → ∀ t (xs : List t.den) v, RepS w G el t xs tg v → RepS w G' el t xs tg' v) (hmv : s'.mv = s.mv) (hfz : s'.fz = s.fz) (hl : s'.tm.length = s.tm.length) (hbl : s'.bx.length = s.bx.length)
    (htm : ∀ (i : Nat) (x' : W), s'.tm[i]? = some x' → ∃ x, s.tm[i]? = some x ∧ RelW R x x') (hbx : ∀ b, RelB R (s.box b) (s'.box b)) : Inv el w0 M s' a w G' := by
  have hla' : ∀ i q, G.la i = some q → G'.la i = some q := by
    intro i q hq
    rcases hla i with h1 | ⟨h1, _⟩
    · rw [h1]; exact hq
    · rw [h1] at hq; cases hq
  have hla2 : ∀ i k n, G'.la i = some (some (k, n)) → G.la i = some (some (k, n)) := by
    intro i k n hq
    rcases hla i with h1 | ⟨_, h1⟩
    · rw [← h1]; exact hq
    · rw [h1] at hq; cases hq
  have hk : Keeps w G w G' el := keeps_of (fun k hk => ⟨rfl, by rw [him]; exact hk⟩) hla' (fun _ _ _ _ => ⟨by rw [hsz], rfl⟩) (fun _ _ _ hq => by rw [hlb]; exact hq)
  exact
  { df := h.df
    len := by rw [h.len, hl]
    blen := by rw [hbl, hl, h.blen]
    tm := by
      intro i x' v hx' hv
      obtain ⟨x, hx, hr⟩ := htm i x' hx'
      have hx := h.tm i x v hx hv
      rcases hr with rfl | rfl | ⟨τ, y, g, g', rfl, rfl, ha⟩
      · trivial
      · exact hk.rw' hx
      · obtain ⟨cs, he, hr⟩ := hx
        exact ⟨cs, he, hr.rel hk.rim hR ha⟩
    bx := by
      intro b k τ hq
      rw [hlb] at hq
      obtain ⟨x, g, c, e, h1, h2, h3⟩ := h.bx b k τ hq
      rcases hbx b with hh | ⟨τ', y, g1, g2, e1, e2, ha⟩
      · exact ⟨x, g, c, e, hh.trans h1, h2, hk.rt h3⟩
      · rw [h1] at e1
        cases e1
        exact ⟨x, g2, c, e, e2, h2, h3.rel hk.rim hR ha⟩
    bn := by
      intro b hb
      rw [hlb] at hb
      rcases hbx b with hh | ⟨τ', y, g1, g2, e1, e2, ha⟩
      · rw [hh]; exact h.bn b hb
      · rw [h.bn b hb] at e1; cases e1
    lbi := fun b b' k τ τ' h1 h2 => h.lbi b b' k τ τ' (by rw [← hlb]; exact h1) (by rw [← hlb]; exact h2)
    lbm := by
      intro b k τ hq
      rw [hlb] at hq
      obtain ⟨h1, h2, h3⟩ := h.lbm b k τ hq
      exact ⟨by rw [him]; exact h1, fun i n hi => h2 i n (hla2 _ _ _ hi), h3⟩
    lam := by
      intro i k n hi
      have := h.lam i k n (hla2 _ _ _ hi)
      rw [him, hmv, hfz]; exact this
    las := by
      intro i j k n m hi hj hne
      rw [hmv]
      exact h.las i j k n m (hla2 _ _ _ hi) (hla2 _ _ _ hj) hne
    imb := fun k hk => h.imb k (by rw [← him]; exact hk)
    him := fun k hk => h.him k (by rw [← him]; exact hk)
    hlb := fun b hb => by rw [hlb]; exact h.hlb b hb
    hnb := fun b k τ hb hq => h.hnb b k τ hb (by rw [← hlb]; exact hq)
    fr := h.fr }

theorem RelW.refl (hR : ∀ t, R t t) (x : W) : RelW R x x := .inr (.inl rfl)

/-- fewer temporaries are told -/
theorem keepL_get (l : List Tmp) : (tm : List W) → (n i : Nat) → (x' : W) → (keepL n l tm)[i]? = some x' → ∃ x, tm[i]? = some x ∧ (x' = .one .top ∨ x' = x)
  | [], n, i, x', h => by simp [keepL] at h
  | w :: r, n, 0, x', h => by
    simp only [keepL, List.getElem?_cons_zero, Option.some.injEq] at h
    refine ⟨w, by simp, ?_⟩
    split at h
    · exact .inr h.symm
    · exact .inl h.symm
  | w :: r, n, i + 1, x', h => by
    simp only [keepL, List.getElem?_cons_succ] at h
    simpa using keepL_get l r (n + 1) i x' h
theorem keepL_len (l : List Tmp) : (tm : List W) → (n : Nat) → (keepL n l tm).length = tm.length
  | [], n => rfl
  | w :: r, n => by simp [keepL, keepL_len l r]

theorem Inv.keepL (h : Inv el w0 M s a w G) (l : List Tmp) : Inv el w0 M { s with tm := keepL 0 l s.tm } a w G := by
  refine h.retag (R := fun a b => a = b) rfl rfl rfl (fun _ => .inl rfl) (fun tg tg' e t xs v hs => e ▸ hs) rfl rfl (keepL_len _ _ _) rfl (fun i x' hx' => ?_) (fun b => .inl rfl)
  obtain ⟨x, hx, hr⟩ := keepL_get l s.tm 0 i x' hx'
  exact ⟨x, hx, hr.imp id .inl⟩

def ToPa (a b : Tg) : Prop := b = a ∨ ∃ i, a = .ow i ∧ b = .pa i

theorem toPa_rs {tg tg' : Tg} (h : ToPa tg tg') {t : Ty} {xs : List t.den} {v : Value} (hs : RepS w G el t xs tg v) : RepS w G el t xs tg' v := by
  rcases h with rfl | ⟨i, rfl, rfl⟩
  · exact hs
  · simp only [RepS, OwnAt] at hs ⊢
    split at hs
    · exact hs.elim
    · exact hs
    · obtain ⟨h1, h2⟩ := hs
      refine ⟨?_, h2⟩
      simp only [if_true] at h1
      simp only [Bool.false_eq_true, if_false]
      omega

theorem setTg_rel {R : Tg → Tg → Prop} (hr : ∀ t, R t t) {f : Tg → Tg} (hf : ∀ t, R t (f t)) : (g : List Tg) → (j : Nat) → All2 R g (setTg f g j)
  | [], j => by cases j <;> trivial
  | t :: r, 0 => ⟨hf t, All2.refl hr r⟩
  | t :: r, j + 1 => ⟨hr t, setTg_rel hr hf r j⟩

theorem Inv.turn1 (h : Inv el w0 M s a w G) (q : Bool × Nat × Nat) : Inv el w0 M (turn1 tgPa s q) a w G := by
  have hpa : ∀ t, ToPa t (tgPa t) := by
    intro t
    cases t with
    | ow i => exact .inr ⟨i, rfl, rfl⟩
    | im => exact .inl rfl
    | ni => exact .inl rfl
    | pa i => exact .inl rfl
  obtain ⟨b, t, j⟩ := q
  cases b with
  | true =>
    simp only [Go.Proofs.Ytlehbecajmjgkaa.V.turn1]
    split
    · rename_i d hd
      refine h.retag (R := ToPa) rfl rfl rfl (fun _ => .inl rfl) (fun tg tg' e t xs v hs => toPa_rs e hs) rfl rfl (by simp) rfl (fun i x' hx' => ?_) (fun b => .inl rfl)
      simp only at hx'
      rw [List.getElem?_set] at hx'
      split at hx'
      · rename_i hti
        subst hti
        split at hx'
        · cases hx'
          exact ⟨_, hd, .inr (.inr ⟨d.ty, d.x, d.g, _, rfl, rfl, setTg_rel (fun t => .inl rfl) hpa d.g j⟩)⟩
        · cases hx'
      · exact ⟨x', hx', .inr (.inl rfl)⟩
    · exact h
    · exact h
  | false =>
    simp only [Go.Proofs.Ytlehbecajmjgkaa.V.turn1]
    split
    · rename_i d hd
      refine h.retag (R := ToPa) rfl rfl rfl (fun _ => .inl rfl) (fun tg tg' e t xs v hs => toPa_rs e hs) rfl rfl rfl (by simp) (fun i x' hx' => ⟨x', hx', .inr (.inl rfl)⟩) (fun b => ?_)
      rw [box_set]
      split
      · rename_i hb
        obtain ⟨rfl, _⟩ := hb
        exact .inr ⟨d.ty, d.x, d.g, _, hd, rfl, setTg_rel (fun t => .inl rfl) hpa d.g j⟩
      · exact .inl rfl
    · exact h

theorem Inv.turns (l : List (Bool × Nat × Nat)) (h : Inv el w0 M s a w G) : Inv el w0 M (l.foldl (Go.Proofs.Ytlehbecajmjgkaa.V.turn1 tgPa) s) a w G := by
  induction l generalizing s with
  | nil => exact h
  | cons q l ih => exact ih (h.turn1 q)

/-! nil slices as the frame's own -/
def NiOw (lo hi : Nat) (a b : Tg) : Prop := b = a ∨ (a = .ni ∧ ∃ n, b = .ow n ∧ lo ≤ n ∧ n < hi)

theorem NiOw.mono {lo hi lo' hi' : Nat} (h1 : lo' ≤ lo) (h2 : hi ≤ hi') (a b : Tg) (h : NiOw lo hi a b) : NiOw lo' hi' a b := by
  rcases h with h | ⟨h, n, hn, h3, h4⟩
  · exact .inl h
  · exact .inr ⟨h, n, hn, by omega, by omega⟩

theorem niTg_spec : (g : List Tg) → (n : Nat) → n ≤ (niTg g n).2 ∧ All2 (NiOw n (niTg g n).2) g (niTg g n).1
  | [], n => ⟨Nat.le_refl _, trivial⟩
  | .ni :: r, n => by
    obtain ⟨h1, h2⟩ := niTg_spec r (n + 1)
    simp only [niTg]
    exact ⟨by omega, .inr ⟨rfl, n, rfl, Nat.le_refl _, by omega⟩, h2.mono (NiOw.mono (by omega) (Nat.le_refl _))⟩
  | .im :: r, n => by
    obtain ⟨h1, h2⟩ := niTg_spec r n
    simp only [niTg]
    exact ⟨h1, .inl rfl, h2⟩
  | .ow i :: r, n => by
    obtain ⟨h1, h2⟩ := niTg_spec r n
    simp only [niTg]
    exact ⟨h1, .inl rfl, h2⟩
  | .pa i :: r, n => by
    obtain ⟨h1, h2⟩ := niTg_spec r n
    simp only [niTg]
    exact ⟨h1, .inl rfl, h2⟩

theorem RelW.mono {R R' : Tg → Tg → Prop} (h : ∀ a b, R a b → R' a b) {x x' : W} (hh : RelW R x x') : RelW R' x x' := by
  rcases hh with hh | hh | ⟨τ, y, g, g', h1, h2, h3⟩
  · exact .inl hh
  · exact .inr (.inl hh)
  · exact .inr (.inr ⟨τ, y, g, g', h1, h2, h3.mono h⟩)
theorem RelB.mono {R R' : Tg → Tg → Prop} (h : ∀ a b, R a b → R' a b) {x x' : Option D} (hh : RelB R x x') : RelB R' x x' := by
  rcases hh with hh | ⟨τ, y, g, g', h1, h2, h3⟩
  · exact .inl hh
  · exact .inr ⟨τ, y, g, g', h1, h2, h3.mono h⟩

theorem niT_spec : (tm : List W) → (n : Nat) → n ≤ (niT tm n).2 ∧ (niT tm n).1.length = tm.length ∧ ∀ (i : Nat) (x' : W), (niT tm n).1[i]? = some x' → ∃ x, tm[i]? = some x ∧ RelW (NiOw n (niT tm n).2) x x'
  | [], n => ⟨Nat.le_refl _, rfl, fun i x' h => by simp [niT] at h⟩
  | x0 :: r, n => by
    have other : (niT (x0 :: r) n) = (x0 :: (niT r n).1, (niT r n).2) → n ≤ (niT (x0 :: r) n).2 ∧ (niT (x0 :: r) n).1.length = (x0 :: r).length ∧ ∀ (i : Nat) (x' : W), (niT (x0 :: r) n).1[i]? = some x' → ∃ x, (x0 :: r)[i]? = some x ∧ RelW (NiOw n (niT (x0 :: r) n).2) x x' := by
      intro e
      obtain ⟨h1, h2, h3⟩ := niT_spec r n
      rw [e]
      refine ⟨h1, by simp [h2], fun i x' h => ?_⟩
      cases i with
      | zero => simp at h; subst h; exact ⟨_, by simp, .inr (.inl rfl)⟩
      | succ i => simpa using h3 i x' (by simpa using h)
    cases x0 with
    | tup l => exact other rfl
    | un => exact other rfl
    | one v =>
      cases v with
      | dat d =>
        obtain ⟨h1, h2⟩ := niTg_spec d.g n
        obtain ⟨k1, k2, k3⟩ := niT_spec r (niTg d.g n).2
        simp only [niT]
        refine ⟨by omega, by simp [k2], fun i x' h => ?_⟩
        cases i with
        | zero =>
          simp only [List.getElem?_cons_zero, Option.some.injEq] at h
          subst h
          exact ⟨_, by simp, .inr (.inr ⟨d.ty, d.x, d.g, _, rfl, rfl, h2.mono (NiOw.mono (Nat.le_refl _) k1)⟩)⟩
        | succ i =>
          obtain ⟨x, hx, hr⟩ := k3 i x' (by simpa using h)
          exact ⟨x, by simpa using hx, hr.mono (NiOw.mono h1 (Nat.le_refl _))⟩
      | top => exact other rfl
      | nl => exact other rfl
      | ptr _ _ _ => exact other rfl
      | el _ _ _ _ => exact other rfl
      | bsl _ => exact other rfl
      | fn _ => exact other rfl

theorem niB_spec : (bx : List (Option D)) → (n : Nat) → n ≤ (niB bx n).2 ∧ (niB bx n).1.length = bx.length ∧ ∀ (i : Nat), RelB (NiOw n (niB bx n).2) ((bx[i]?).bind id) (((niB bx n).1[i]?).bind id)
  | [], n => ⟨Nat.le_refl _, rfl, fun i => .inl rfl⟩
  | none :: r, n => by
    obtain ⟨h1, h2, h3⟩ := niB_spec r n
    simp only [niB]
    refine ⟨h1, by simp [h2], fun i => ?_⟩
    cases i with
    | zero => exact .inl rfl
    | succ i => simpa using h3 i
  | some d :: r, n => by
    obtain ⟨h1, h2⟩ := niTg_spec d.g n
    obtain ⟨k1, k2, k3⟩ := niB_spec r (niTg d.g n).2
    simp only [niB]
    refine ⟨by omega, by simp [k2], fun i => ?_⟩
    cases i with
    | zero => exact .inr ⟨d.ty, d.x, d.g, _, rfl, rfl, h2.mono (NiOw.mono (Nat.le_refl _) k1)⟩
    | succ i => simpa using (k3 i).mono (NiOw.mono h1 (Nat.le_refl _))

theorem Inv.ownNi (h : Inv el w0 M s a w G) (hf : ∀ id, s.base ≤ id → G.la id = none) : ∃ G', Inv el w0 M (ownNi s) a w G' := by
  obtain ⟨h1, h2, h3⟩ := niT_spec s.tm s.base
  obtain ⟨k1, k2, k3⟩ := niB_spec s.bx (niT s.tm s.base).2
  refine ⟨{ G with la := fun i => if s.base ≤ i ∧ i < (niB s.bx (niT s.tm s.base).2).2 then some none else G.la i }, ?_⟩
  refine h.retag (R := NiOw s.base (niB s.bx (niT s.tm s.base).2).2) rfl rfl rfl (fun i => ?_) (fun tg tg' hr t xs v hs => ?_) rfl rfl h2 k2 (fun i x' hx' => ?_) (fun b => ?_)
  · simp only
    split
    · rename_i hi; exact .inr ⟨hf i hi.1, rfl⟩
    · exact .inl rfl
  · have hk : Keeps w G w { G with la := fun i => if s.base ≤ i ∧ i < (niB s.bx (niT s.tm s.base).2).2 then some none else G.la i } el := by
      refine keeps_of (fun k hk => ⟨rfl, hk⟩) (fun id q hq => ?_) (fun _ _ _ _ => ⟨rfl, rfl⟩) (fun _ _ _ hq => hq)
      simp only
      split
      · rename_i hi; rw [hf id hi.1] at hq; cases hq
      · exact hq
    rcases hr with rfl | ⟨rfl, n, rfl, hn1, hn2⟩
    · exact hk.rs _ _ _ _ hs
    · simp only [RepS, OwnAt]
      rw [if_pos ⟨hn1, hn2⟩]
      exact hs
  · obtain ⟨x, hx, hr⟩ := h3 i x' hx'
    exact ⟨x, hx, hr.mono (NiOw.mono (Nat.le_refl _) k1)⟩
  · exact (k3 b).mono (NiOw.mono h1 (Nat.le_refl _))

theorem Inv.head (h : Inv el w0 M s a w G) (keep : List Tmp) (q : Hint) : ∃ G', Inv el w0 M (s.head keep q) a w G' := by
  unfold St.head
  simp only
  have h1 := h.keepL (keep.filter fun t => !q.ct.contains t)
  generalize ({ s with tm := V.keepL 0 (keep.filter fun t => !q.ct.contains t) s.tm } : St) = s1 at h1 ⊢
  obtain ⟨G2, h2, hf2⟩ := h1.norm (lostB s1 ++ q.cb)
  have hm2 : (V.ownNi (s1.norm (lostB s1 ++ q.cb))).mv = fun _ => false := rfl
  have hz2 : (V.ownNi (s1.norm (lostB s1 ++ q.cb))).fz = fun _ => false := rfl
  obtain ⟨G5, h5⟩ := h2.ownNi hf2
  generalize V.ownNi (s1.norm (lostB s1 ++ q.cb)) = s2 at h5 hm2 hz2 ⊢
  have h3 := h5.letGo (ids := q.im.flatMap (tgAt s2)) (by rw [hm2]; simp)
  have e3 : ({ s2 with fz := fun i => s2.fz i || (q.im.flatMap (tgAt s2)).contains i } : St) = { s2 with fz := fun i => (q.im.flatMap (tgAt s2)).contains i } := by
    rw [hz2]; simp
  rw [e3] at h3
  have h4 := h3.turns q.pa
  obtain ⟨G6, h6, _⟩ := h4.norm []
  exact ⟨G6, h6⟩

end
end Go.Proofs.Ytlehbecajmjgkaa.V
