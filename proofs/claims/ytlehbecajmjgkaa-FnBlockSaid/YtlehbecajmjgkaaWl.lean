/- Part of a proof by a value interpreter: shapes, and code. -/
import Derived.Test.YtlehbecajmjgkaaWk
import Derived.LoopN
set_option linter.unusedVariables false
set_option linter.unusedSimpArgs false
namespace Go.Proofs.Ytlehbecajmjgkaa.V

/-! ### shapes -/
def Plain1 (sh : Option Sh) (x : W) : Prop := match x with
  | .one (.ptr b _ _) => ∃ q τ, sh = some (.ptr b q τ)
  | .one (.bsl _) => False
  | .one (.el _ _ _ _) => False
  | .tup _ => False
  | _ => True

theorem pathOf_N : {p : List Step} → {q : List Nat} → pathN p = some q → pathOf q = p
  | [], q, h => by simp only [pathN, Option.some.injEq] at h; subst h; rfl
  | .fld i :: p, q, h => by
    simp only [pathN] at h
    obtain ⟨r, hr, rfl⟩ := Option.map_eq_some_iff.1 h
    simp only [pathOf]
    rw [pathOf_N hr]
  | .idx _ :: _, q, h => by simp [pathN] at h

theorem unT_get : (l : List Sh) → (tm : List W) → (y : ShDen l) → unT l tm = some y → (mkT l y).length = tm.length ∧ ∀ (i : Nat) (x' : W), (mkT l y)[i]? = some x' → ∃ x, tm[i]? = some x ∧ (x' = .one .top ∨ (x' = x ∧ Plain1 l[i]? x'))
  | [], [], y, h => ⟨rfl, fun i x' hx => by simp [mkT] at hx⟩
  | [], _ :: _, y, h => by simp [unT] at h
  | sh :: r, [], y, h => by cases sh <;> simp [unT] at h
  | .top :: r, x :: l, y, h => by
    simp only [unT] at h
    obtain ⟨h1, h2⟩ := unT_get r l y h
    refine ⟨by simp [mkT, h1], fun i x' hx => ?_⟩
    cases i with
    | zero => simp only [mkT, List.getElem?_cons_zero, Option.some.injEq] at hx; subst hx; exact ⟨x, by simp, .inl rfl⟩
    | succ i => simpa using h2 i x' (by simpa [mkT] using hx)
  | .un :: r, x :: l, y, h => by
    cases x with
    | un =>
      simp only [unT] at h
      obtain ⟨h1, h2⟩ := unT_get r l y h
      refine ⟨by simp [mkT, h1], fun i x' hx => ?_⟩
      cases i with
      | zero => simp only [mkT, List.getElem?_cons_zero, Option.some.injEq] at hx; subst hx; exact ⟨_, by simp, .inr ⟨rfl, trivial⟩⟩
      | succ i => simpa using h2 i x' (by simpa [mkT] using hx)
    | _ => simp [unT] at h
  | .nl :: r, x :: l, y, h => by
    cases x with
    | one v =>
      cases v with
      | nl =>
        simp only [unT] at h
        obtain ⟨h1, h2⟩ := unT_get r l y h
        refine ⟨by simp [mkT, h1], fun i x' hx => ?_⟩
        cases i with
        | zero => simp only [mkT, List.getElem?_cons_zero, Option.some.injEq] at hx; subst hx; exact ⟨_, by simp, .inr ⟨rfl, trivial⟩⟩
        | succ i => simpa using h2 i x' (by simpa [mkT] using hx)
      | _ => simp [unT] at h
    | _ => simp [unT] at h
  | .fn f :: r, x :: l, y, h => by
    cases x with
    | one v =>
      cases v with
      | fn f' =>
        simp only [unT] at h
        split at h
        · rename_i hf
          subst hf
          obtain ⟨h1, h2⟩ := unT_get r l y h
          refine ⟨by simp [mkT, h1], fun i x' hx => ?_⟩
          cases i with
          | zero => simp only [mkT, List.getElem?_cons_zero, Option.some.injEq] at hx; subst hx; exact ⟨_, by simp, .inr ⟨rfl, trivial⟩⟩
          | succ i => simpa using h2 i x' (by simpa [mkT] using hx)
        · cases h
      | _ => simp [unT] at h
    | _ => simp [unT] at h
  | .ptr b p τ :: r, x :: l, y, h => by
    cases x with
    | one v =>
      cases v with
      | ptr b' p' τ' =>
        simp only [unT] at h
        split at h
        · rename_i hf
          obtain ⟨rfl, hp, rfl⟩ := hf
          obtain ⟨h1, h2⟩ := unT_get r l y h
          refine ⟨by simp [mkT, h1], fun i x' hx => ?_⟩
          cases i with
          | zero =>
            simp only [mkT, List.getElem?_cons_zero, Option.some.injEq] at hx
            subst hx
            exact ⟨.one (.ptr b p' τ), by simp, .inr ⟨by rw [pathOf_N hp], p, τ, by simp⟩⟩
          | succ i => simpa using h2 i x' (by simpa [mkT] using hx)
        · cases h
      | _ => simp [unT] at h
    | _ => simp [unT] at h
  | .dat τ g :: r, x :: l, y, h => by
    cases x with
    | one v =>
      cases v with
      | dat d =>
        simp only [unT] at h
        split at h
        · rename_i hf
          split at h
          · rename_i x1 y1 hx1 hy1
            cases h
            obtain ⟨h1, h2⟩ := unT_get r l y1 hy1
            refine ⟨by simp [mkT, h1], fun i x' hx => ?_⟩
            cases i with
            | zero =>
              simp only [mkT, List.getElem?_cons_zero, Option.some.injEq] at hx
              subst hx
              have := D.as_some hx1
              refine ⟨.one (.dat d), by simp, .inr ⟨?_, trivial⟩⟩
              show W.one (V.dat ⟨τ, x1, g⟩) = W.one (V.dat d)
              rw [← hf]
              exact congrArg W.one (congrArg V.dat this.symm)
            | succ i => simpa using h2 i x' (by simpa [mkT] using hx)
          · cases h
        · cases h
      | _ => simp [unT] at h
    | _ => simp [unT] at h

theorem unB_get : (l : List (Option (Ty × List Tg))) → (bx : List (Option D)) → (y : BxDen l) → unB l bx = some y → (mkB l y).length = bx.length ∧ ∀ (b : Nat), ((mkB l y)[b]?).bind id = match l[b]? with
      | some (some _) => (bx[b]?).bind id
      | _ => none
  | [], [], y, h => ⟨rfl, fun i => by simp [mkB]⟩
  | [], _ :: _, y, h => by simp [unB] at h
  | sh :: r, [], y, h => by cases sh <;> simp [unB] at h
  | none :: r, x :: l, y, h => by
    simp only [unB] at h
    obtain ⟨h1, h2⟩ := unB_get r l y h
    refine ⟨by simp [mkB, h1], fun i => ?_⟩
    cases i with
    | zero => simp [mkB]
    | succ i => simpa [mkB] using h2 i
  | some (τ, g) :: r, none :: l, y, h => by simp [unB] at h
  | some (τ, g) :: r, some d :: l, y, h => by
    simp only [unB] at h
    split at h
    · rename_i hf
      split at h
      · rename_i x1 y1 hx1 hy1
        cases h
        obtain ⟨h1, h2⟩ := unB_get r l y1 hy1
        refine ⟨by simp [mkB, h1], fun i => ?_⟩
        cases i with
        | zero =>
          have := D.as_some hx1
          simp only [mkB, List.getElem?_cons_zero, Option.bind_some, id]
          rw [this, hf]
        | succ i => simpa [mkB] using h2 i
      · cases h
    · cases h

def lbG (sh : Shape) (G : Gh) : Gh := { G with lb := fun b => match sh.bx[b]? with
  | some (some _) => G.lb b
  | _ => none }

def Shape.Ok (sh : Shape) : Prop := ∀ (i b : Nat) (p : List Nat) (τ : Ty), sh.tm[i]? = some (.ptr b p τ) → ∃ q, sh.bx[b]? = some (some q)

section
variable {P : Program} {K : Cfg} {el : Ty → TypeId} {w0 : World} {M : Hx} {s s' : St} {a : Act} {w : World} {G G' : Gh} {R : Tg → Tg → Prop}

theorem shape_ok (h : Inv el w0 M s a w G) : s.shape.Ok := by
  intro i b p τ hi
  simp only [St.shape] at hi ⊢
  rw [List.getElem?_map] at hi
  obtain ⟨x, hx, hsh⟩ := Option.map_eq_some_iff.1 hi
  have hlt : i < a.tmps.size := by rw [h.len]; exact (List.getElem?_eq_some_iff.1 hx).1
  have hr := h.tm i x _ hx (Array.getElem?_eq_getElem hlt)
  unfold shOf at hsh
  split at hsh
  · cases hsh
  · cases hsh
  · cases hsh
  · rename_i b' p' τ'
    split at hsh
    · cases hsh
      obtain ⟨k, τb, n, h1, _⟩ := hr
      obtain ⟨x', g, c, e, h2, _⟩ := h.bx _ _ _ h1
      unfold St.box at h2
      obtain ⟨o, ho, h2⟩ := Option.bind_eq_some_iff.1 h2
      have ho' : o = some ⟨τb, x', g⟩ := h2
      subst ho'
      exact ⟨(τb, g), by rw [List.getElem?_map, ho]; rfl⟩
    · cases hsh
  · cases hsh
  · cases hsh

theorem Inv.shape (h : Inv el w0 M s a w G) (hmv : s.mv = fun _ => false) (hfz : s.fz = fun _ => false) {sh : Shape} (hok : sh.Ok) {y : sh.den} (hu : sh.un s = some y) : ∃ G', Inv el w0 M (sh.mk' y) a w G' := by
  unfold Shape.un at hu
  split at hu
  · rename_i y1 y2 e1 e2
    cases hu
    obtain ⟨h1, h2⟩ := unT_get sh.tm s.tm y1 e1
    obtain ⟨k1, k2⟩ := unB_get sh.bx s.bx y2 e2
    have hbox : ∀ b, (sh.mk' (y1, y2)).box b = match sh.bx[b]? with
      | some (some _) => s.box b
      | _ => none := fun b => k2 b
    have hlb : ∀ b q, (match sh.bx[b]? with
      | some (some _) => G.lb b
      | _ => none) = some q → G.lb b = some q ∧ ∃ q, sh.bx[b]? = some (some q) := by
      intro b q hq
      split at hq
      · rename_i q' hq'; exact ⟨hq, q', hq'⟩
      · cases hq
    refine ⟨lbG sh G, ?_⟩
    have hrs : ∀ t (xs : List t.den) tg v, RepS w G el t xs tg v → RepS w (lbG sh G) el t xs tg v := by
      intro t xs tg v hs
      cases tg <;> exact hs
    have hrt : ∀ {τ : Ty} {x : τ.den} {g : List Tg} {cs : List Value}, RepT w G el τ x g cs → RepT w (lbG sh G) el τ x g cs := fun hr => RepT.same (w := w) (w' := w) (G := G) (G' := lbG sh G) (fun h => h) (fun t xs tg v _ hs => hrs t xs tg v hs) hr
    exact
    { df := h.df
      len := by rw [h.len]; exact h1.symm
      blen := by show (mkB _ _).length = (mkT _ _).length; rw [h1, k1, h.blen]
      tm := by
        intro i x' v hx' hv
        obtain ⟨x, hx, hr⟩ := h2 i x' hx'
        have hrep := h.tm i x v hx hv
        rcases hr with rfl | ⟨rfl, hp⟩
        · trivial
        · cases x' with
          | tup l => exact hp.elim
          | un => exact hrep
          | one x =>
            cases x with
            | top => trivial
            | dat d => obtain ⟨cs, he, hr⟩ := hrep; exact ⟨cs, he, hrt hr⟩
            | nl => exact hrep
            | ptr b p τ =>
              obtain ⟨q, τ', hq⟩ := hp
              obtain ⟨q2, hq2⟩ := hok i b q τ' hq
              obtain ⟨k, τb, n, h1, h2, h3⟩ := hrep
              exact ⟨k, τb, n, by simp only [lbG, hq2]; exact h1, h2, h3⟩
            | el _ _ _ _ => exact hp.elim
            | bsl _ => exact hp.elim
            | fn f => exact hrep
      bx := by
        intro b k τ hq
        obtain ⟨hq, q, hs⟩ := hlb b _ hq
        obtain ⟨x, g, c, e, h1, h2, h3⟩ := h.bx b k τ hq
        exact ⟨x, g, c, e, by rw [hbox, hs]; exact h1, h2, hrt h3⟩
      bn := by
        intro b hb
        rw [hbox]
        simp only [lbG] at hb
        split
        · rename_i q hq
          simp only [hq] at hb
          exact h.bn b hb
        · rfl
      lbi := fun b b' k τ τ' h1 h2 => h.lbi _ _ _ _ _ (hlb _ _ h1).1 (hlb _ _ h2).1
      lbm := fun b k τ hq => h.lbm b k τ (hlb _ _ hq).1
      lam := fun i k n hi => by
        obtain ⟨h1, h2, h3⟩ := h.lam i k n hi
        exact ⟨h1, fun _ _ => h2 (by rw [hfz]) (by rw [hmv]), h3⟩
      las := fun i j k n m hi hj hne => by
        have := h.las i j k n m hi hj hne
        rw [hmv] at this
        exact this
      imb := h.imb
      him := h.him
      hlb := by
        intro b hb
        simp only [lbG]
        split
        · exact h.hlb b hb
        · exact .inl rfl
      hnb := fun b k τ hb hq => h.hnb b k τ hb (hlb _ _ hq).1
      fr := h.fr }
  · cases hu

/-! ### what follows, for whatever its answer is wrapped in -/
def KNat {Ω : Type} (c : Kont Ω) : Prop := ∀ (e : Exit) (s : St) (R R' : Type) (w : Ω → R) (g : R → R'), c e s R' (fun o => g (w o)) = (c e s R w).map g

theorem br_map {α β : Type} (b : Bool) (x y : Option α) (g : α → β) : (br b x y).map g = br b (x.map g) (y.map g) := by cases b <;> rfl

theorem evOps_map {A B : Type} (g : A → B) (ops : List Oper) (f : St → List Tr → Option A) : (r : List Oper) → (i : Nat) → (s : St) → (tr : List Tr) → evOps K ops r i s tr (fun s tr => (f s tr).map g) = (evOps K ops r i s tr f).map g
  | [], i, s, tr => by simp only [evOps]
  | o :: r, i, s, tr => by
    have hgo : ∀ s : St, (match (opG K o s fun s' => evOps K ops r (i + 1) s' (allTr :: tr) (fun s tr => (f s tr).map g)) with
          | some x => x
          | none => opC K o i s.base s.ev s.box s.mv s.fz fun u => evOps K ops r (i + 1) (s.app o.dst u) (u.tr :: tr) (fun s tr => (f s tr).map g)) =
        (match (opG K o s fun s' => evOps K ops r (i + 1) s' (allTr :: tr) f) with
          | some x => x
          | none => opC K o i s.base s.ev s.box s.mv s.fz fun u => evOps K ops r (i + 1) (s.app o.dst u) (u.tr :: tr) f).map g := by
      intro s
      rw [opG_bind o s (fun s' => evOps K ops r (i + 1) s' (allTr :: tr) (fun s tr => (f s tr).map g)), opG_bind o s (fun s' => evOps K ops r (i + 1) s' (allTr :: tr) f)]
      cases opG K o s some with
      | some x =>
        simp only [Option.map_some]
        cases x with
        | none => rfl
        | some s' => exact evOps_map g ops f r (i + 1) s' _
      | none =>
        simp only [Option.map_none]
        rw [opC_bind (c := fun u => evOps K ops r (i + 1) (s.app o.dst u) (u.tr :: tr) (fun s tr => (f s tr).map g)), opC_bind (c := fun u => evOps K ops r (i + 1) (s.app o.dst u) (u.tr :: tr) f)]
        cases opC K o i s.base s.ev s.box s.mv s.fz some with
        | none => rfl
        | some u => exact evOps_map g ops f r (i + 1) _ _
    have hskip : ∀ s : St, evOps K ops r (i + 1) (s.put o.dst .un) (noTr :: tr) (fun s tr => (f s tr).map g) = (evOps K ops r (i + 1) (s.put o.dst .un) (noTr :: tr) f).map g := fun s => evOps_map g ops f r (i + 1) _ _
    rw [evOps, evOps]
    split
    · exact hgo s
    · split
      · rfl
      · split
        · split
          · rw [br_map]
            exact congr (congrArg _ (hgo _)) (hskip _)
          · rw [br_map]
            exact congr (congrArg _ (hskip _)) (hgo _)
        · exact hskip s
        · rfl

theorem iterN_map {α β γ : Type} (g : β → γ) {step : α → Option (α ⊕ β)} {step' : α → Option (α ⊕ γ)} (h : ∀ x, step' x = (step x).map (Sum.map id g)) : (n : Nat) → (x : α) → iterN step' n x = (iterN step n x).map g
  | 0, x => rfl
  | n + 1, x => by
    simp only [iterN]
    rw [h x]
    cases step x with
    | none => rfl
    | some y => cases y with
      | inl z => simp only [Option.map_some, Sum.map_inl, id]; exact iterN_map g h n z
      | inr z => rfl

theorem iterN_mono {α β : Type} {step : α → Option (α ⊕ β)} : (n m : Nat) → n ≤ m → (x : α) → (b : β) → iterN step n x = some b → iterN step m x = some b
  | 0, _, _, x, b, h => by simp [iterN] at h
  | n + 1, 0, hm, x, b, h => by omega
  | n + 1, m + 1, hm, x, b, h => by
    simp only [iterN] at h ⊢
    cases hs : step x with
    | none => rw [hs] at h; cases h
    | some y => cases y with
      | inl z => rw [hs] at h; exact iterN_mono n m (by omega) z b h
      | inr z => rw [hs] at h; exact h

theorem iterN_det {α β : Type} {step : α → Option (α ⊕ β)} {n m : Nat} {x : α} {b c : β} (h1 : iterN step n x = some b) (h2 : iterN step m x = some c) : b = c := by
  have a1 := iterN_mono n (max n m) (Nat.le_max_left ..) x b h1
  have a2 := iterN_mono m (max n m) (Nat.le_max_right ..) x c h2
  rw [a1] at a2
  exact Option.some.inj a2

theorem iter_some {α β : Type} {step : α → Option (α ⊕ β)} {x : α} {b : β} (h : iter step x = some b) : ∃ n, iterN step n x = some b := by
  unfold iter at h
  split at h
  · rename_i hh
    cases h
    exact Classical.choose_spec hh
  · cases h

theorem iter_of {α β : Type} {step : α → Option (α ⊕ β)} {x : α} {b : β} {n : Nat} (h : iterN step n x = some b) : iter step x = some b := by
  unfold iter
  have hh : ∃ b n, iterN step n x = some b := ⟨b, n, h⟩
  rw [dif_pos hh]
  obtain ⟨m, hm⟩ := Classical.choose_spec hh
  rw [iterN_det hm h]

theorem iter_map {α β γ : Type} (g : β → γ) {step : α → Option (α ⊕ β)} {step' : α → Option (α ⊕ γ)} (h : ∀ x, step' x = (step x).map (Sum.map id g)) (x : α) : iter step' x = (iter step x).map g := by
  cases hs : iter step x with
  | some b =>
    obtain ⟨n, hn⟩ := iter_some hs
    exact iter_of (n := n) (by rw [iterN_map g h, hn]; rfl)
  | none =>
    cases hs' : iter step' x with
    | none => rfl
    | some c =>
      obtain ⟨n, hn⟩ := iter_some hs'
      rw [iterN_map g h] at hn
      obtain ⟨b, hb, _⟩ := Option.map_eq_some_iff.1 hn
      rw [iter_of hb] at hs
      cases hs

theorem evC_nat (hs : Nat → Hint) : (code : Code) → (Ω : Type) → (lv : List Tmp) → (s : St) → (c : Kont Ω) → KNat c → (R R' : Type) → (w : Ω → R) → (g : R → R') → evC K hs code Ω lv s c R' (fun o => g (w o)) = (evC K hs code Ω lv s c R w).map g
  | .skip, Ω, lv, s, c, hc, R, R', w, g => hc _ _ _ _ _ _
  | .region id ops draw, Ω, lv, s, c, hc, R, R', w, g => by
    simp only [evC, normK_eq, headK_eq, fShape_eq]
    rw [← evOps_map]
    congr 1
    funext s' tr
    split
    · split
      · exact hc _ _ _ _ _ _
      · rfl
    · exact hc _ _ _ _ _ _
  | .seq a b, Ω, lv, s, c, hc, R, R', w, g => by
    simp only [evC, normK_eq, headK_eq, fShape_eq]
    refine evC_nat hs a Ω _ s _ ?_ R R' w g
    intro e s' R R' w g
    cases e with
    | normal => exact evC_nat hs b Ω lv s' c hc R R' w g
    | _ => exact hc _ _ _ _ _ _
  | .cond x a b, Ω, lv, s, c, hc, R, R', w, g => by
    simp only [evC, normK_eq, headK_eq, fShape_eq]
    split
    · rw [evC_nat hs a Ω lv s c hc R R' w g, evC_nat hs b Ω lv s c hc R R' w g, br_map]
    · rfl
  | .block id a, Ω, lv, s, c, hc, R, R', w, g => by
    simp only [evC, normK_eq, headK_eq, fShape_eq]
    refine evC_nat hs a Ω lv s _ ?_ R R' w g
    intro e s' R R' w g
    cases e with
    | exit i =>
      by_cases hi : i = id
      · simp only [hi, if_true]; exact hc _ _ _ _ _ _
      · simp only [hi, if_false]; exact hc _ _ _ _ _ _
    | _ => exact hc _ _ _ _ _ _
  | .exit id, Ω, lv, s, c, hc, R, R', w, g => hc _ _ _ _ _ _
  | .ret, Ω, lv, s, c, hc, R, R', w, g => hc _ _ _ _ _ _
  | .label _, Ω, lv, s, c, hc, R, R', w, g => hc _ _ _ _ _ _
  | .loop a, Ω, lv, s, c, hc, R, R', w, g => by
    simp only [evC, normK_eq, headK_eq, fShape_eq]
    cases (s.head (Code.uses a ++ lv) (hs (Code.first a))).shape.un (s.head (Code.uses a ++ lv) (hs (Code.first a))) with
    | none => rfl
    | some y =>
      simp only [Option.bind_some]
      refine iter_map g (fun z => ?_) y
      have e : (Sum.map id fun o => g (w o) : (s.head (Code.uses a ++ lv) (hs (Code.first a))).shape.den ⊕ Ω → _) = fun o => Sum.map id g (Sum.map id w o) := by
        funext o; cases o <;> rfl
      rw [e]
      refine evC_nat hs a _ _ _ _ ?_ _ _ _ _
      intro e s' R R' w g
      cases e with
      | normal =>
        simp only
        cases (s.head (Code.uses a ++ lv) (hs (Code.first a))).shape.un (s'.head (Code.uses a ++ lv) (hs (Code.first a))) <;> rfl
      | _ => exact hc _ _ _ _ _ _
  | .goto _, Ω, lv, s, c, hc, R, R', w, g => by simp only [evC]; rfl
  | .scope _, Ω, lv, s, c, hc, R, R', w, g => by simp only [evC]; rfl
  | .rangeFunc _ _ _ _, Ω, lv, s, c, hc, R, R', w, g => by simp only [evC]; rfl
  | .refuse _, Ω, lv, s, c, hc, R, R', w, g => by simp only [evC]; rfl

end
end Go.Proofs.Ytlehbecajmjgkaa.V
