/- Part of a proof by a value interpreter: a call, from the caller's side to the callee's and back. -/
import Derived.Test.YtlehbecajmjgkaaVq
set_option linter.unusedVariables false
set_option linter.unusedSimpArgs false
namespace Go.Proofs.Ytlehbecajmjgkaa.V

section
variable {P : Program} {K : Cfg} {w0 : World} {M : Hx} {o : Oper} {i : Nat} {s : St} {a : Act} {w w' : World} {G : Gh} {u : U}

def lentIm (G : Gh) (lent : List Nat) : Nat → Prop := fun k => G.im k ∨ ∃ i ∈ lent, ∃ m, G.la i = some (some (k, m))
def lentLb (G : Gh) (ins : List ATy) (bxs : List Nat) : Nat → Option (Nat × Ty) := fun n => (posBox ins bxs n).bind G.lb
def lentM (G : Gh) (ins : List ATy) (lent bxs : List Nat) : Hx := ⟨fun k => ∃ b ∈ bxs, ∃ τ, G.lb b = some (k, τ), lentIm G lent, lentLb G ins bxs, ins.length⟩

theorem lentLb_some {ins : List ATy} {bxs : List Nat} {n k : Nat} {τ : Ty} (h : lentLb G ins bxs n = some (k, τ)) : ∃ b, posBox ins bxs n = some b ∧ G.lb b = some (k, τ) := Option.bind_eq_some_iff.1 h

/-- the callee finds all as its contract wants it -/
theorem call_pre (h : Inv K.el w0 M s a w G) {ins : List ATy} {l : List W} {vs : List Value} {y : Args ins} (hy : argsOf s.box s.mv s.fz ins l = some y) (hno : ins.all ATy.noOwn = true) (hl : l.length = vs.length)
    (hr : ∀ (j : Nat) (x : W) (v : Value), l[j]? = some x → vs[j]? = some v → RepW w G K.el x v) :
    Inv K.el w (lentM G ins y.lent y.bxs) (St0 ins y.a) ⟨vs.toArray, []⟩ w (calleeG G (lentIm G y.lent) (lentLb G ins y.bxs)) ∧ ArgsOk K.el w G (lentIm G y.lent) (lentLb G ins y.bxs) ins l vs y 0 0 := by
  have hA := args_rep (lb := lentLb G ins y.bxs) h (im := lentIm G y.lent) (fun _ hk => .inl hk) ins l vs y 0 0 hy hno hl hr (fun i hi k m hq => .inr ⟨i, hi, m, hq⟩) (fun j => by rw [Nat.zero_add]; rfl)
  refine ⟨?_, hA⟩
  exact
  { df := rfl
    len := by
      simp only [St0, inTm_len, List.size_toArray]
      rw [hA.len, hl]
    blen := by simp only [St0, inTm_len, inBx_len]
    tm := fun i x v h1 h2 => hA.tm i x v h1 (by simpa using h2)
    bx := by
      intro b k τ hq
      obtain ⟨b', h1, h2⟩ := lentLb_some (h := hq)
      obtain ⟨τ', x, g, c, e, k', g1, g2, g3, g4⟩ := hA.box b b' h1
      rw [h2] at g1
      cases g1
      exact ⟨x, g, c, e, g2, g3, g4⟩
    bn := by
      intro b hq
      refine hA.nb b ?_
      cases hp : posBox ins y.bxs b with
      | none => rfl
      | some b' =>
        exfalso
        obtain ⟨p, hp'⟩ := hA.bx b' (posBox_mem hp).1
        change lentLb G ins y.bxs b = none at hq
        unfold lentLb at hq
        rw [hp] at hq
        simp only [Option.bind_some] at hq
        rw [hp'] at hq
        cases hq
    lbi := by
      intro b1 b2 k τ1 τ2 h1 h2
      obtain ⟨c1, p1, q1⟩ := lentLb_some (h := h1)
      obtain ⟨c2, p2, q2⟩ := lentLb_some (h := h2)
      have := h.lbi _ _ _ _ _ q1 q2
      subst this
      exact posBox_inj hA.nd p1 p2
    lbm := by
      intro b k τ hq
      obtain ⟨b', h1, h2⟩ := lentLb_some (h := hq)
      refine ⟨fun hi => ?_, (fun i n hi => (by cases hi)), .inr ⟨b', (posBox_mem h1).1, τ, h2⟩⟩
      rcases hi with hi | ⟨i, _, m, hi⟩
      · exact (h.lbm _ _ _ h2).1 hi
      · exact (h.lbm _ _ _ h2).2.1 i m hi
    lam := fun i k n hi => by cases hi
    las := fun i j k n m hi => by cases hi
    imb := by
      intro k hk
      rcases hk with hk | ⟨i, _, m, hi⟩
      · exact h.imb k hk
      · exact (h.lam i k m hi).1
    him := fun k hk => .inl hk
    hlb := fun b hb => .inr rfl
    hnb := by
      intro b k τ hb hq
      obtain ⟨b', h1, _⟩ := lentLb_some (h := hq)
      have := (posBox_mem h1).2
      have hb' : ins.length ≤ b := hb
      omega
    fr := Fr.refl w _ }

/-- Of the caller's memory nothing turned but the boxes that were handed over. -/
theorem call_kept (h : Inv K.el w0 M s a w G) {ins : List ATy} {lent bxs : List Nat} (hf : Fr w (lentM G ins lent bxs) w') {k : Nat} (hk : k < w.heap.size) (hb : ∀ b ∈ bxs, ∀ τ, G.lb b ≠ some (k, τ)) : w'.heap[k]? = w.heap[k]? :=
  hf.block k hk (fun ⟨b, hb', τ, hq⟩ => hb b hb' τ hq)

theorem RepIm.noSl {im im' : Nat → Prop} : {τ : Ty} → {x : τ.den} → {cs : List Value} → τ.hasSl = false → RepIm w im τ x cs → RepIm w' im' τ x cs
  | .int _, _, _, _, h => by simpa only [RepIm] using h
  | .bool, _, _, _, h => by simpa only [RepIm] using h
  | .str, _, _, _, h => by simpa only [RepIm] using h
  | .sl _, _, _, hs, _ => by simp [Ty.hasSl] at hs
  | .un, _, _, _, h => by simpa only [RepIm] using h
  | .pr a b, _, _, hs, h => by
    simp only [Ty.hasSl, Bool.or_eq_false_iff] at hs
    simp only [RepIm] at h ⊢
    obtain ⟨c1, c2, rfl, h1, h2⟩ := h
    exact ⟨c1, c2, rfl, h1.noSl hs.1, h2.noSl hs.2⟩
  | .arr _ _, _, _, hs, h => by
    simp only [Ty.hasSl] at hs
    simp only [RepIm] at h ⊢
    exact ⟨h.1, h.2.1, fun i x hx => (h.2.2 i x hx).noSl hs⟩

/-- from one set of names to another, where what nobody writes may be another matter: 'Q' -/
theorem RepT.turn {el : Ty → TypeId} {G' : Gh} (Q : Bool) (f : Tg → Tg) (him : Q = false → ∀ k, G.im k → G'.im k) : {τ : Ty} → {x : τ.den} → {g : List Tg} → {cs : List Value} →
    (hd : Q = true → τ.deep = false) → (hs : ∀ t (xs : List t.den) tg v, tg ∈ g → (Q = true → t.hasSl = false) → RepS w G el t xs tg v → RepS w G' el t xs (f tg) v) →
    RepT w G el τ x g cs → RepT w G' el τ x (g.map f) cs
  | .int _, _, _, _, _, _, h => by simp only [RepT] at h ⊢; obtain ⟨rfl, h⟩ := h; exact ⟨rfl, h.noSl rfl⟩
  | .bool, _, _, _, _, _, h => by simp only [RepT] at h ⊢; obtain ⟨rfl, h⟩ := h; exact ⟨rfl, h.noSl rfl⟩
  | .str, _, _, _, _, _, h => by simp only [RepT] at h ⊢; obtain ⟨rfl, h⟩ := h; exact ⟨rfl, h.noSl rfl⟩
  | .sl _, _, _, _, hd, hs, h => by
    simp only [RepT] at h ⊢
    obtain ⟨tg, v, rfl, rfl, h⟩ := h
    exact ⟨f tg, v, rfl, rfl, hs _ _ _ _ (by simp) (fun hq => hd hq) h⟩
  | .un, _, _, _, _, _, h => by simp only [RepT] at h ⊢; obtain ⟨rfl, h⟩ := h; exact ⟨rfl, h.noSl rfl⟩
  | .pr _ _, _, _, _, hd, hs, h => by
    simp only [RepT] at h ⊢
    obtain ⟨c1, c2, rfl, h1, h2⟩ := h
    refine ⟨c1, c2, rfl, ?_, ?_⟩
    · rw [← List.map_take]
      exact h1.turn Q f him (fun hq => by have := hd hq; simp only [Ty.deep, Bool.or_eq_false_iff] at this; exact this.1) (fun t xs tg v hm => hs t xs tg v (List.mem_of_mem_take hm))
    · rw [← List.map_drop]
      exact h2.turn Q f him (fun hq => by have := hd hq; simp only [Ty.deep, Bool.or_eq_false_iff] at this; exact this.2) (fun t xs tg v hm => hs t xs tg v (List.mem_of_mem_drop hm))
  | .arr n t, _, _, _, hd, _, h => by
    simp only [RepT] at h ⊢
    obtain ⟨rfl, h⟩ := h
    refine ⟨rfl, ?_⟩
    cases Q with
    | true => exact h.noSl (by have := hd rfl; simpa [Ty.deep, Ty.hasSl] using this)
    | false => exact h.mono (fun _ _ => rfl) (him rfl)

/-- an array of the frame's own under another name -/
theorem OwnAt.turn {el : Ty → TypeId} {G' : Gh} {t : Ty} {xs : List t.den} {id id' : Nat} {full : Bool} {v : Value} (hla : G'.la id' = G.la id) (hsz : ∀ k n, G.la id = some (some (k, n)) → G'.sz k = G.sz k)
    (him : t.hasSl = false ∨ ∀ k, G.im k → G'.im k) (h : OwnAt w G el t xs id full v) : OwnAt w G' el t xs id' full v := by
  unfold OwnAt at h ⊢
  rw [hla]
  split at h
  · exact h.elim
  · exact h
  · rename_i g ext hq
    rw [hq] at hla
    obtain ⟨hf, hs, hp, c, cap, hv, b1, b2, b3, b4, b5⟩ := h
    refine ⟨hf, (hsz _ _ hq).trans hs, hp, c, cap, hv, b1, b2, b3, b4, fun j x hx => ?_⟩
    rcases him with hn | him
    · exact (b5 j x hx).noSl hn
    · exact (b5 j x hx).mono (fun _ _ => rfl) him

end
end Go.Proofs.Ytlehbecajmjgkaa.V
