/- Part of a proof by a value interpreter: the end of a function. -/
import Derived.Test.YtlehbecajmjgkaaWm
set_option linter.unusedVariables false
set_option linter.unusedSimpArgs false
namespace Go.Proofs.Ytlehbecajmjgkaa.V

theorem run_mapM {α : Type} {P : Program} {f : α → Sem Value} {w : World} : (l : List α) → (vs : List Value) → l.length = vs.length → (∀ (i : Nat) (x : α) (v : Value), l[i]? = some x → vs[i]? = some v → (f x).run P w = .ok v w) → (l.mapM f).run P w = .ok vs w
  | [], [], _, _ => by simp
  | [], _ :: _, h, _ => by simp at h
  | _ :: _, [], h, _ => by simp at h
  | x :: l, v :: vs, h, hf => by
    rw [List.mapM_cons]
    have h0 := hf 0 x v rfl rfl
    have ih := run_mapM l vs (by simpa using h) (fun i x v h1 h2 => hf (i + 1) x v (by simpa using h1) (by simpa using h2))
    simp [h0, ih]

/-- a result, at the machine -/
def resRun (tmps : Array Value) : ResultVar → Sem Value
  | .tmp t => pure (tmps.getD t undef)
  | .cell b t => do loadVar t (← asAddr (tmps.getD b undef))

theorem run_results {P : Program} {fn : Func} {tmps : Array Value} {w : World} {vs : List Value} (hl : fn.results.toList.length = vs.length)
    (h : ∀ (i : Nat) (x : ResultVar) (v : Value), fn.results.toList[i]? = some x → vs[i]? = some v → (resRun tmps x).run P w = .ok v w) : (results fn tmps).run P w = .ok (packR vs.toArray) w := by
  have hm := run_mapM fn.results.toList vs hl h
  have e : results fn tmps = (do
    let vs ← fn.results.mapM (resRun tmps)
    pure (packR vs)) := rfl
  rw [e, Array.mapM_eq_mapM_toList]
  simp only [Sem.run_bind, Sem.run_map, hm, Result.andThen_ok, Sem.run_pure]

section
variable {P : Program} {K : Cfg} {w0 : World} {M : Hx} {s : St} {a : Act} {w : World} {G : Gh}

theorem resV_run (hK : TysOk P K) (h : Inv K.el w0 M s a w G) {rv : ResultVar} {v : V} (hv : resV K s rv = some v) : ∃ x, (resRun a.tmps rv).run P w = .ok x w ∧ RepV w G K.el v x := by
  have key : ∀ t x, s.tm.getD t .un = x → x ≠ .un → RepW w G K.el x (a.tmps.getD t undef) := by
    intro t x hx hne
    by_cases ht : t < s.tm.length
    · rw [List.getD_eq_getElem?_getD, List.getElem?_eq_getElem ht] at hx
      simp only [Option.getD_some] at hx
      have ht' : t < a.tmps.size := by rw [h.len]; exact ht
      have := h.tm t x a.tmps[t] (by rw [← hx]; exact List.getElem?_eq_getElem ht) (Array.getElem?_eq_getElem ht')
      rw [Array.getD_eq_getD_getElem?, Array.getElem?_eq_getElem ht']
      exact this
    · rw [List.getD_eq_getElem?_getD, List.getElem?_eq_none (Nat.le_of_not_lt ht)] at hx
      exact absurd hx.symm hne
  cases rv with
  | tmp t =>
    simp only [resV] at hv
    split at hv
    · rename_i v' he
      cases hv
      exact ⟨_, by simp [resRun], key t _ he (by simp)⟩
    · cases hv
  | cell t ty =>
    simp only [resV] at hv
    split at hv
    · rename_i b τ he
      obtain ⟨k, τb, n, h1, h2, h3⟩ := key t _ he (by simp)
      rw [Ty.off] at h2
      cases h2
      split at hv
      · rename_i d hd
        split at hv
        · rename_i ht
          cases hv
          obtain ⟨x, g, c, e, e1, e2, e3⟩ := h.bx b k τ h1
          rw [hd] at e1
          cases e1
          have hsz := e3.len.1
          have hrun := run_loadVar_at (hK _ _ ht) (w := w) (off := 0) e2 (by simp at hsz; simp; omega)
          refine ⟨ofCells τ (part' c.toList 0 τ.size), ?_, part' c.toList 0 τ.size, rfl, ?_⟩
          · simp only [resRun, Sem.run_bind]
            rw [h3]
            have : (asAddr (Value.pointer (some ⟨k, 0, none⟩))).run P w = .ok ⟨k, 0, none⟩ w := by simp [asAddr]
            rw [this]
            simpa using hrun
          · have : part' c.toList 0 τ.size = c.toList := by
              unfold part'
              rw [List.drop_zero, List.take_of_length_le (by omega)]
            rw [this]
            exact e3
        · cases hv
      · cases hv
    · cases hv

/-- what a result is: its value in memory, its tags -/
structure Res1 (el : Ty → TypeId) (w : World) (G : Gh) (τ : Ty) (x : τ.den) (g : List Tg) (v : Value) : Prop where
  rep : ∃ cs, v = ofCells τ cs ∧ RepT w G el τ x g cs

theorem drop_app {α : Type} {A B C : List α} {m : Nat} (h : A.drop m = B ++ C) : A.drop (m + B.length) = C := by
  rw [← List.drop_drop, h, List.drop_left']
  rfl

theorem finV_run (hK : TysOk P K) (h : Inv K.el w0 M s a w G) (pF : List Bool) (gF : List Tg) : (outs : List RTy) → (rs : List ResultVar) → (r : RDen outs) → (g : List Tg) → (m q : Nat) → finV K s outs rs = some (r, g) →
    pF.drop m = patsO outs → gF.drop m = g →
    ∃ vs : List Value, rs.length = vs.length ∧ vs.length = outs.length ∧ (∀ (i : Nat) (x : ResultVar) (v : Value), rs[i]? = some x → vs[i]? = some v → (resRun a.tmps x).run P w = .ok v w) ∧
      (∀ (j : Nat) (x : W) (v : Value), (outTm q m outs r)[j]? = some x → vs[j]? = some v → ∃ τ y gs pat n cs, x = .one (.dat ⟨τ, y, newIds n pat⟩) ∧ v = ofCells τ cs ∧ RepT w G K.el τ y gs cs ∧ gs.length = pat.length ∧ (pF.drop n).take pat.length = pat ∧ (gF.drop n).take pat.length = gs) ∧
      ∀ j : Nat, ((outBx m outs r)[j]?).bind id = none
  | [], [], r, g, m, q, hf, _, _ => ⟨[], rfl, rfl, fun i x v h1 => by simp at h1, fun j x v h1 => by simp [outTm] at h1, fun j => by simp [outBx]⟩
  | [], _ :: _, r, g, m, q, hf, _, _ => by simp [finV] at hf
  | .val τ pat :: _, [], r, g, m, q, hf, _, _ => by simp [finV] at hf
  | .bx τ pat :: _, rs, r, g, m, q, hf, _, _ => by cases rs <;> simp [finV] at hf
  | .val τ pat :: outs, x :: rs, r, g, m, q, hf, hp, hg => by
    simp only [finV] at hf
    split at hf
    · rename_i v hv
      split at hf
      · rename_i d hto
        split at hf
        · rename_i hlen
          split at hf
          · rename_i y r' g' has hr'
            simp only [Option.some.injEq, Prod.mk.injEq] at hf
            obtain ⟨rfl, rfl⟩ := hf
            obtain ⟨x0, hrun, hrep⟩ := resV_run hK h hv
            obtain ⟨hty, cs, hcs, hrt⟩ := rep_to hto hrep
            have hd := D.as_some has
            have hp' : pF.drop m = pat ++ patsO outs := hp
            obtain ⟨vs, h1, h2, h3, h4, h5⟩ := finV_run hK h pF gF outs rs r' g' (m + pat.length) (q + 1) hr' (drop_app hp') (by rw [← hlen]; exact drop_app hg)
            refine ⟨x0 :: vs, by simp [h1], by simp [h2], fun i x v g1 g2 => ?_, fun j x v g1 g2 => ?_, fun j => ?_⟩
            · cases i with
              | zero =>
                simp only [List.getElem?_cons_zero, Option.some.injEq] at g1 g2
                subst g1; subst g2
                exact hrun
              | succ i => exact h3 i x v (by simpa using g1) (by simpa using g2)
            · cases j with
              | zero =>
                simp only [outTm, List.getElem?_cons_zero, Option.some.injEq] at g1 g2
                subst g1; subst g2
                refine ⟨τ, y, d.g, pat, m, cs, rfl, ?_, ?_, hlen, ?_, ?_⟩
                · rw [hcs]; rw [hty]
                · rw [hd] at hrt; exact hrt
                · rw [hp', List.take_left']; rfl
                · rw [hg, List.take_left']; exact hlen
              | succ j => exact h4 j x v (by simpa [outTm] using g1) (by simpa using g2)
            · cases j with
              | zero => simp [outBx]
              | succ j => simpa [outBx] using h5 j
          · cases hf
        · cases hf
      · cases hf
    · cases hf

/-- what is told of the results -/
structure ResOk (K : Cfg) (s : St) (a : Act) (w : World) (G : Gh) (q : Nat) (pF : List Bool) (gF : List Tg) (outs : List RTy) (rs : List ResultVar) (r : RDen outs) (m : Nat) (nb : Option Nat) (vs : List Value) : Prop where
  l1 : rs.length = vs.length
  l2 : vs.length = outs.length
  run : ∀ (i : Nat) (x : ResultVar) (v : Value), rs[i]? = some x → vs[i]? = some v → (resRun a.tmps x).run P w = .ok v w
  tm : ∀ (j : Nat) (x : W) (v : Value), (outTm q m outs r)[j]? = some x → vs[j]? = some v →
    (∃ τ y gs pat n cs, x = .one (.dat ⟨τ, y, newIds n pat⟩) ∧ v = ofCells τ cs ∧ RepT w G K.el τ y gs cs ∧ gs.length = pat.length ∧ (pF.drop n).take pat.length = pat ∧ (gF.drop n).take pat.length = gs) ∨
    ∃ b τ k, nb = some b ∧ x = .one (.ptr q [] τ) ∧ v = .pointer (some ⟨k, 0, none⟩) ∧ G.lb b = some (k, τ)
  bx : ∀ j : Nat, (((outBx m outs r)[j]?).bind id = none ∧ (j = 0 → nb = none)) ∨
    (j = 0 ∧ ∃ b τ x gs pat n, nb = some b ∧ q ≤ b ∧ s.box b = some ⟨τ, x, gs⟩ ∧ ((outBx m outs r)[j]?).bind id = some ⟨τ, x, newIds n pat⟩ ∧ gs.length = pat.length ∧ (pF.drop n).take pat.length = pat ∧ (gF.drop n).take pat.length = gs)

theorem finR_run (hK : TysOk P K) (h : Inv K.el w0 M s a w G) (q : Nat) (pF : List Bool) (gF : List Tg) : (outs : List RTy) → (rs : List ResultVar) → (r : RDen outs) → (g : List Tg) → (nb : Option Nat) → (m : Nat) → finR K s q outs rs = some (r, g, nb) →
    pF.drop m = patsO outs → gF.drop m = g → ∃ vs, ResOk (P := P) K s a w G q pF gF outs rs r m nb vs := by
  intro outs rs r g nb m hf hp hg
  unfold finR at hf
  split at hf
  · rename_i τ pat v
    split at hf
    · rename_i b τ' hv
      split at hf
      · rename_i hqb
        split at hf
        · rename_i d hd
          split at hf
          · rename_i hlen
            split at hf
            · rename_i x hx
              simp only [Option.some.injEq, Prod.mk.injEq] at hf
              obtain ⟨rfl, rfl, rfl⟩ := hf
              obtain ⟨x0, hrun, hrep⟩ := resV_run hK h hv
              obtain ⟨k, τb, n, h1, h2, h3⟩ := hrep
              rw [Ty.off] at h2
              cases h2
              have hdd := D.as_some hx
              obtain ⟨y, g0, c, e, e1, _⟩ := h.bx _ _ _ h1
              rw [hd, hdd] at e1
              have hττ : τ = τ' := by have := congrArg D.ty (Option.some.inj e1); exact this
              subst hττ
              have hp' : pF.drop m = pat ++ [] := hp
              refine ⟨[x0], ⟨rfl, rfl, fun i x v g1 g2 => ?_, fun j z v g1 g2 => ?_, fun j => ?_⟩⟩
              · cases i with
                | zero => simp only [List.getElem?_cons_zero, Option.some.injEq] at g1 g2; subst g1; subst g2; exact hrun
                | succ i => simp at g1
              · cases j with
                | zero =>
                  simp only [outTm, List.getElem?_cons_zero, Option.some.injEq] at g1 g2
                  subst g1; subst g2
                  exact .inr ⟨b, τ, k, rfl, rfl, h3, h1⟩
                | succ j => simp at g2
              · cases j with
                | zero =>
                  refine .inr ⟨rfl, b, τ, x, d.g, pat, m, rfl, hqb, by rw [hd, hdd], by simp [outBx], hlen, ?_, ?_⟩
                  · rw [hp', List.take_left']; rfl
                  · rw [hg, List.take_of_length_le (by omega)]
                | succ j => exact .inl ⟨by simp [outBx], by simp⟩
            · cases hf
          · cases hf
        · cases hf
      · cases hf
    · cases hf
  · split at hf
    · rename_i r' g' hV
      simp only [Option.some.injEq, Prod.mk.injEq] at hf
      obtain ⟨rfl, rfl, rfl⟩ := hf
      obtain ⟨us, u1, u2, u3, u4, u5⟩ := finV_run hK h pF gF _ _ _ _ m q hV hp hg
      exact ⟨us, u1, u2, u3, fun j x v g1 g2 => .inl (u4 j x v g1 g2), fun j => .inl ⟨u5 j, fun _ => rfl⟩⟩
    · cases hf

/-- the boxes that were handed over, at the end -/
theorem finB_spec (pF : List Bool) (gF : List Tg) : (ins : List ATy) → (b : BDen ins) → (g : List Tg) → (m n : Nat) → (rest : List Bool) → (restg : List Tg) → finB s n ins = some (b, g) → pF.drop m = patsI ins ++ rest → gF.drop m = g ++ restg →
    (∀ j : Nat, ((endBx m ins b)[j]?).bind id = none ∧ (∀ τ pat, ins[j]? ≠ some (.bx τ pat)) ∨
      ∃ τ x gs pat k, ins[j]? = some (.bx τ pat) ∧ s.box (n + j) = some ⟨τ, x, gs⟩ ∧ ((endBx m ins b)[j]?).bind id = some ⟨τ, x, newIds k pat⟩ ∧ gs.length = pat.length ∧ (pF.drop k).take pat.length = pat ∧ (gF.drop k).take pat.length = gs) ∧
    pF.drop (m + patLenI ins) = rest ∧ gF.drop (m + patLenI ins) = restg
  | [], b, g, m, n, rest, restg, hf, hp, hg => by
    simp only [finB, Option.some.injEq, Prod.mk.injEq] at hf
    obtain ⟨_, rfl⟩ := hf
    exact ⟨fun j => .inl ⟨by simp [endBx], by simp⟩, by simpa [patLenI, patsI] using hp, by simpa [patLenI] using hg⟩
  | .val τ :: r, b, g, m, n, rest, restg, hf, hp, hg => by
    obtain ⟨h1, h2, h3⟩ := finB_spec pF gF r b g m (n + 1) rest restg (by simpa [finB] using hf) (by simpa [patsI] using hp) hg
    refine ⟨fun j => ?_, h2, h3⟩
    cases j with
    | zero => exact .inl ⟨by simp [endBx], by simp⟩
    | succ j => have := h1 j; simpa [endBx, Nat.add_assoc, Nat.add_comm 1] using this
  | .fn f :: r, b, g, m, n, rest, restg, hf, hp, hg => by
    obtain ⟨h1, h2, h3⟩ := finB_spec pF gF r b g m (n + 1) rest restg (by simpa [finB] using hf) (by simpa [patsI] using hp) hg
    refine ⟨fun j => ?_, h2, h3⟩
    cases j with
    | zero => exact .inl ⟨by simp [endBx], by simp⟩
    | succ j => have := h1 j; simpa [endBx, Nat.add_assoc, Nat.add_comm 1] using this
  | .bx τ pat :: r, b, g, m, n, rest, restg, hf, hp, hg => by
    simp only [finB] at hf
    split at hf
    · rename_i d hd
      split at hf
      · rename_i hlen
        split at hf
        · rename_i y b' g' has hb'
          simp only [Option.some.injEq, Prod.mk.injEq] at hf
          obtain ⟨rfl, rfl⟩ := hf
          have hdd := D.as_some has
          simp only [patsI, List.append_assoc] at hp hg
          obtain ⟨h1, h2, h3⟩ := finB_spec pF gF r b' g' (m + pat.length) (n + 1) rest restg hb' (drop_app hp) (by rw [← hlen]; exact drop_app hg)
          refine ⟨fun j => ?_, ?_, ?_⟩
          · cases j with
            | zero =>
              refine .inr ⟨τ, y, d.g, pat, m, by simp, by rw [Nat.add_zero, hd, hdd], by simp [endBx], hlen, ?_, ?_⟩
              · rw [hp, List.take_left']; rfl
              · rw [hg, List.take_left']; exact hlen
            | succ j => have := h1 j; simpa [endBx, Nat.add_assoc, Nat.add_comm 1] using this
          · simp only [patLenI]; rw [← Nat.add_assoc]; exact h2
          · simp only [patLenI]; rw [← Nat.add_assoc]; exact h3
        · cases hf
      · cases hf
    · cases hf

end
end Go.Proofs.Ytlehbecajmjgkaa.V
