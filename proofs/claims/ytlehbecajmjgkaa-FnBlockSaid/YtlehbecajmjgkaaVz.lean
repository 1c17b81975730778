/- Part of a proof by a value interpreter: writing into an array of the frame's own. -/
import Derived.Test.YtlehbecajmjgkaaVy
set_option linter.unusedVariables false
set_option linter.unusedSimpArgs false
namespace Go.Proofs.Ytlehbecajmjgkaa.V

section
variable {P : Program} {K : Cfg} {w0 : World} {M : Hx} {o : Oper} {i : Nat} {s : St} {a : Act} {w w' : World} {G : Gh} {u : U}

/-- memory where block 'g' alone is another -/
structure Wrote (w w' : World) (g : Nat) (c' : Array Value) (e : TypeId) : Prop where
  new : w'.heap[g]? = some (.cells c' e (0, 0))
  oth : ∀ k, k ≠ g → w'.heap[k]? = w.heap[k]?
  os : w'.os = w.os
  tape : w'.tape = w.tape
  output : w'.output = w.output
  size : w'.heap.size = w.heap.size

structure UpdOk (el : Ty → TypeId) (w w' : World) (G : Gh) (id g ext : Nat) (te : Ty) (f : List te.den → List te.den) (c c' : Array Value) : Prop where
  la : G.la id = some (some (g, ext))
  old : w.heap[g]? = some (.cells c (el te) (0, 0))
  wr : Wrote w w' g c' (el te)
  cs : c'.size = c.size
  f : ∀ zs : List te.den, zs.length ≤ ext → (∀ j x, zs[j]? = some x → RepIm w G.im te x (seg c.toList j te.size)) → (f zs).length = zs.length ∧ ∀ j x, (f zs)[j]? = some x → RepIm w G.im te x (seg c'.toList j te.size)

section
variable {el : Ty → TypeId} {id g ext : Nat} {te : Ty} {f : List te.den → List te.den} {c c' : Array Value}

theorem upd_im (h : Inv el w0 M s a w G) (hu : UpdOk el w w' G id g ext te f c c') (hmv : s.mv id = false) (hfz : s.fz id = false) {τ : Ty} {x : τ.den} {cs : List Value} (hr : RepIm w G.im τ x cs) : RepIm w' G.im τ x cs :=
  hr.mono (fun b hb => hu.wr.oth b (fun e => (h.lam _ _ _ hu.la).2.1 hfz hmv (e ▸ hb))) (fun _ hb => hb)

/-- a slice that is not of the array -/
theorem upd_oth (h : Inv el w0 M s a w G) (hu : UpdOk el w w' G id g ext te f c c') (hmv : s.mv id = false) (hfz : s.fz id = false) {t : Ty} {xs : List t.den} {tg : Tg} {v : Value} (hm : (tgIds [tg]).any s.mv = false) (hid : tgIds [tg] ≠ [id])
    (hr : RepS w G el t xs tg v) : RepS w' G el t xs tg v := by
  have own : ∀ j full, s.mv j = false → j ≠ id → OwnAt w G el t xs j full v → OwnAt w' G el t xs j full v := by
    intro j full hj hne hr
    unfold OwnAt at hr ⊢
    split at hr
    · exact hr.elim
    · exact hr
    · rename_i g1 n hq
      obtain ⟨hf, hs, hp, c1, cap, hv, b1, b2, b3, b4, b5⟩ := hr
      refine ⟨hf, hs, hp, c1, cap, hv, b1, b2, (hu.wr.oth g1 (fun e => ?_)).trans b3, b4, fun q x hx => upd_im h hu hmv hfz (b5 q x hx)⟩
      subst e
      rcases (h.las j id g1 n ext hq hu.la hne).1 with hh | hh
      · rw [hj] at hh; cases hh
      · rw [hmv] at hh; cases hh
  cases tg with
  | im => exact upd_im h hu hmv hfz hr
  | ni => exact hr
  | ow j => exact own j true (by simpa [tgIds] using hm) (by simpa [tgIds] using hid) hr
  | pa j => exact own j false (by simpa [tgIds] using hm) (by simpa [tgIds] using hid) hr

/-- a slice of the array -/
theorem upd_own (h : Inv el w0 M s a w G) (hu : UpdOk el w w' G id g ext te f c c') (hmv : s.mv id = false) (hfz : s.fz id = false) {xs : List te.den} {tg : Tg} {v : Value} (hid : tgIds [tg] = [id])
    (hr : RepS w G el te xs tg v) : RepS w' G el te (f xs) tg v := by
  have own : ∀ full, OwnAt w G el te xs id full v → OwnAt w' G el te (f xs) id full v := by
    intro full hr
    unfold OwnAt at hr ⊢
    rw [hu.la] at hr ⊢
    obtain ⟨hf, hs, hp, c1, cap, hv, b1, b2, b3, b4, b5⟩ := hr
    rw [hu.old] at b3
    simp only [Option.some.injEq, Obj.cells.injEq, and_true] at b3
    subst b3
    have hle : xs.length ≤ ext := by split at hf <;> omega
    obtain ⟨h1, h2⟩ := hu.f xs hle b5
    rw [h1]
    exact ⟨hf, hs, hp, c', cap, hv, b1, b2, hu.wr.new, by rw [hu.cs]; exact b4, fun q x hx => upd_im h hu hmv hfz (h2 q x hx)⟩
  cases tg with
  | im => simp [tgIds] at hid
  | ni => simp [tgIds] at hid
  | ow j =>
    have : j = id := by simpa [tgIds] using hid
    subst this
    exact own true hr
  | pa j =>
    have : j = id := by simpa [tgIds] using hid
    subst this
    exact own false hr

/-- what such a write must do to what was said -/
structure UpdA (el : Ty → TypeId) (w0 : World) (M : Hx) (s : St) (w w' : World) (G : Gh) (id : Nat) (te : Ty) (f : List te.den → List te.den) : Prop where
  im : ∀ {τ : Ty} {x : τ.den} {cs : List Value}, RepIm w G.im τ x cs → RepIm w' G.im τ x cs
  oth : ∀ {t : Ty} {xs : List t.den} {tg : Tg} {v : Value}, (tgIds [tg]).any s.mv = false → tgIds [tg] ≠ [id] → RepS w G el t xs tg v → RepS w' G el t xs tg v
  own : ∀ {xs : List te.den} {tg : Tg} {v : Value}, tgIds [tg] = [id] → RepS w G el te xs tg v → RepS w' G el te (f xs) tg v
  bxs : ∀ b k τ, G.lb b = some (k, τ) → w'.heap[k]? = w.heap[k]?
  size : w'.heap.size = w.heap.size
  fr : Fr w0 M w'

theorem UpdOk.abs (h : Inv el w0 M s a w G) (hu : UpdOk el w w' G id g ext te f c c') (hmv : s.mv id = false) (hfz : s.fz id = false) : UpdA el w0 M s w w' G id te f :=
  { im := fun hr => upd_im h hu hmv hfz hr
    oth := fun hm hid hr => upd_oth h hu hmv hfz hm hid hr
    own := fun hid hr => upd_own h hu hmv hfz hid hr
    bxs := fun b k τ hq => hu.wr.oth k (fun e => (h.lbm _ _ _ hq).2.1 id ext (by rw [hu.la, e]))
    size := hu.wr.size
    fr := ⟨hu.wr.os.trans h.fr.os, hu.wr.tape.trans h.fr.tape, hu.wr.output.trans h.fr.output, by rw [hu.wr.size]; exact h.fr.size, fun j hj hm => by
        rw [hu.wr.oth j (fun e => ?_)]
        · exact h.fr.block j hj hm
        · subst e
          rcases (h.lam _ _ _ hu.la).2.2 with hh | hh
          · omega
          · exact hm hh⟩ }

/-- nothing is written into nothing -/
theorem UpdA.nil (h : Inv el w0 M s a w G) (hla : G.la id = some none) (hf : f [] = []) : UpdA el w0 M s w w G id te f :=
  { im := fun hr => hr
    oth := fun _ _ hr => hr
    own := by
      intro xs tg v hid hr
      have own : ∀ full, OwnAt w G el te xs id full v → OwnAt w G el te (f xs) id full v := by
        intro full hr
        unfold OwnAt at hr ⊢
        rw [hla] at hr ⊢
        obtain ⟨h1, rfl⟩ := hr
        exact ⟨h1, hf⟩
      cases tg with
      | im => simp [tgIds] at hid
      | ni => simp [tgIds] at hid
      | ow j => have : j = id := by simpa [tgIds] using hid
                subst this; exact own true hr
      | pa j => have : j = id := by simpa [tgIds] using hid
                subst this; exact own false hr
    bxs := fun _ _ _ _ => rfl
    size := rfl
    fr := h.fr }

theorem updL_rep (hu : UpdA el w0 M s w w' G id te f) : {τ : Ty} → {x y : τ.den} → {tg : List Tg} → {cs : List Value} → (tgIds tg).any s.mv = false →
    updL id te f τ x tg = some y → RepT w G el τ x tg cs → RepT w' G el τ y tg cs
  | .int _, _, _, _, _, _, he, hr => by simp only [updL, Option.some.injEq] at he; subst he; simp only [RepT] at hr ⊢; exact ⟨hr.1, hu.im hr.2⟩
  | .bool, _, _, _, _, _, he, hr => by simp only [updL, Option.some.injEq] at he; subst he; simp only [RepT] at hr ⊢; exact ⟨hr.1, hu.im hr.2⟩
  | .str, _, _, _, _, _, he, hr => by simp only [updL, Option.some.injEq] at he; subst he; simp only [RepT] at hr ⊢; exact ⟨hr.1, hu.im hr.2⟩
  | .un, _, _, _, _, _, _, hr => by simp only [RepT] at hr ⊢; exact ⟨hr.1, hu.im hr.2⟩
  | .arr _ _, _, _, _, _, _, he, hr => by simp only [updL, Option.some.injEq] at he; subst he; simp only [RepT] at hr ⊢; exact ⟨hr.1, hu.im hr.2⟩
  | .sl t', xs, y, tg, cs, hm, he, hr => by
    simp only [RepT] at hr ⊢
    obtain ⟨tg', v, rfl, rfl, hr⟩ := hr
    simp only [updL] at he
    split at he
    · rename_i hid
      split at he
      · rename_i ht
        subst ht
        cases he
        exact ⟨tg', v, rfl, rfl, hu.own hid hr⟩
      · cases he
    · rename_i hid
      cases he
      exact ⟨tg', v, rfl, rfl, hu.oth hm hid hr⟩
  | .pr p q, x, y, tg, cs, hm, he, hr => by
    simp only [RepT] at hr ⊢
    obtain ⟨c1, c2, rfl, h1, h2⟩ := hr
    simp only [updL] at he
    split at he
    · rename_i y1 y2 e1 e2
      cases he
      have hm' : ∀ j ∈ tgIds tg, s.mv j = false := fun j hj => by
        have := List.any_eq_false.1 hm j hj
        simpa using this
      have ha : (tgIds (tg.take p.leaves)).any s.mv = false := List.any_eq_false.2 fun j hj => by
        rw [hm' j (mem_tgIds.2 ((mem_tgIds.1 hj).imp List.mem_of_mem_take List.mem_of_mem_take))]; simp
      have hb : (tgIds (tg.drop p.leaves)).any s.mv = false := List.any_eq_false.2 fun j hj => by
        rw [hm' j (mem_tgIds.2 ((mem_tgIds.1 hj).imp List.mem_of_mem_drop List.mem_of_mem_drop))]; simp
      exact ⟨c1, c2, rfl, updL_rep hu ha e1 h1, updL_rep hu hb e2 h2⟩
    · cases he

theorem any_false {l : List Nat} {p : Nat → Bool} (h : ¬ l.any p = true) : l.any p = false := by simpa using h

theorem updV_rep (hu : UpdA el w0 M s w w' G id te f) {v : V} {x : Value} (hr : RepV w G el v x) : RepV w' G el (updV id s.mv te f v) x := by
  cases v with
  | top => trivial
  | dat d =>
    simp only [updV]
    split
    · trivial
    · rename_i hm
      unfold updD
      cases hq : updL id te f d.ty d.x d.g with
      | none => simp only [Option.map_none]; trivial
      | some y =>
        simp only [Option.map_some]
        obtain ⟨cs, hv, hr⟩ := hr
        exact ⟨cs, hv, updL_rep hu (any_false hm) hq hr⟩
  | nl => exact hr
  | ptr b p τ => exact hr
  | el d j p e =>
    simp only [updV]
    split
    · trivial
    · rename_i hm
      obtain ⟨t, xs, tg, rfl, b, o, len, cap, y, n, h1, h2⟩ := hr
      have hm' := any_false hm
      have hid : tgIds [tg] ≠ [id] := fun e => by
        have := List.any_eq_false.1 hm' id (by show id ∈ tgIds [tg]; rw [e]; simp)
        simp at this
      have hmv' : (tgIds [tg]).any s.mv = false := List.any_eq_false.2 fun j hj => by
        have := List.any_eq_false.1 hm' j hj
        simp only [Bool.or_eq_true, not_or] at this
        exact this.1
      exact ⟨t, xs, tg, rfl, b, o, len, cap, y, n, hu.oth hmv' hid h1, h2⟩
  | bsl b => exact hr
  | fn f => exact hr

theorem updW_rep (hu : UpdA el w0 M s w w' G id te f) {v : W} {x : Value} (hr : RepW w G el v x) : RepW w' G el (updW id s.mv te f v) x := by
  cases v with
  | one v => exact updV_rep hu (v := v) hr
  | tup l =>
    obtain ⟨vs, he, hl, hr⟩ := hr
    refine ⟨vs, he, by rw [hl, List.length_map], fun i v y hv hy => ?_⟩
    rw [List.getElem?_map] at hv
    obtain ⟨v', hv', rfl⟩ := Option.map_eq_some_iff.1 hv
    exact updV_rep hu (hr i v' y hv' hy)
  | un => exact hr

theorem allSome_get {α : Type} : {l : List (Option α)} → {r : List α} → allSome l = some r → r.length = l.length ∧ ∀ j : Nat, l[j]? = (r[j]?).map some
  | [], r, h => by simp only [allSome, Option.some.injEq] at h; subst h; simp
  | none :: l, r, h => by simp [allSome] at h
  | some x :: l, r, h => by
    simp only [allSome] at h
    cases hq : allSome l with
    | none => rw [hq] at h; cases h
    | some r' =>
      rw [hq] at h
      cases h
      obtain ⟨h1, h2⟩ := allSome_get hq
      refine ⟨by simp [h1], fun j => ?_⟩
      cases j with
      | zero => simp
      | succ j => simpa using h2 j

/-- the frame behind such a write -/
theorem Inv.upd (h : Inv el w0 M s a w G) (hu : UpdA el w0 M s w w' G id te f) {s' : St} (hs : s.upd id te f [] = some s') : Inv el w0 M s' a w' G := by
  unfold St.upd at hs
  split at hs
  · rename_i bx hbx
    cases hs
    obtain ⟨hl, hget⟩ := allSome_get hbx
    rw [List.length_map] at hl
    exact
    { df := h.df
      len := by rw [h.len, List.length_map]
      blen := by rw [hl, h.blen, List.length_map]
      tm := by
        intro j x v h1 h2
        rw [List.getElem?_map] at h1
        obtain ⟨x', hx', rfl⟩ := Option.map_eq_some_iff.1 h1
        exact updW_rep hu (h.tm j x' v hx' h2)
      bx := by
        intro b k τ hq
        obtain ⟨x, g', cc, e, h1, h2, h3⟩ := h.bx b k τ hq
        unfold St.box at h1
        obtain ⟨od, ho, hod⟩ := Option.bind_eq_some_iff.1 h1
        have hod' : od = some ⟨τ, x, g'⟩ := hod
        subst hod'
        have hgb := hget b
        rw [List.getElem?_map, ho] at hgb
        simp only [Option.map_some] at hgb
        cases hb : bx[b]? with
        | none => rw [hb] at hgb; cases hgb
        | some ob =>
          rw [hb] at hgb
          simp only [Option.map_some, Option.some.injEq] at hgb
          simp only [updB] at hgb
          split at hgb
          · cases hgb
          · rename_i hm
            unfold updD at hgb
            cases hq2 : updL id te f τ x g' with
            | none => rw [hq2] at hgb; simp at hgb
            | some y =>
              rw [hq2] at hgb
              simp only [Option.map_some, Option.some.injEq] at hgb
              subst hgb
              refine ⟨y, g', cc, e, ?_, ?_, updL_rep hu (any_false hm) hq2 h3⟩
              · unfold St.box
                simp only
                rw [hb]
                rfl
              · rw [hu.bxs b k τ hq]
                exact h2
      bn := by
        intro b hq
        have h1 := h.bn b hq
        unfold St.box at h1 ⊢
        simp only
        have hgb := hget b
        rw [List.getElem?_map] at hgb
        cases hb : bx[b]? with
        | none => rfl
        | some ob =>
          rw [hb] at hgb
          cases hob : s.bx[b]? with
          | none => rw [hob] at hgb; cases hgb
          | some od =>
            rw [hob] at hgb h1
            have hod : od = none := h1
            subst hod
            simp only [Option.map_some, Option.some.injEq, updB] at hgb
            subst hgb
            rfl
      lbi := h.lbi
      lbm := h.lbm
      lam := fun j k n hq => ⟨by rw [hu.size]; exact (h.lam j k n hq).1, fun h1 h2 => (h.lam j k n hq).2.1 (by simpa using h1) h2, (h.lam j k n hq).2.2⟩
      las := h.las
      imb := fun k hk => by rw [hu.size]; exact h.imb k hk
      him := h.him
      hlb := h.hlb
      hnb := h.hnb
      fr := hu.fr }
  · cases hs

theorem upd_let {s s' : St} {fzs : List Nat} (h : s.upd id te f fzs = some s') : ({ s with fz := fun i => s.fz i || fzs.contains i } : St).upd id te f [] = some s' := by
  unfold St.upd at h ⊢
  split at h
  · rename_i bx hbx
    simp only at hbx ⊢
    rw [hbx]
    cases h
    simp
  · cases h

theorem Wrote.of_setRow {w : World} {g : Nat} {c c' : Array Value} {e : TypeId} (h : w.heap[g]? = some (.cells c e (0, 0))) : Wrote w (w.setRow g c') g c' e :=
  ⟨setRow_heap w g c _ _ _ h, fun k hk => setRow_other w g k _ hk, rfl, rfl, rfl, by simp⟩

end
end
end Go.Proofs.Ytlehbecajmjgkaa.V
