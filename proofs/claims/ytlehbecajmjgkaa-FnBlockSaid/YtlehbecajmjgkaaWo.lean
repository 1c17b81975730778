/- Part of a proof by a value interpreter: what a function leaves, in its contract's words. -/
import Derived.Test.YtlehbecajmjgkaaWn
set_option linter.unusedVariables false
set_option linter.unusedSimpArgs false
namespace Go.Proofs.Ytlehbecajmjgkaa.V

/-- arrays that are handed out as nobody's -/
def lostIds (pF : List Bool) (gF : List Tg) : List Nat := ((List.range pF.length).filter fun i => !pF.getD i false).flatMap fun i => tgIds [gF.getD i .im]

def finG (G : Gh) (ins : List ATy) (nb : Option Nat) (pF : List Bool) (gF : List Tg) : Gh :=
  { lb := fun n => match ins[n]? with
      | some (.bx _ _) => G.lb n
      | some _ => none
      | none => if n = ins.length then nb.bind G.lb else none
    la := fun id => match pF[id]?, gF[id]? with
      | some true, some (.ow i) => G.la i
      | some true, some .ni => some none
      | _, _ => none
    sz := G.sz
    im := G.im }

def FinR (pF : List Bool) (gF : List Tg) (tg tg' : Tg) : Prop := (tg' = .im ∧ ∀ i ∈ tgIds [tg], i ∈ lostIds pF gF) ∨ ∃ id, tg' = .ow id ∧ pF[id]? = some true ∧ gF[id]? = some tg

theorem finR_all (pF : List Bool) (gF : List Tg) : (pat : List Bool) → (gs : List Tg) → (n : Nat) → gs.length = pat.length → (∀ j, j < pat.length → pF[n + j]? = pat[j]? ∧ gF[n + j]? = gs[j]?) → All2 (FinR pF gF) gs (newIds n pat)
  | [], [], n, _, _ => trivial
  | [], _ :: _, n, h, _ => by simp at h
  | _ :: _, [], n, h, _ => by simp at h
  | b :: r, t :: g, n, h, hj => by
    have ih := finR_all pF gF r g (n + 1) (by simpa using h) (fun j hl => by
      have := hj (j + 1) (by simp; omega)
      rw [show n + 1 + j = n + (j + 1) by omega]
      simpa using this)
    have h0 := hj 0 (by simp)
    simp only [Nat.add_zero, List.getElem?_cons_zero] at h0
    cases b with
    | true => exact ⟨.inr ⟨n, rfl, h0.1, h0.2⟩, ih⟩
    | false =>
      refine ⟨.inl ⟨rfl, fun i hi => ?_⟩, ih⟩
      unfold lostIds
      refine List.mem_flatMap.2 ⟨n, List.mem_filter.2 ⟨List.mem_range.2 (List.getElem?_eq_some_iff.1 h0.1).1, ?_⟩, ?_⟩
      · rw [List.getD_eq_getElem?_getD, h0.1]; rfl
      · rw [List.getD_eq_getElem?_getD, h0.2]; exact hi

theorem tagsOk_own {mv fz : Nat → Bool} {pF : List Bool} {gF : List Tg} (h : tagsOk mv fz pF gF = true) {id a : Nat} (hp : pF[id]? = some true) (hg : gF[id]? = some (.ow a)) :
    mv a = false ∧ fz a = false ∧ ∀ j t, j < pF.length → j ≠ id → gF[j]? = some t → a ∉ tgIds [t] := by
  unfold tagsOk at h
  have hl := (List.getElem?_eq_some_iff.1 hp).1
  have := List.all_eq_true.1 h id (List.mem_range.2 hl)
  rw [List.getD_eq_getElem?_getD, hp, List.getD_eq_getElem?_getD, hg] at this
  simp only [Option.getD_some, Bool.and_eq_true, Bool.not_eq_true', Bool.or_eq_false_iff, List.all_eq_true, List.mem_range, Bool.or_eq_true, beq_iff_eq] at this
  refine ⟨this.1.1, this.1.2, fun j t hj hne ht hm => ?_⟩
  rcases this.2 j hj with hh | hh
  · exact hne hh
  · rw [List.getD_eq_getElem?_getD, ht] at hh
    simp at hh
    exact hh hm

theorem tagsOk_true {mv fz : Nat → Bool} {pF : List Bool} {gF : List Tg} (h : tagsOk mv fz pF gF = true) {id : Nat} {t : Tg} (hp : pF[id]? = some true) (hg : gF[id]? = some t) : t = .ni ∨ ∃ a, t = .ow a := by
  unfold tagsOk at h
  have hl := (List.getElem?_eq_some_iff.1 hp).1
  have := List.all_eq_true.1 h id (List.mem_range.2 hl)
  rw [List.getD_eq_getElem?_getD, hp, List.getD_eq_getElem?_getD, hg] at this
  cases t with
  | ni => exact .inl rfl
  | ow a => exact .inr ⟨a, rfl⟩
  | im => simp at this
  | pa a => simp at this

theorem tagsOk_lost {mv fz : Nat → Bool} {pF : List Bool} {gF : List Tg} (h : tagsOk mv fz pF gF = true) : (lostIds pF gF).any mv = false := by
  rw [List.any_eq_false]
  intro i hi
  unfold lostIds at hi
  obtain ⟨j, hj, hi⟩ := List.mem_flatMap.1 hi
  obtain ⟨h1, h2⟩ := List.mem_filter.1 hj
  unfold tagsOk at h
  have := List.all_eq_true.1 h j h1
  have h2' : pF.getD j false = false := by simpa using h2
  rw [h2'] at this
  simp only [Bool.not_eq_true'] at this
  have := List.any_eq_false.1 this i hi
  exact this

theorem own_notLost {mv fz : Nat → Bool} {pF : List Bool} {gF : List Tg} (h : tagsOk mv fz pF gF = true) {id a : Nat} (hp : pF[id]? = some true) (hg : gF[id]? = some (.ow a)) : a ∉ lostIds pF gF := by
  intro hi
  unfold lostIds at hi
  obtain ⟨j, hj, hi⟩ := List.mem_flatMap.1 hi
  obtain ⟨h1, h2⟩ := List.mem_filter.1 hj
  have hne : j ≠ id := by
    rintro rfl
    rw [List.getD_eq_getElem?_getD, hp] at h2
    simp at h2
  rw [List.getD_eq_getElem?_getD] at hi
  cases hq : gF[j]? with
  | none => rw [hq] at hi; simp [tgIds] at hi
  | some t =>
    rw [hq] at hi
    exact (tagsOk_own h hp hg).2.2 j t (List.mem_range.1 h1) hne hq hi

section
variable {P : Program} {K : Cfg} {el : Ty → TypeId} {w0 : World} {M : Hx} {s : St} {a : Act} {w : World} {G : Gh}

theorem fin_rs {mv fz : Nat → Bool} {ins : List ATy} {nb : Option Nat} {pF : List Bool} {gF : List Tg} (hok : tagsOk mv fz pF gF = true) (hlost : ∀ i ∈ lostIds pF gF, ∀ k n, G.la i = some (some (k, n)) → G.im k) {tg tg' : Tg} (hR : FinR pF gF tg tg') {t : Ty} {xs : List t.den} {v : Value}
    (hs : RepS w G el t xs tg v) : RepS w (finG G ins nb pF gF) el t xs tg' v := by
  rcases hR with ⟨rfl, hi⟩ | ⟨id, rfl, hp, hg⟩
  · show RepIm w G.im (.sl t) xs [v]
    exact RepS.toIm (G := G) (im := G.im) (fun _ hk => hk) (fun i k n hm hq => hlost i (hi i hm) k n hq) hs
  · rcases tagsOk_true hok hp hg with rfl | ⟨i, rfl⟩
    · simp only [RepS, OwnAt, finG, hp, hg]
      exact hs
    · simp only [RepS] at hs ⊢
      refine OwnAt.turn (G := G) (G' := finG G ins nb pF gF) (id := i) ?_ (fun _ _ _ => rfl) (.inr fun _ hk => hk) hs
      simp only [finG, hp, hg]

theorem take_get {α : Type} {A B : List α} {n l : Nat} (h : (A.drop n).take l = B) (hl : l ≤ B.length) (j : Nat) (hj : j < l) : A[n + j]? = B[j]? := by
  rw [← h, List.getElem?_take, if_pos hj, List.getElem?_drop]

theorem fin_inv (hK : TysOk P K) {ins : List ATy} (hq : M.q = ins.length) (h : Inv K.el w0 M s a w G) {outs : List RTy} {rs : List ResultVar} {r : RDen outs} {b : BDen ins} {vs : Array Value} (hvs : vs.size = ins.length) (hf : finD K ins outs rs s = some (r, b)) :
    ∃ (us : List Value) (G' : Gh), rs.length = us.length ∧ us.length = outs.length ∧ (∀ (i : Nat) (x : ResultVar) (v : Value), rs[i]? = some x → us[i]? = some v → (resRun a.tmps x).run P w = .ok v w) ∧
      Inv K.el w0 M (St1 ins outs r b) ⟨vs ++ us.toArray, []⟩ w G' ∧ (∀ n, (G'.lb n = G.lb n ∧ G.lb n ≠ none ∧ ∃ τ pat, ins[n]? = some (.bx τ pat)) ∨ (G'.lb n = none ∧ ∀ τ pat, ins[n]? ≠ some (.bx τ pat)) ∨ ins.length ≤ n) := by
  unfold finD at hf
  split at hf
  · rename_i r' g nb b' hg hV hB
    split at hf
    · rename_i hok
      simp only [Option.some.injEq, Prod.mk.injEq] at hf
      obtain ⟨rfl, rfl⟩ := hf
      have hmv := tagsOk_lost hok
      have h2 := h.letGo hmv
      obtain ⟨hbox, hp2, hg2⟩ := finB_spec (patsI ins ++ patsO outs) (hg ++ g) ins b' hg 0 0 (patsO outs) g hB (by simp) (by simp)
      rw [Nat.zero_add] at hp2 hg2
      obtain ⟨us, hU⟩ := finR_run (P := P) hK h ins.length (patsI ins ++ patsO outs) (hg ++ g) outs rs r' g nb (patLenI ins) hV hp2 hg2
      generalize hpF : patsI ins ++ patsO outs = pF at hok hmv h2 hbox hp2 hg2 hU
      generalize hgF : hg ++ g = gF at hok hmv h2 hbox hp2 hg2 hU
      have hlost : ∀ i ∈ lostIds pF gF, ∀ k n, (G.let (lostIds pF gF)).la i = some (some (k, n)) → (G.let (lostIds pF gF)).im k := fun i hi k n hq => .inr ⟨i, hi, n, hq⟩
      have him : ∀ {τ : Ty} {x : τ.den} {cs : List Value}, RepIm w (G.let (lostIds pF gF)).im τ x cs → RepIm w (finG (G.let (lostIds pF gF)) ins nb pF gF).im τ x cs := fun hh => hh
      have hkeep : ∀ {τ : Ty} {x : τ.den} {g : List Tg} {cs : List Value}, RepT w G K.el τ x g cs → RepT w (G.let (lostIds pF gF)) K.el τ x g cs := fun hh => (Inv.keepsLet G w _).rt hh
      have hrt : ∀ {τ : Ty} {x : τ.den} {gs : List Tg} {pat : List Bool} {n : Nat} {cs : List Value}, RepT w (G.let (lostIds pF gF)) K.el τ x gs cs → gs.length = pat.length → (pF.drop n).take pat.length = pat → (gF.drop n).take pat.length = gs →
          RepT w (finG (G.let (lostIds pF gF)) ins nb pF gF) K.el τ x (newIds n pat) cs := by
        intro τ x gs pat n cs hh hl e1 e2
        refine hh.rel him (fun tg tg' hR t xs v hs => fin_rs hok hlost hR hs) (finR_all pF gF pat gs n hl (fun j hj => ⟨?_, ?_⟩))
        · exact take_get e1 (Nat.le_refl _) j hj
        · exact take_get e2 (by omega) j hj
      have hla : ∀ id k n, (finG (G.let (lostIds pF gF)) ins nb pF gF).la id = some (some (k, n)) → ∃ i, pF[id]? = some true ∧ gF[id]? = some (.ow i) ∧ G.la i = some (some (k, n)) := by
        intro id k n hq
        simp only [finG] at hq
        split at hq
        · rename_i i h1 h2; exact ⟨i, h1, h2, hq⟩
        · cases hq
        · cases hq
      have hlb : ∀ n q, (finG (G.let (lostIds pF gF)) ins nb pF gF).lb n = some q → (G.lb n = some q ∧ ∃ τ pat, ins[n]? = some (.bx τ pat)) ∨ (n = ins.length ∧ ∃ b, nb = some b ∧ G.lb b = some q) := by
        intro n q hq
        simp only [finG] at hq
        split at hq
        · rename_i τ pat h1; exact .inl ⟨hq, τ, pat, h1⟩
        · cases hq
        · split at hq
          · rename_i hn
            obtain ⟨b, hb, hq⟩ := Option.bind_eq_some_iff.1 hq
            exact .inr ⟨hn, b, hb, hq⟩
          · cases hq
      have hnbx : ∀ b, nb = some b → ins.length ≤ b ∧ G.lb b ≠ none := by
        intro b hb
        rcases hU.bx 0 with ⟨_, h0⟩ | ⟨_, b1, τ, x, gs, pat, n, h1, h2, h3, _⟩
        · rw [h0 rfl] at hb; cases hb
        · rw [hb] at h1
          cases h1
          exact ⟨h2, fun hq => by rw [h.bn b hq] at h3; cases h3⟩
      have hlb1 : ∀ n q, (finG (G.let (lostIds pF gF)) ins nb pF gF).lb n = some q → ∃ b, G.lb b = some q ∧ ((b = n ∧ n < ins.length) ∨ (n = ins.length ∧ ins.length ≤ b)) := by
        intro n q hq
        rcases hlb n q hq with ⟨h1, τ, pat, hi⟩ | ⟨h1, b, hb, hq⟩
        · exact ⟨n, h1, .inl ⟨rfl, (List.getElem?_eq_some_iff.1 hi).1⟩⟩
        · exact ⟨b, hq, .inr ⟨h1, (hnbx b hb).1⟩⟩
      have holen : (outTm ins.length (patLenI ins) outs r').length = outs.length ∧ (outBx (patLenI ins) outs r').length = outs.length := by
        have : ∀ (outs : List RTy) (q m : Nat) (r : RDen outs), (outTm q m outs r).length = outs.length ∧ (outBx m outs r).length = outs.length := by
          intro outs
          induction outs with
          | nil => intro q m r; exact ⟨rfl, rfl⟩
          | cons x l ih => intro q m r; cases x with
            | val τ pat => simp [outTm, outBx, ih (q + 1) (m + pat.length) r.2]
            | bx τ pat => simp [outTm, outBx, ih (q + 1) (m + pat.length) r.2]
        exact this _ _ _ _
      have hst : ∀ n, (St1 ins outs r' b').box n = if n < ins.length then ((endBx 0 ins b')[n]?).bind id else ((outBx (patLenI ins) outs r')[n - ins.length]?).bind id := by
        intro n
        show ((endBx 0 ins b' ++ outBx (patLenI ins) outs r')[n]?).bind id = _
        by_cases hn : n < ins.length
        · rw [List.getElem?_append_left (by rw [endBx_len]; exact hn), if_pos hn]
        · rw [List.getElem?_append_right (by rw [endBx_len]; omega), if_neg hn, endBx_len]
      refine ⟨us, finG (G.let (lostIds pF gF)) ins nb pF gF, hU.l1, hU.l2, hU.run, ?_, fun n => ?_⟩
      · exact
        { df := rfl
          len := by
            simp only [St1, List.length_append, List.length_replicate, holen.1, Array.size_append, List.size_toArray, hvs, hU.l2]
          blen := by
            simp only [St1, List.length_append, List.length_replicate, holen.1, holen.2, endBx_len]
          tm := by
            intro i x v hx hv
            simp only [St1] at hx
            by_cases hi : i < ins.length
            · rw [List.getElem?_append_left (by simpa using hi), List.getElem?_replicate, if_pos hi] at hx
              cases hx
              trivial
            · rw [List.getElem?_append_right (by simp; omega)] at hx
              simp only [List.length_replicate] at hx
              rw [Array.getElem?_append_right (by omega), hvs] at hv
              rcases hU.tm (i - ins.length) x v hx (by simpa using hv) with ⟨τ, y, gs, pat, n, cs, rfl, rfl, e1, e2, e3, e4⟩ | ⟨b, τ, k, e1, rfl, rfl, e2⟩
              · exact ⟨cs, rfl, hrt (hkeep e1) e2 e3 e4⟩
              · refine ⟨k, τ, 0, ?_, by rw [Ty.off], rfl⟩
                have hno : ins[ins.length]? = none := List.getElem?_eq_none (Nat.le_refl _)
                simp only [finG, hno, if_true, e1, Option.bind_some]
                exact e2
          bx := by
            intro n k τ hq
            rcases hlb n _ hq with ⟨hq, τ', pat', hi⟩ | ⟨rfl, b, hb, hq⟩
            · obtain ⟨x, g0, c, e, h1, h2, h3⟩ := h.bx n k τ hq
              have hlt := (List.getElem?_eq_some_iff.1 hi).1
              rcases hbox n with ⟨_, hno⟩ | ⟨τ1, x1, gs, pat, k1, e1, e2, e3, e4, e5, e6⟩
              · exact absurd hi (hno _ _)
              · rw [Nat.zero_add, h1] at e2
                cases e2
                exact ⟨x, _, c, e, by rw [hst, if_pos hlt]; exact e3, h2, hrt (hkeep h3) e4 e5 e6⟩
            · obtain ⟨x, g0, c, e, h1, h2, h3⟩ := h.bx b k τ hq
              rcases hU.bx 0 with ⟨_, h0⟩ | ⟨_, b1, τ1, x1, gs, pat, n, g1, g2, g3, g4, g5, g6, g7⟩
              · rw [h0 rfl] at hb; cases hb
              · rw [hb] at g1
                cases g1
                rw [h1] at g3
                cases g3
                exact ⟨x, _, c, e, by rw [hst, if_neg (Nat.lt_irrefl _), Nat.sub_self]; exact g4, h2, hrt (hkeep h3) g5 g6 g7⟩
          bn := by
            intro n hq
            rw [hst]
            split
            · rcases hbox n with ⟨hno, _⟩ | ⟨τ1, x1, gs, pat, k1, e1, e2, e3, e4, e5, e6⟩
              · exact hno
              · exfalso
                simp only [finG, e1] at hq
                have hq' : G.lb n = none := hq
                rw [Nat.zero_add, h.bn n hq'] at e2
                cases e2
            · rename_i hn
              rcases hU.bx (n - ins.length) with ⟨h0, _⟩ | ⟨h0, b1, τ1, x1, gs, pat, n1, g1, g2, g3, _⟩
              · exact h0
              · exfalso
                have hn' : n = ins.length := by omega
                subst hn'
                have hno : ins[ins.length]? = none := List.getElem?_eq_none (Nat.le_refl _)
                simp only [finG, hno, if_true, g1, Option.bind_some] at hq
                have hq' : G.lb b1 = none := hq
                rw [h.bn b1 hq'] at g3
                cases g3
          lbi := by
            intro b1 b2 k τ τ' g1 g2
            obtain ⟨c1, e1, q1⟩ := hlb1 _ _ g1
            obtain ⟨c2, e2, q2⟩ := hlb1 _ _ g2
            have := h.lbi _ _ _ _ _ e1 e2
            omega
          lbm := by
            intro n k τ hq
            obtain ⟨c1, e1, q1⟩ := hlb1 _ _ hq
            obtain ⟨g1, g2, g3⟩ := h2.lbm c1 k τ e1
            refine ⟨g1, fun i m hi => ?_, g3⟩
            obtain ⟨i0, _, _, hi⟩ := hla _ _ _ hi
            exact g2 i0 m hi
          lam := by
            intro i k m hi
            obtain ⟨i0, hp, hgi, hi⟩ := hla _ _ _ hi
            obtain ⟨g1, g2, g3⟩ := h2.lam i0 k m hi
            obtain ⟨t1, t2, _⟩ := tagsOk_own hok hp hgi
            refine ⟨g1, fun _ _ => g2 ?_ t1, g3⟩
            have hnl := own_notLost hok hp hgi
            simp [t2, hnl]
          las := by
            intro i j k n m hi hj hne
            obtain ⟨i0, hp, hgi, hi⟩ := hla _ _ _ hi
            obtain ⟨j0, hp', hgj, hj⟩ := hla _ _ _ hj
            have hne0 : i0 ≠ j0 := by
              rintro rfl
              have := (tagsOk_own hok hp hgi).2.2 j _ (List.getElem?_eq_some_iff.1 hp').1 (Ne.symm hne) hgj
              exact this (by simp [tgIds])
            rcases (h.las i0 j0 k n m hi hj hne0).1 with hh | hh
            · rw [(tagsOk_own hok hp hgi).1] at hh; cases hh
            · rw [(tagsOk_own hok hp' hgj).1] at hh; cases hh
          imb := h2.imb
          him := h2.him
          hlb := by
            intro n hn
            cases hq' : (finG (G.let (lostIds pF gF)) ins nb pF gF).lb n with
            | none => exact .inl rfl
            | some q =>
              obtain ⟨c1, e1, q1⟩ := hlb1 _ _ hq'
              have hcn : c1 = n := by omega
              subst hcn
              rcases h.hlb c1 hn with hh | hh
              · rw [e1] at hh; cases hh
              · right; rw [← hh]; exact e1.symm
          hnb := by
            intro n k τ hn hq'
            obtain ⟨c1, e1, q1⟩ := hlb1 _ _ hq'
            exact h.hnb c1 k τ (by omega) e1
          fr := h.fr }
      · rcases hbox n with ⟨_, hno⟩ | ⟨τ1, x1, gs, pat, k1, e1, e2, e3, e4, e5, e6⟩
        · right
          by_cases hn : ins.length ≤ n
          · exact .inr hn
          · left
            refine ⟨?_, hno⟩
            cases hq' : (finG (G.let (lostIds pF gF)) ins nb pF gF).lb n with
            | none => rfl
            | some q => rcases hlb n q hq' with ⟨_, τ, pat, hh⟩ | ⟨hh, _⟩
                        · exact absurd hh (hno _ _)
                        · omega
        · left
          refine ⟨by simp only [finG, e1, Gh.let], fun hq => ?_, τ1, pat, e1⟩
          rw [Nat.zero_add, h.bn n hq] at e2
          cases e2
    · cases hf
  · cases hf

/-- a frame at its start -/
theorem init_inv {ins : List ATy} {y : InDen ins} {vs : Array Value} {n : Nat} (h : Inv el w0 M (St0 ins y) ⟨vs, []⟩ w G) : Inv el w0 M (St.init ins y n) ⟨vs ++ Array.replicate (n - vs.size) undef, []⟩ w G := by
  have hvs : vs.size = ins.length := by have := h.len; simpa [St0, inTm_len] using this
  exact
  { df := rfl
    len := by simp only [St.init, Array.size_append, Array.size_replicate, List.length_append, List.length_replicate, inTm_len, hvs]
    blen := by simp only [St.init, List.length_append, List.length_replicate, inTm_len, inBx_len]
    tm := by
      intro i x v hx hv
      simp only [St.init] at hx
      by_cases hi : i < ins.length
      · rw [List.getElem?_append_left (by rw [inTm_len]; exact hi)] at hx
        rw [Array.getElem?_append_left (by omega)] at hv
        exact h.tm i x v hx hv
      · rw [List.getElem?_append_right (by rw [inTm_len]; omega), List.getElem?_replicate] at hx
        rw [Array.getElem?_append_right (by omega), Array.getElem?_replicate] at hv
        split at hx
        · split at hv
          · cases hx; cases hv; rfl
          · cases hv
        · cases hx
    bx := by
      intro b k τ hq
      obtain ⟨x, g, c, e, h1, h2, h3⟩ := h.bx b k τ hq
      refine ⟨x, g, c, e, ?_, h2, h3⟩
      have h1' : ((inBx 0 ins y)[b]?).bind id = some ⟨τ, x, g⟩ := h1
      show ((inBx 0 ins y ++ List.replicate (n - ins.length) none)[b]?).bind id = _
      have hlt : b < (inBx 0 ins y).length := by
        cases hq' : (inBx 0 ins y)[b]? with
        | none => rw [hq'] at h1'; cases h1'
        | some _ => exact (List.getElem?_eq_some_iff.1 hq').1
      rw [List.getElem?_append_left hlt]
      exact h1'
    bn := by
      intro b hq
      have h1 : ((inBx 0 ins y)[b]?).bind id = none := h.bn b hq
      show ((inBx 0 ins y ++ List.replicate (n - ins.length) none)[b]?).bind id = _
      by_cases hlt : b < (inBx 0 ins y).length
      · rw [List.getElem?_append_left hlt]; exact h1
      · rw [List.getElem?_append_right (by omega), List.getElem?_replicate]
        split <;> rfl
    lbi := h.lbi
    lbm := h.lbm
    lam := h.lam
    las := h.las
    imb := h.imb
    him := h.him
    hlb := h.hlb
    hnb := h.hnb
    fr := h.fr }

theorem evF_sound (hm : P.follows .mixedOrders = true) (hK : TysOk P K) (hC : ConsOk P K) {f : FuncId} {fn : Func} (hf : P.funcs[f]? = some fn) {body : Code} (hb : fn.body = some body) {ins : List ATy} {outs : List RTy} (hd : dstOk ins.length body = true) (hs : Nat → Hint)
    {y : InDen ins} {vs : Array Value} {w : World} {M : Hx} {G : Gh} (hx : HxOk M G ins) (h : Inv K.el w M (St0 ins y) ⟨vs, []⟩ w G) {r : RDen outs} {b : BDen ins} (he : evF K hs fn ins outs y = some (r, b)) :
    Calls P f vs w fun e w' => ∃ rs G', rs.size = outs.length ∧ e = .returned (packR rs) ∧ Post K.el w M G vs ins outs r b rs w' G' := by
  have hvs : vs.size = ins.length := by have := h.len; simpa [St0, inTm_len] using this
  refine calls_of_wp hf hb ?_
  unfold evF at he
  rw [hb] at he
  simp only at he
  refine evC_sound hm hK hC hs body (by rw [hx.q]; exact hd) _ _ _ _ ?_ _ _ _ he _ w G (init_inv (n := fn.ntmps) h) _ ?_
  · intro e s R R' w g
    cases e <;> first | rfl | (simp only; cases finD K ins outs fn.results.toList s <;> rfl)
  · intro e s a w' G1 h1 hc
    have done : (finD K ins outs fn.results.toList s).bind (fun o => some (id o)) = some (r, b) → a.defers = [] ∧ ∃ v, (results fn a.tmps).run P w' = .ok v w' ∧ ∃ rs G', rs.size = outs.length ∧ Ending.returned v = .returned (packR rs) ∧ Post K.el w M G vs ins outs r b rs w' G' := by
      intro hq
      obtain ⟨q, hfin, hq⟩ := Option.bind_eq_some_iff.1 hq
      have hq : q = (r, b) := by simpa using hq
      subst hq
      obtain ⟨us, G', u1, u2, u3, hinv, hlb⟩ := fin_inv hK hx.q h1 hvs hfin
      have hbxlt : ∀ n τ pat, ins[n]? = some (.bx τ pat) → n < ins.length := fun n τ pat hn => (List.getElem?_eq_some_iff.1 hn).1
      refine ⟨h1.df, _, run_results u1 u3, us.toArray, G', by simp [u2], rfl, hinv, ?_, ?_, ?_⟩
      · intro n hn
        rcases hlb n with ⟨e1, e2, hbx⟩ | ⟨e1, e2⟩ | hh
        · rw [e1]
          rcases h1.hlb n (by rw [hx.q]; exact hn) with hh | hh
          · exact absurd hh e2
          · rw [hh]
            rcases h.hlb n (by rw [hx.q]; exact hn) with hh2 | hh2
            · exfalso
              have hb0 := h.bn n hh2
              obtain ⟨τ, pat, hbx⟩ := hbx
              have key : ∀ (ins : List ATy) (m n : Nat) (y : InDen ins) (τ : Ty) (pat : List Bool), ins[n]? = some (.bx τ pat) → ((inBx m ins y)[n]?).bind id ≠ none := by
                intro ins
                induction ins with
                | nil => intro m n y τ pat hh; simp at hh
                | cons x l ih =>
                  intro m n y τ pat hh
                  cases n with
                  | zero => simp at hh; subst hh; simp [inBx]
                  | succ n => cases x with
                    | val _ => exact ih m n y.2 τ pat (by simpa using hh)
                    | bx _ p => exact ih (m + p.length) n y.2 τ pat (by simpa using hh)
                    | fn _ => exact ih m n y τ pat (by simpa using hh)
              exact key ins 0 n y τ pat hbx hb0
            · exact hh2.symm
        · rw [e1]
          symm
          cases hq : G.lb n with
          | none => rfl
          | some p =>
            exfalso
            obtain ⟨x, g, c, e, g1, _⟩ := h.bx n p.1 p.2 hq
            have key : ∀ (ins : List ATy) (m n : Nat) (y : InDen ins), (∀ τ pat, ins[n]? ≠ some (.bx τ pat)) → ((inBx m ins y)[n]?).bind id = none := by
              intro ins
              induction ins with
              | nil => intro m n y hh; simp [inBx]
              | cons x l ih =>
                intro m n y hh
                cases n with
                | zero => cases x with
                  | val _ => simp [inBx]
                  | bx τ p => exact absurd (by simp) (hh τ p)
                  | fn _ => simp [inBx]
                | succ n => cases x with
                  | val _ => exact ih m n y.2 (by simpa using hh)
                  | bx _ p => exact ih (m + p.length) n y.2 (by simpa using hh)
                  | fn _ => exact ih m n y (by simpa using hh)
            have := key ins 0 n y e2
            have g1' : ((inBx 0 ins y)[n]?).bind id = some ⟨p.2, x, g⟩ := g1
            rw [this] at g1'
            cases g1'
        · omega
      · intro n k τ hn hq
        exact hinv.hnb n k τ (by rw [hx.q]; exact hn) hq
      · intro k hk
        rcases hinv.him k hk with hh | hh | hh
        · exact .inl (hx.i0 k hh)
        · exact .inr (.inl hh)
        · rcases hx.m k hh with ⟨n, τ, hq⟩ | hq
          · exfalso
            obtain ⟨x, g, c, e, g1, _⟩ := h.bx n k τ hq
            have key : ∀ (ins : List ATy) (m n : Nat) (y : InDen ins), ((inBx m ins y)[n]?).bind id ≠ none → ∃ τ pat, ins[n]? = some (.bx τ pat) := by
              intro ins
              induction ins with
              | nil => intro m n y hh; simp [inBx] at hh
              | cons x l ih =>
                intro m n y hh
                cases n with
                | zero => cases x with
                  | val _ => simp [inBx] at hh
                  | bx τ p => exact ⟨τ, p, by simp⟩
                  | fn _ => simp [inBx] at hh
                | succ n => cases x with
                  | val _ => simpa using ih m n y.2 hh
                  | bx _ p => simpa using ih (m + p.length) n y.2 hh
                  | fn _ => simpa using ih m n y hh
            obtain ⟨τ', pat, hbx⟩ := key ins 0 n y (by
              have g1' : ((inBx 0 ins y)[n]?).bind id = some ⟨τ, x, g⟩ := g1
              rw [g1']; simp)
            rcases hlb n with ⟨e1, e2, _⟩ | ⟨_, e2⟩ | e2
            · rcases h1.hlb n (by rw [hx.q]; exact hbxlt _ _ _ hbx) with hh1 | hh1
              · exact e2 hh1
              · rcases h.hlb n (by rw [hx.q]; exact hbxlt _ _ _ hbx) with hh2 | hh2
                · rw [hq] at hh2; cases hh2
                · rw [hq] at hh2
                  have : G'.lb n = some (k, τ) := by rw [e1, hh1, ← hh2]
                  exact (hinv.lbm n k τ this).1 hk
            · exact e2 _ _ hbx
            · have := hbxlt _ _ _ hbx; omega
          · exact .inr (.inr hq)
    cases e with
    | normal => exact done hc
    | ret => exact done hc
    | exit i => cases hc
    | goto l => cases hc
    | panic c => cases hc
    | outgrown => cases hc

end
end Go.Proofs.Ytlehbecajmjgkaa.V
