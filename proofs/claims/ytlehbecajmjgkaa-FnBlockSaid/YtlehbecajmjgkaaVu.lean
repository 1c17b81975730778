/- Part of a proof by a value interpreter: calls, the end. -/
import Derived.Test.YtlehbecajmjgkaaVt
set_option linter.unusedVariables false
set_option linter.unusedSimpArgs false
namespace Go.Proofs.Ytlehbecajmjgkaa.V

section
variable {P : Program} {K : Cfg} {w0 : World} {M : Hx} {o : Oper} {i : Nat} {s : St} {a : Act} {w w' : World} {G : Gh} {u : U}

/-- the box that a call makes -/
def newB (outs : List RTy) (dst : Option Tmp) (n : Nat) : Option Nat :=
  match outs, dst with
  | [.bx _ _], some d => if d < n then some d else none
  | _, _ => none

section
variable {ins : List ATy} {outs : List RTy} {bxs lent : List Nat} {vs : Array Value} {r : RDen outs} {b : BDen ins} {rs : Array Value} {G1 : Gh} {pure : Bool} {n0 : Nat} {nb : Option Nat}

theorem Came.keeps (h : Inv K.el w0 M s a w G) (c : Came K.el w G ins outs bxs lent vs r b rs w' G1) (hf : ∀ id, n0 ≤ id → id < n0 + patLen outs → G.la id = none) (hnb : ∀ d, nb = some d → G.lb d = none) :
    Keeps w G w' (afterG G G1 w.heap.size n0 (patLenI ins) (patLen outs) pure lent nb ins.length) K.el := by
  refine keeps_of (fun k hk => ⟨c.kept k (h.imb k hk) (fun b' _ τ hq => (h.lbm _ _ _ hq).1 hk), .inl hk⟩) (fun id q hq => ?_) (fun id g n hq => ⟨?_, c.kept g (h.lam _ _ _ hq).1 (fun b' _ τ hb => (h.lbm _ _ _ hb).2.1 id n hq)⟩) (fun b' k τ hq => ?_)
  · show (if n0 ≤ id ∧ id < n0 + patLen outs then _ else _) = _
    split
    · rename_i hh; rw [hf id hh.1 hh.2] at hq; cases hq
    · exact hq
  · show (if g < w.heap.size then _ else _) = _
    rw [if_pos (h.lam _ _ _ hq).1]
  · show (if nb = some b' then _ else _) = _
    split
    · rename_i hh; rw [hnb b' hh] at hq; cases hq
    · exact hq

/-- a value of the callee's, in the caller's names -/
theorem Came.value (c : Came K.el w G ins outs bxs lent vs r b rs w' G1) {τ : Ty} {x : τ.den} {pat : List Bool} {m : Nat} {cs : List Value} (hm : m + pat.length ≤ patLen outs) (hd : pure = true → pat.all id = true ∧ τ.deep = false)
    (hr : RepT w' G1 K.el τ x (newIds (patLenI ins + m) pat) cs) : RepT w' (afterG G G1 w.heap.size n0 (patLenI ins) (patLen outs) pure lent nb ins.length) K.el τ x (newIds (n0 + m) pat) cs := by
  rw [← newIds_map n0 (patLenI ins) pat m]
  have him : pure = false → ∀ k, G1.im k → (afterG G G1 w.heap.size n0 (patLenI ins) (patLen outs) pure lent nb ins.length).im k := by
    intro hp k hk
    rcases c.im k hk with (hq | hq) | hq
    · exact .inl hq
    · exact .inr (.inl ⟨hp, hq⟩)
    · exact .inr (.inr ⟨hk, hq⟩)
  refine hr.turn pure (reTg n0 (patLenI ins)) him (fun hp => (hd hp).2) (fun t xs tg v hmem ht hs => ?_)
  rcases mem_newIds hmem with ⟨rfl, hf⟩ | ⟨j, rfl, h1, h2⟩
  · cases hp : pure with
    | true =>
      have := (hd hp).1
      rw [List.all_eq_true] at this
      exact absurd (this false hf) (by simp)
    | false =>
      subst hp
      exact RepIm.mono (fun _ _ => rfl) (him rfl) hs
  · refine OwnAt.turn (id := j) ?_ ?_ ?_ hs
    · show (if n0 ≤ n0 + (j - patLenI ins) ∧ n0 + (j - patLenI ins) < n0 + patLen outs then _ else _) = _
      rw [if_pos ⟨by omega, by omega⟩]
      congr 1
      omega
    · intro k n hq
      show (if k < w.heap.size then _ else _) = _
      rw [if_neg (by have := (c.own j k n hq).1; omega)]
    · cases hp : pure with
      | true => exact .inl (ht hp)
      | false => subst hp; exact .inr (him rfl)

theorem Came.box (c : Came K.el w G ins outs bxs lent vs r b rs w' G1) {τ : Ty} {x : τ.den} {pat : List Bool} {cs : List Value} (hd : pure = true → pat = [] ∧ τ.deep = false)
    (hr : RepT w' G1 K.el τ x (List.replicate pat.length .im) cs) : RepT w' (afterG G G1 w.heap.size n0 (patLenI ins) (patLen outs) pure lent nb ins.length) K.el τ x (List.replicate pat.length .im) cs := by
  have him : pure = false → ∀ k, G1.im k → (afterG G G1 w.heap.size n0 (patLenI ins) (patLen outs) pure lent nb ins.length).im k := by
    intro hp k hk
    rcases c.im k hk with (hq | hq) | hq
    · exact .inl hq
    · exact .inr (.inl ⟨hp, hq⟩)
    · exact .inr (.inr ⟨hk, hq⟩)
  have e : (List.replicate pat.length Tg.im).map id = List.replicate pat.length .im := by simp
  rw [← e]
  refine hr.turn pure id him (fun hp => (hd hp).2) (fun t xs tg v hmem ht hs => ?_)
  cases hp : pure with
  | true => rw [(hd hp).1] at hmem; simp at hmem
  | false =>
    subst hp
    rw [List.eq_of_mem_replicate hmem] at hs ⊢
    exact RepIm.mono (fun _ _ => rfl) (him rfl) hs

end

theorem outVals_noBx (dst : Nat) : (outs : List RTy) → (r : RDen outs) → (n : Nat) → (outs.all fun | .val _ _ => true | .bx _ _ => false) = true → (outVals dst outs r n).2.1 = []
  | [], _, _, _ => rfl
  | .val τ pat :: rs, r, n, h => by
    simp only [outVals]
    exact outVals_noBx dst rs r.2 (n + pat.length) (by simpa using h)
  | .bx _ _ :: _, _, _, h => by simp at h

theorem simple_cases {outs : List RTy} (h : RTy.simple outs = true) : (outs.all fun | .val _ _ => true | .bx _ _ => false) = true ∨ ∃ τ pat, outs = [.bx τ pat] := by
  match outs, h with
  | [], _ => exact .inl rfl
  | [.val _ _], _ => exact .inl rfl
  | [.bx τ pat], _ => exact .inr ⟨τ, pat, rfl⟩
  | x :: y :: r, h => exact .inl h

/-- the box that a call makes: where it is told -/
structure NewB (outs : List RTy) (r : RDen outs) (dst : Option Tmp) (bx : Nat → Option D) (len n0 p1 : Nat) : Prop where
  keys : ∀ b d, (b, d) ∈ (outVals (dst.getD 0) outs r n0).2.1 → dst = some b ∧ bx b = none
  nd : ((outVals (dst.getD 0) outs r n0).2.1.map (·.1)).Nodup
  one : ∀ d, newB outs dst len = some d → dst = some d ∧ d < len ∧ bx d = none ∧ ∃ τ x pat, (.bx τ pat) ∈ outs ∧ pat.length ≤ patLen outs ∧ (d, ⟨τ, x, newIds n0 pat⟩) ∈ (outVals (dst.getD 0) outs r n0).2.1 ∧
    ((outBx p1 outs r)[0]?).bind id = some ⟨τ, x, newIds p1 pat⟩
  in_ : ∀ b d, (b, d) ∈ (outVals (dst.getD 0) outs r n0).2.1 → b < len → newB outs dst len = some b

theorem newB_spec {outs : List RTy} (hsim : RTy.simple outs = true) (r : RDen outs) {dst : Option Tmp} {bx : Nat → Option D} (hnb : newBox outs dst bx = true) (len n0 p1 : Nat) : NewB outs r dst bx len n0 p1 := by
  rcases simple_cases hsim with hv | ⟨τ, pat, rfl⟩
  · have e := outVals_noBx (dst.getD 0) outs r n0 hv
    have hn : newB outs dst len = none := by
      unfold newB
      split
      · simp at hv
      · rfl
    exact ⟨fun b d h => by rw [e] at h; simp at h, by rw [e]; exact List.nodup_nil, fun d h => (by rw [hn] at h; cases h), fun b d h => by rw [e] at h; simp at h⟩
  · cases dst with
    | none => simp [newBox] at hnb
    | some d0 =>
      have hb : bx d0 = none := by simpa [newBox] using hnb
      refine ⟨fun b d h => ?_, by simp [outVals], fun d h => ?_, fun b d h hl => ?_⟩
      · simp [outVals] at h
        exact ⟨by rw [h.1], by rw [h.1]; exact hb⟩
      · simp only [newB] at h
        split at h
        · rename_i hlt
          cases h
          exact ⟨rfl, hlt, hb, τ, r.1, pat, by simp, by simp [patLen], by simp [outVals], by simp [outBx]⟩
        · cases h
      · simp [outVals] at h
        rw [h.1] at hl ⊢
        simp [newB, hl]

/-- behind a call -/
theorem call_post (hqd : ∀ d, o.dst = some d → M.q ≤ d) (h : Inv K.el w0 M s a w G) (hf : Free s G i) {ins : List ATy} {outs : List RTy} {l : List W} {vs : List Value} {y : Args ins} (hy : argsOf s.box s.mv s.fz ins l = some y) (hl : l.length = vs.length) (hno : ins.all ATy.noOwn = true)
    (hr : ∀ (j : Nat) (x : W) (v : Value), l[j]? = some x → vs[j]? = some v → RepW w G K.el x v) {r : RDen outs} {b : BDen ins} {rs : Array Value} {G1 : Gh} {pure : Bool} (hrs : rs.size = outs.length)
    (hpure : pure = true → outs.all RTy.pure = true ∧ ins.all ATy.pure = true) (hmv : pure = true ∨ y.lent.any s.mv = false) (h64 : patLen outs + patLenI ins ≤ 64) (hsim : RTy.simple outs = true) (hnb : newBox outs o.dst s.box = true)
    (c : Came K.el w G ins outs y.bxs y.lent vs.toArray r b rs w' G1) :
    ∃ G', Inv K.el w0 M (s.app o.dst { v := oneOrTup (outVals (o.dst.getD 0) outs r (s.base + 64 * i)).1, wb := (outVals (o.dst.getD 0) outs r (s.base + 64 * i)).2.1 ++ outBoxes ins b y.bxs (outVals (o.dst.getD 0) outs r (s.base + 64 * i)).2.2, mvs := [], fzs := if pure then [] else y.lent, rb := y.bxs, rf := [] }) (a.put o.dst (packR rs)) w' G' ∧
      ∀ id, G'.la id ≠ none → G.la id ≠ none ∨ (s.base + 64 * i ≤ id ∧ id < s.base + 64 * (i + 1)) := by
  have hid : ∀ id, s.base + 64 * i ≤ id → id < s.base + 64 * i + patLen outs → G.la id = none := fun id h1 h2 => hf id h1 (by omega)
  have hbxn : ∀ d, s.box d = none → G.lb d = none := by
    intro d hd
    cases hq : G.lb d with
    | none => rfl
    | some p => obtain ⟨x, g, c', e, h1, _⟩ := h.bx d p.1 p.2 hq; rw [hd] at h1; cases h1
  have hN := newB_spec hsim r hnb s.bx.length (s.base + 64 * i) (patLenI ins)
  have hcnt := argsOf_cnt ins l y hy
  have hk := c.keeps (pure := pure) (nb := newB outs o.dst s.bx.length) h hid (fun d hd => hbxn d (hN.one d hd).2.2.1)
  obtain ⟨hovl, hovn⟩ := outVals_len (o.dst.getD 0) outs r (s.base + 64 * i)
  have hAx := (call_pre h hy hno hl hr).2
  have hbs : ∀ b' ∈ y.bxs, ∃ p, G.lb b' = some p := hAx.bx
  have hsurj := posBox_surj ins y.bxs hcnt
  have hkeys := outBoxes_keys ins b y.bxs (outVals (o.dst.getD 0) outs r (s.base + 64 * i)).2.2 hcnt
  have hndk : (((outVals (o.dst.getD 0) outs r (s.base + 64 * i)).2.1 ++ outBoxes ins b y.bxs (outVals (o.dst.getD 0) outs r (s.base + 64 * i)).2.2).map (·.1)).Nodup := by
    rw [List.map_append, hkeys, List.nodup_append]
    refine ⟨hN.nd, hAx.nd, fun b1 hb1 b2 hb2 e => ?_⟩
    subst e
    obtain ⟨⟨b', d⟩, hm, rfl⟩ := List.mem_map.1 hb1
    obtain ⟨p, hp⟩ := hbs _ hb2
    rw [hbxn _ (hN.keys _ _ hm).2] at hp
    cases hp
  have hblt : ∀ b' p, G.lb b' = some p → b' < s.bx.length := by
    intro b' p hq
    obtain ⟨x, g, c', e, h1, _⟩ := h.bx b' p.1 p.2 hq
    unfold St.box at h1
    cases hq' : s.bx[b']? with
    | none => rw [hq'] at h1; cases h1
    | some _ => exact (List.getElem?_eq_some_iff.1 hq').1
  refine ⟨afterG G G1 w.heap.size (s.base + 64 * i) (patLenI ins) (patLen outs) pure y.lent (newB outs o.dst s.bx.length) ins.length, ?_, fun id hq => ?_⟩
  · have hlb : ∀ b' k τ, (afterG G G1 w.heap.size (s.base + 64 * i) (patLenI ins) (patLen outs) pure y.lent (newB outs o.dst s.bx.length) ins.length).lb b' = some (k, τ) →
        (newB outs o.dst s.bx.length = some b' ∧ G1.lb ins.length = some (k, τ)) ∨ (newB outs o.dst s.bx.length ≠ some b' ∧ G.lb b' = some (k, τ)) := by
      intro b' k τ hq
      change (if newB outs o.dst s.bx.length = some b' then _ else _) = _ at hq
      split at hq
      · rename_i hh; exact .inl ⟨hh, hq⟩
      · rename_i hh; exact .inr ⟨hh, hq⟩
    have hla : ∀ id k m, (afterG G G1 w.heap.size (s.base + 64 * i) (patLenI ins) (patLen outs) pure y.lent (newB outs o.dst s.bx.length) ins.length).la id = some (some (k, m)) →
        (s.base + 64 * i ≤ id ∧ id < s.base + 64 * i + patLen outs ∧ G1.la (patLenI ins + (id - (s.base + 64 * i))) = some (some (k, m))) ∨ (¬ (s.base + 64 * i ≤ id ∧ id < s.base + 64 * i + patLen outs) ∧ G.la id = some (some (k, m))) := by
      intro id k m hq
      change (if s.base + 64 * i ≤ id ∧ id < s.base + 64 * i + patLen outs then _ else _) = _ at hq
      split at hq
      · rename_i hh; exact .inl ⟨hh.1, hh.2, hq⟩
      · rename_i hh; exact .inr ⟨hh, hq⟩
    have holdb : ∀ b' k τ, G.lb b' = some (k, τ) → k < w.heap.size := by
      intro b' k τ hq
      obtain ⟨_, _, _, _, _, h2, _⟩ := h.bx b' k τ hq
      exact (Array.getElem?_eq_some_iff.1 h2).1
    have hsizes : w.heap.size ≤ w'.heap.size := c.inv.fr.size
    have hM : ∀ k, (lentM G ins y.lent y.bxs).m k → ∃ b' τ, b' ∈ y.bxs ∧ G.lb b' = some (k, τ) := fun k ⟨b', h1, τ, h2⟩ => ⟨b', τ, h1, h2⟩
    have hmvs : ∀ id, (s.mv id || ([] : List Nat).contains id) = s.mv id := by simp
    have hres : RepW w' (afterG G G1 w.heap.size (s.base + 64 * i) (patLenI ins) (patLen outs) pure y.lent (newB outs o.dst s.bx.length) ins.length) K.el (oneOrTup (outVals (o.dst.getD 0) outs r (s.base + 64 * i)).1) (packR rs) ∨
        ∀ d, o.dst = some d → ¬ d < s.bx.length := by
      by_cases hd : ∃ d, o.dst = some d ∧ ¬ d < s.bx.length
      · obtain ⟨d, hd1, hd2⟩ := hd
        exact .inr (fun d' hd' => by rw [hd1] at hd'; cases hd'; exact hd2)
      · left
        have key : ∀ (j : Nat) (v : V) (x : Value), (outVals (o.dst.getD 0) outs r (s.base + 64 * i)).1[j]? = some v → rs[j]? = some x →
            RepV w' (afterG G G1 w.heap.size (s.base + 64 * i) (patLenI ins) (patLen outs) pure y.lent (newB outs o.dst s.bx.length) ins.length) K.el v x := by
          intro j v x hv hx
          have hvx : (vs.toArray ++ rs)[ins.length + j]? = some x := by
            rw [Array.getElem?_append_right (by rw [c.vlen]; omega), c.vlen, Nat.add_sub_cancel_left]
            exact hx
          have htm : ∀ z, (outTm ins.length (patLenI ins) outs r)[j]? = some z → RepW w' G1 K.el z x := by
            intro z hz
            refine c.inv.tm (ins.length + j) z x ?_ hvx
            show (List.replicate ins.length (W.one .top) ++ outTm ins.length (patLenI ins) outs r)[ins.length + j]? = some z
            rw [List.getElem?_append_right (by simp)]
            simpa using hz
          rcases outVals_spec (o.dst.getD 0) outs r (s.base + 64 * i) (patLenI ins) ins.length j v hv with ⟨τ, z, pat, m, k1, rfl, k3, k4⟩ | ⟨τ, pat, k1, rfl, k3⟩
          · obtain ⟨cs, hcs, hrep⟩ := htm _ k3
            refine ⟨cs, hcs, c.value k4 (fun hp => ?_) hrep⟩
            have := List.all_eq_true.1 (hpure hp).1 _ k1
            simpa [RTy.pure] using this
          · obtain ⟨k, τb, n, g1, g2, g3⟩ := htm _ k3
            rcases simple_cases hsim with hv' | ⟨τ', pat', rfl⟩
            · have := List.all_eq_true.1 hv' _ k1
              simp at this
            · have hj : j = 0 := by
                have := (List.getElem?_eq_some_iff.1 hv).1
                rw [hovl] at this
                simpa using this
              subst hj
              cases ho : o.dst with
              | none => rw [ho] at hnb; simp [newBox] at hnb
              | some d =>
                have hlt : d < s.bx.length := by
                  by_cases hh : d < s.bx.length
                  · exact hh
                  · exact absurd ⟨d, ho, hh⟩ hd
                refine ⟨k, τb, n, ?_, g2, g3⟩
                have e : newB [RTy.bx τ' pat'] (some d) s.bx.length = some d := by simp [newB, hlt]
                show (if newB [RTy.bx τ' pat'] (some d) s.bx.length = some d then _ else _) = _
                rw [if_pos e]
                exact g1
        unfold oneOrTup packR
        split
        · rename_i v hv
          have h1 : rs.size = 1 := by
            have := congrArg List.length hv
            rw [hovl] at this
            simpa [hrs] using this
          rw [dif_pos h1]
          exact key 0 v _ (by rw [hv]; rfl) (by simp [h1])
        · rename_i hne
          have h1 : rs.size ≠ 1 := by
            intro h1
            rw [hrs, ← hovl] at h1
            obtain ⟨v, hv⟩ := List.length_eq_one_iff.1 h1
            exact hne v hv
          rw [dif_neg h1]
          exact ⟨rs, rfl, by rw [hrs, hovl], fun j v x hv hx => key j v x hv hx⟩
    exact
    { df := by cases ho : o.dst <;> simp [Act.put, h.df]
      len := by
        have := h.len
        cases ho : o.dst <;> simp [Act.put, St.app, this]
      blen := by
        have := h.blen
        cases ho : o.dst <;> simp [St.app, this, setBoxes_len]
      tm := by
        intro j x v h1 h2
        cases ho : o.dst with
        | none =>
          have hk' := hk
          rw [ho] at h1 h2 hk'
          exact hk'.rw' (h.tm j x v h1 h2)
        | some d =>
          have hk' := hk
          rw [ho] at hk'
          rw [ho] at h1 h2
          simp only [St.app, Act.put] at h1 h2
          rw [List.getElem?_set] at h1
          rw [Array.getElem?_setIfInBounds] at h2
          by_cases hdj : d = j
          · subst hdj
            simp only [if_true] at h1 h2
            split at h1
            · rename_i hlt
              split at h2
              · cases h1; cases h2
                rcases hres with hres | hres
                · rw [ho] at hres; exact hres
                · exact absurd (by rw [h.blen]; exact hlt) (hres d ho)
              · cases h2
            · cases h1
          · simp only [hdj, if_false] at h1 h2
            exact hk'.rw' (h.tm j x v h1 h2)
      bx := by
        intro b' k τ hq
        have hbox : ∀ b' d, (b', d) ∈ (outVals (o.dst.getD 0) outs r (s.base + 64 * i)).2.1 ++ outBoxes ins b y.bxs (outVals (o.dst.getD 0) outs r (s.base + 64 * i)).2.2 → b' < s.bx.length →
            (((setBoxes s.bx ((outVals (o.dst.getD 0) outs r (s.base + 64 * i)).2.1 ++ outBoxes ins b y.bxs (outVals (o.dst.getD 0) outs r (s.base + 64 * i)).2.2))[b']?).bind id) = some d := by
          intro b' d hm hl'
          rw [setBoxes_mem _ s.bx b' d hndk hm hl']
          rfl
        show ∃ x g c e, (((setBoxes s.bx ((outVals (o.dst.getD 0) outs r (s.base + 64 * i)).2.1 ++ outBoxes ins b y.bxs (outVals (o.dst.getD 0) outs r (s.base + 64 * i)).2.2))[b']?).bind id) = some ⟨τ, x, g⟩ ∧ _
        rcases hlb _ _ _ hq with ⟨e1, g1⟩ | ⟨e1, g1⟩
        · obtain ⟨_, hlt, _, τ', x, pat, hin, hple, hmem, hout⟩ := hN.one b' e1
          obtain ⟨x', g, cc, e, k1, k2, k3⟩ := c.inv.bx _ _ _ g1
          have hst : (St1 ins outs r b).box ins.length = ((outBx (patLenI ins) outs r)[0]?).bind id := by
            show ((endBx 0 ins b ++ outBx (patLenI ins) outs r)[ins.length]?).bind id = _
            rw [List.getElem?_append_right (by rw [endBx_len]; exact Nat.le_refl _), endBx_len, Nat.sub_self]
          rw [hst, hout] at k1
          cases k1
          refine ⟨_, newIds (s.base + 64 * i) pat, cc, e, hbox _ _ (List.mem_append_left _ hmem) hlt, k2, ?_⟩
          exact c.value (m := 0) (by omega) (fun hp => by
            have := List.all_eq_true.1 (hpure hp).1 _ hin
            simpa [RTy.pure] using this) k3
        · by_cases hin : b' ∈ y.bxs
          · obtain ⟨n, hn⟩ := hsurj b' hin
            have hl1 := c.lb n b' hn
            rw [g1] at hl1
            obtain ⟨x', g, cc, e, k1, k2, k3⟩ := c.inv.bx _ _ _ hl1
            obtain ⟨τ', z, pat, m1, m2, m3⟩ := outBoxes_spec ins b y.bxs (outVals (o.dst.getD 0) outs r (s.base + 64 * i)).2.2 0 hno n b' hn
            have hst : (St1 ins outs r b).box n = ((endBx 0 ins b)[n]?).bind id := by
              show ((endBx 0 ins b ++ outBx (patLenI ins) outs r)[n]?).bind id = _
              rw [List.getElem?_append_left (by rw [endBx_len]; exact (posBox_mem hn).2)]
            rw [hst, m2] at k1
            cases k1
            refine ⟨_, List.replicate pat.length .im, cc, e, hbox _ _ (List.mem_append_right _ m3) (hblt _ _ g1), k2, c.box (fun hp => ?_) k3⟩
            have q1 := List.all_eq_true.1 (hpure hp).2 _ m1
            have q2 := List.all_eq_true.1 hno _ m1
            simp only [ATy.pure, ATy.noOwn, Bool.and_eq_true, Bool.not_eq_true'] at q1 q2
            refine ⟨?_, q1.2⟩
            cases pat with
            | nil => rfl
            | cons p _ => cases p <;> simp at q1 q2
          · obtain ⟨x', g, cc, e, k1, k2, k3⟩ := h.bx _ _ _ g1
            refine ⟨x', g, cc, e, ?_, (c.kept k (holdb _ _ _ g1) (fun b2 hb2 τ2 hq2 => hin ?_)).trans k2, hk.rt k3⟩
            · rw [setBoxes_other]
              · exact k1
              · intro d hm
                rcases List.mem_append.1 hm with hm | hm
                · have := (hN.keys _ _ hm).2
                  rw [this] at k1; cases k1
                · exact hin (by rw [← hkeys]; exact List.mem_map.2 ⟨_, hm, rfl⟩)
            · rw [h.lbi _ _ _ _ _ g1 hq2]; exact hb2
      bn := by
        intro b' hq
        show (((setBoxes s.bx ((outVals (o.dst.getD 0) outs r (s.base + 64 * i)).2.1 ++ outBoxes ins b y.bxs (outVals (o.dst.getD 0) outs r (s.base + 64 * i)).2.2))[b']?).bind id) = none
        change (if newB outs o.dst s.bx.length = some b' then _ else _) = _ at hq
        split at hq
        · rename_i hh
          obtain ⟨_, hlt, _, τ', x, pat, hin, hple, hmem, hout⟩ := hN.one b' hh
          have hst : (St1 ins outs r b).box ins.length = ((outBx (patLenI ins) outs r)[0]?).bind id := by
            show ((endBx 0 ins b ++ outBx (patLenI ins) outs r)[ins.length]?).bind id = _
            rw [List.getElem?_append_right (by rw [endBx_len]; exact Nat.le_refl _), endBx_len, Nat.sub_self]
          have := c.inv.bn _ hq
          rw [hst, hout] at this
          cases this
        · rename_i hh
          by_cases hlt : b' < s.bx.length
          · rw [setBoxes_other]
            · exact h.bn b' hq
            · intro d hm
              rcases List.mem_append.1 hm with hm | hm
              · exact hh (hN.in_ _ _ hm hlt)
              · have : b' ∈ y.bxs := by rw [← hkeys]; exact List.mem_map.2 ⟨_, hm, rfl⟩
                obtain ⟨p, hp⟩ := hbs _ this
                rw [hq] at hp; cases hp
          · rw [List.getElem?_eq_none (by rw [setBoxes_len]; omega)]
            rfl
      lbi := by
        intro b1 b2 k τ1 τ2 h1 h2
        rcases hlb _ _ _ h1 with ⟨e1, g1⟩ | ⟨e1, g1⟩ <;> rcases hlb _ _ _ h2 with ⟨e2, g2⟩ | ⟨e2, g2⟩
        · rw [e1] at e2; exact Option.some.inj e2
        · have := c.nb _ _ _ (Nat.le_refl _) g1
          have := holdb _ _ _ g2
          omega
        · have := c.nb _ _ _ (Nat.le_refl _) g2
          have := holdb _ _ _ g1
          omega
        · exact h.lbi _ _ _ _ _ g1 g2
      lbm := by
        intro b' k τ hq
        rcases hlb _ _ _ hq with ⟨e1, g1⟩ | ⟨e1, g1⟩
        · have hfresh := c.nb _ _ _ (Nat.le_refl _) g1
          obtain ⟨m1, m2, _⟩ := c.inv.lbm _ _ _ g1
          refine ⟨fun hi => ?_, fun id n hi => ?_, .inl (Nat.le_trans h.fr.size hfresh)⟩
          · rcases hi with hi | ⟨_, j, _, m, hi⟩ | ⟨hi, _⟩
            · have := h.imb _ hi; omega
            · have := (h.lam _ _ _ hi).1; omega
            · exact m1 hi
          · rcases hla _ _ _ hi with ⟨_, _, hi⟩ | ⟨_, hi⟩
            · exact m2 _ _ hi
            · have := (h.lam _ _ _ hi).1; omega
        · have hlt := holdb _ _ _ g1
          refine ⟨fun hi => ?_, fun id n hi => ?_, (h.lbm _ _ _ g1).2.2⟩
          · rcases hi with hi | ⟨_, j, _, m, hi⟩ | ⟨_, hi⟩
            · exact (h.lbm _ _ _ g1).1 hi
            · exact (h.lbm _ _ _ g1).2.1 _ _ hi
            · omega
          · rcases hla _ _ _ hi with ⟨_, _, hi⟩ | ⟨_, hi⟩
            · have := (c.own _ _ _ hi).1; omega
            · exact (h.lbm _ _ _ g1).2.1 _ _ hi
      lam := by
        intro id k n hq
        have hfz : (s.app o.dst { v := oneOrTup (outVals (o.dst.getD 0) outs r (s.base + 64 * i)).1, wb := (outVals (o.dst.getD 0) outs r (s.base + 64 * i)).2.1 ++ outBoxes ins b y.bxs (outVals (o.dst.getD 0) outs r (s.base + 64 * i)).2.2, mvs := [], fzs := if pure then [] else y.lent, rb := y.bxs, rf := [] }).fz id = (s.fz id || (if pure then [] else y.lent).contains id) := by rfl
        have hmvq : (s.app o.dst { v := oneOrTup (outVals (o.dst.getD 0) outs r (s.base + 64 * i)).1, wb := (outVals (o.dst.getD 0) outs r (s.base + 64 * i)).2.1 ++ outBoxes ins b y.bxs (outVals (o.dst.getD 0) outs r (s.base + 64 * i)).2.2, mvs := [], fzs := if pure then [] else y.lent, rb := y.bxs, rf := [] }).mv id = s.mv id := hmvs id
        rw [hfz, hmvq]
        rcases hla _ _ _ hq with ⟨_, _, hi⟩ | ⟨_, hi⟩
        · obtain ⟨g1, g2, g3, _⟩ := c.own _ _ _ hi
          refine ⟨g2, fun _ _ hi' => ?_, .inl (Nat.le_trans h.fr.size g1)⟩
          rcases hi' with hi' | ⟨_, j, _, m, hi'⟩ | ⟨hi', _⟩
          · have := h.imb _ hi'; omega
          · have := (h.lam _ _ _ hi').1; omega
          · exact g3 hi'
        · obtain ⟨g1, g2, g3⟩ := h.lam _ _ _ hi
          refine ⟨by omega, fun e1 e2 hi' => ?_, g3⟩
          simp only [Bool.or_eq_false_iff] at e1
          rcases hi' with hi' | ⟨hp, j, hj, m, hi'⟩ | ⟨_, hi'⟩
          · exact g2 e1.1 e2 hi'
          · subst hp
            have hne : id ≠ j := by
              rintro rfl
              have : y.lent.contains id = true := by simpa using hj
              simp [this] at e1
              exact absurd hj e1.2
            have hmvj : s.mv j = false := by
              rcases hmv with hh | hh
              · cases hh
              · have := List.any_eq_false.1 hh j hj
                simpa using this
            rcases (h.las id j k n m hi hi' hne).1 with hh | hh
            · rw [e2] at hh; cases hh
            · rw [hmvj] at hh; cases hh
          · omega
      las := by
        intro j1 j2 k m1 m2 h1 h2 hne
        have hmvq : ∀ id, (s.app o.dst { v := oneOrTup (outVals (o.dst.getD 0) outs r (s.base + 64 * i)).1, wb := (outVals (o.dst.getD 0) outs r (s.base + 64 * i)).2.1 ++ outBoxes ins b y.bxs (outVals (o.dst.getD 0) outs r (s.base + 64 * i)).2.2, mvs := [], fzs := if pure then [] else y.lent, rb := y.bxs, rf := [] }).mv id = s.mv id := hmvs
        rw [hmvq, hmvq]
        rcases hla _ _ _ h1 with ⟨a1, a2, g1⟩ | ⟨_, g1⟩ <;> rcases hla _ _ _ h2 with ⟨b1, b2, g2⟩ | ⟨_, g2⟩
        · exact absurd g2 ((c.own _ _ _ g1).2.2.2 _ _ (by omega))
        · have := (c.own _ _ _ g1).1
          have := (h.lam _ _ _ g2).1
          omega
        · have := (c.own _ _ _ g2).1
          have := (h.lam _ _ _ g1).1
          omega
        · exact h.las _ _ _ _ _ g1 g2 hne
      imb := by
        intro k hk'
        rcases hk' with hk' | ⟨_, j, _, m, hk'⟩ | ⟨hk', _⟩
        · have := h.imb _ hk'; omega
        · have := (h.lam _ _ _ hk').1; omega
        · exact c.inv.imb _ hk'
      him := by
        intro k hk'
        rcases hk' with hk' | ⟨_, j, _, m, hk'⟩ | ⟨_, hk'⟩
        · exact h.him k hk'
        · exact .inr (h.lam _ _ _ hk').2.2
        · exact .inr (.inl (Nat.le_trans h.fr.size hk'))
      hlb := by
        intro b' hb'
        have hne : newB outs o.dst s.bx.length ≠ some b' := fun e => by
          have := hqd b' (hN.one b' e).1
          omega
        show (if newB outs o.dst s.bx.length = some b' then _ else _) = _ ∨ (if newB outs o.dst s.bx.length = some b' then _ else _) = _
        rw [if_neg hne]
        exact h.hlb b' hb'
      hnb := by
        intro b' k τ hb' hq
        rcases hlb _ _ _ hq with ⟨_, g1⟩ | ⟨_, g1⟩
        · exact Nat.le_trans h.fr.size (c.nb _ _ _ (Nat.le_refl _) g1)
        · exact h.hnb _ _ _ hb' g1
      fr := by
        have f1 := c.inv.fr
        refine ⟨f1.os.trans h.fr.os, f1.tape.trans h.fr.tape, f1.output.trans h.fr.output, Nat.le_trans h.fr.size hsizes, fun k hk1 hk2 => ?_⟩
        rw [f1.block k (Nat.lt_of_lt_of_le hk1 h.fr.size) (fun hm => ?_)]
        · exact h.fr.block k hk1 hk2
        · obtain ⟨b', τ, _, hq⟩ := hM k hm
          rcases (h.lbm _ _ _ hq).2.2 with hh | hh
          · omega
          · exact hk2 hh }
  · change (if s.base + 64 * i ≤ id ∧ id < s.base + 64 * i + patLen outs then _ else _) ≠ _ at hq
    split at hq
    · rename_i hh; exact .inr ⟨hh.1, by omega⟩
    · exact .inl hq

end
end Go.Proofs.Ytlehbecajmjgkaa.V
