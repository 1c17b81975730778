/- Part of a proof by a value interpreter: what a contract promises, and calls. -/
import Derived.Test.YtlehbecajmjgkaaVp
set_option linter.unusedVariables false
set_option linter.unusedSimpArgs false
namespace Go.Proofs.Ytlehbecajmjgkaa.V

/-- a frame at its start, without what it has not written yet -/
def St0 (ins : List ATy) (y : InDen ins) : St := { tm := inTm 0 ins y, bx := inBx 0 ins y, base := inIds ins, mv := fun _ => false, fz := fun _ => false }

def outTm : (q n : Nat) → (outs : List RTy) → RDen outs → List W
  | _, _, [], _ => []
  | q, n, .val τ pat :: r, y => .one (.dat ⟨τ, y.1, newIds n pat⟩) :: outTm (q + 1) (n + pat.length) r y.2
  | q, n, .bx τ pat :: r, y => .one (.ptr q [] τ) :: outTm (q + 1) (n + pat.length) r y.2
def outBx : (n : Nat) → (outs : List RTy) → RDen outs → List (Option D)
  | _, [], _ => []
  | n, .val _ pat :: r, y => none :: outBx (n + pat.length) r y.2
  | n, .bx τ pat :: r, y => some ⟨τ, y.1, newIds n pat⟩ :: outBx (n + pat.length) r y.2
def endBx : (n : Nat) → (ins : List ATy) → BDen ins → List (Option D)
  | _, [], _ => []
  | n, .val _ :: r, y => none :: endBx n r y
  | n, .fn _ :: r, y => none :: endBx n r y
  | n, .bx τ pat :: r, y => some ⟨τ, y.1, newIds n pat⟩ :: endBx (n + pat.length) r y.2

/-- what is there when a call has come back: the boxes that were handed over, and the results -/
def St1 (ins : List ATy) (outs : List RTy) (r : RDen outs) (b : BDen ins) : St :=
  { tm := List.replicate ins.length (.one .top) ++ outTm ins.length (patLenI ins) outs r, bx := endBx 0 ins b ++ outBx (patLenI ins) outs r, base := patLenI ins + patLen outs, mv := fun _ => false, fz := fun _ => false }

def packR (rs : Array Value) : Value := if h : rs.size = 1 then rs[0] else .tuple rs

/-- a function that the machine steps into -/
def Enters (P : Program) (f : FuncId) : Prop := ∃ fn, P.funcs[f]? = some fn ∧ (fn.name == "runtime.NumGoroutine") = false ∧ fn.body.isNone = false

/-- what a call leaves -/
structure Post (el : Ty → TypeId) (w : World) (M : Hx) (G : Gh) (vs : Array Value) (ins : List ATy) (outs : List RTy) (r : RDen outs) (b : BDen ins) (rs : Array Value) (w' : World) (G' : Gh) : Prop where
  inv : Inv el w M (St1 ins outs r b) ⟨vs ++ rs, []⟩ w' G'
  lb : ∀ n, n < ins.length → G'.lb n = G.lb n
  nb : ∀ n k τ, ins.length ≤ n → G'.lb n = some (k, τ) → w.heap.size ≤ k
  im : ∀ k, G'.im k → G.im k ∨ w.heap.size ≤ k ∨ ∃ i n, G.la i = some (some (k, n))

/-- what is said of a call's beginning is so -/
structure HxOk (M : Hx) (G : Gh) (ins : List ATy) : Prop where
  q : M.q = ins.length
  i0 : ∀ k, M.i0 k → G.im k
  m : ∀ k, M.m k → (∃ n τ, G.lb n = some (k, τ)) ∨ ∃ i n, G.la i = some (some (k, n))

def Con.Holds (P : Program) (el : Ty → TypeId) (f : FuncId) (cn : Con) : Prop :=
  Enters P f ∧ ∀ y vs w M G, HxOk M G cn.ins → Inv el w M (St0 cn.ins y) ⟨vs, []⟩ w G → ∀ r b, cn.f y = some (r, b) →
    Calls P f vs w fun e w' => ∃ rs G', rs.size = cn.outs.length ∧ e = .returned (packR rs) ∧ Post el w M G vs cn.ins cn.outs r b rs w' G'

theorem inTm_len : (n : Nat) → (ins : List ATy) → (y : InDen ins) → (inTm n ins y).length = ins.length
  | _, [], _ => rfl
  | n, .val _ :: r, y => by simp only [inTm, List.length_cons]; rw [inTm_len (n + 1) r y.2]
  | n, .bx _ _ :: r, y => by simp only [inTm, List.length_cons]; rw [inTm_len (n + 1) r y.2]
  | n, .fn _ :: r, y => by simp only [inTm, List.length_cons]; rw [inTm_len (n + 1) r y]
theorem inBx_len : (n : Nat) → (ins : List ATy) → (y : InDen ins) → (inBx n ins y).length = ins.length
  | _, [], _ => rfl
  | n, .val _ :: r, y => by simp only [inBx, List.length_cons]; rw [inBx_len n r y.2]
  | n, .bx _ pat :: r, y => by simp only [inBx, List.length_cons]; rw [inBx_len (n + pat.length) r y.2]
  | n, .fn _ :: r, y => by simp only [inBx, List.length_cons]; rw [inBx_len n r y]

theorem newIds_im (n : Nat) : (pat : List Bool) → pat.all (!·) = true → newIds n pat = List.replicate pat.length .im
  | [], _ => rfl
  | true :: r, h => by simp at h
  | false :: r, h => by
    simp only [newIds, List.length_cons, List.replicate_succ]
    rw [newIds_im (n + 1) r (by simpa using h)]

section
variable {P : Program} {K : Cfg} {w0 : World} {M : Hx} {o : Oper} {i : Nat} {s : St} {a : Act} {w w' : World} {G : Gh} {u : U}

/-- where the boxes that are handed over lie: for each argument that is one, the caller's box -/
def posBox : (ins : List ATy) → List Nat → Nat → Option Nat
  | [], _, _ => none
  | .bx _ _ :: _, b :: _, 0 => some b
  | .bx _ _ :: r, _ :: l, n + 1 => posBox r l n
  | .bx _ _ :: _, [], _ => none
  | .val _ :: _, _, 0 => none
  | .val _ :: r, l, n + 1 => posBox r l n
  | .fn _ :: _, _, 0 => none
  | .fn _ :: r, l, n + 1 => posBox r l n

theorem posBox_mem : {ins : List ATy} → {l : List Nat} → {n b : Nat} → posBox ins l n = some b → b ∈ l ∧ n < ins.length
  | .bx _ _ :: r, b :: l, 0, b', h => by simp only [posBox, Option.some.injEq] at h; subst h; simp
  | .bx _ _ :: r, _ :: l, n + 1, b', h => by
    simp only [posBox] at h
    have := posBox_mem h
    exact ⟨List.mem_cons_of_mem _ this.1, by simp; exact this.2⟩
  | .bx _ _ :: _, [], n, b', h => by cases n <;> simp [posBox] at h
  | .val _ :: _, _, 0, b', h => by simp [posBox] at h
  | .val _ :: r, l, n + 1, b', h => by simp only [posBox] at h; have := posBox_mem h; exact ⟨this.1, by simp; exact this.2⟩
  | .fn _ :: _, _, 0, b', h => by simp [posBox] at h
  | .fn _ :: r, l, n + 1, b', h => by simp only [posBox] at h; have := posBox_mem h; exact ⟨this.1, by simp; exact this.2⟩
  | [], _, _, b', h => by simp [posBox] at h

theorem posBox_inj : {ins : List ATy} → {l : List Nat} → l.Nodup → {n m b : Nat} → posBox ins l n = some b → posBox ins l m = some b → n = m
  | .bx _ _ :: r, b :: l, _, 0, 0, b', _, _ => rfl
  | .bx _ _ :: r, b :: l, hn, 0, m + 1, b', h1, h2 => by
    simp only [posBox, Option.some.injEq] at h1 h2
    subst h1
    exact absurd (posBox_mem h2).1 (List.nodup_cons.1 hn).1
  | .bx _ _ :: r, b :: l, hn, n + 1, 0, b', h1, h2 => by
    simp only [posBox, Option.some.injEq] at h1 h2
    subst h2
    exact absurd (posBox_mem h1).1 (List.nodup_cons.1 hn).1
  | .bx _ _ :: r, b :: l, hn, n + 1, m + 1, b', h1, h2 => by
    simp only [posBox] at h1 h2
    rw [posBox_inj (List.nodup_cons.1 hn).2 h1 h2]
  | .bx _ _ :: _, [], _, n, m, b', h1, h2 => by cases n <;> simp [posBox] at h1
  | .val _ :: _, _, _, 0, m, b', h1, h2 => by simp [posBox] at h1
  | .val _ :: _, _, _, n + 1, 0, b', h1, h2 => by simp [posBox] at h2
  | .val _ :: r, l, hn, n + 1, m + 1, b', h1, h2 => by simp only [posBox] at h1 h2; rw [posBox_inj hn h1 h2]
  | .fn _ :: _, _, _, 0, m, b', h1, h2 => by simp [posBox] at h1
  | .fn _ :: _, _, _, n + 1, 0, b', h1, h2 => by simp [posBox] at h2
  | .fn _ :: r, l, hn, n + 1, m + 1, b', h1, h2 => by simp only [posBox] at h1 h2; rw [posBox_inj hn h1 h2]
  | [], _, _, _, _, b', h1, h2 => by simp [posBox] at h1

theorem lent_pat {g : List Tg} : {pat : List Bool} → pat.length = g.length → pat.all (!·) = true → lentIds pat g = tgIds g := by
  induction g with
  | nil => intro pat hl _; cases pat with
    | nil => rfl
    | cons _ _ => simp at hl
  | cons t g ih => intro pat hl hp; cases pat with
    | nil => simp at hl
    | cons p r =>
      cases p with
      | true => simp at hp
      | false =>
        simp only [lentIds]
        rw [ih (by simpa using hl) (by simpa using hp)]
        cases t <;> simp [tgIds]

theorem patOk_len {mv fz : Nat → Bool} {g : List Tg} : {pat : List Bool} → patOk mv fz pat g = true → pat.length = g.length := by
  induction g with
  | nil => intro pat h; cases pat with
    | nil => rfl
    | cons p _ => cases p <;> simp [patOk] at h
  | cons t g ih => intro pat h; cases pat with
    | nil => simp [patOk] at h
    | cons p r =>
      cases p with
      | false => simp only [patOk] at h; simp [ih h]
      | true => cases t <;> simp only [patOk, Bool.and_eq_true] at h <;> first | (simp [ih h.2]; done) | (simp [ih h]; done) | (exact absurd h (by simp))

/-- what the callee may know of memory -/
def calleeG (G : Gh) (im : Nat → Prop) (lb : Nat → Option (Nat × Ty)) : Gh := ⟨lb, fun _ => none, G.sz, im⟩

/-- A value that is handed over. -/
theorem lend {el : Ty → TypeId} {im : Nat → Prop} {lb : Nat → Option (Nat × Ty)} {d : D} {x : Value} (him : ∀ k, G.im k → im k) (hl : ∀ i ∈ tgIds d.g, ∀ k m, G.la i = some (some (k, m)) → im k)
    {cs : List Value} (hr : RepT w G el d.ty d.x d.g cs) : RepT w (calleeG G im lb) el d.ty d.x (List.replicate d.ty.leaves .im) cs :=
  RepIm.toT (G := calleeG G im lb) (hr.toIm (im := im) him (fun i k m hi hq => hl i hi k m hq))

/-- The arguments of a call, as the callee finds them. -/
structure ArgsOk (el : Ty → TypeId) (w : World) (G : Gh) (im : Nat → Prop) (lb : Nat → Option (Nat × Ty)) (ins : List ATy) (l : List W) (vs : List Value) (y : Args ins) (q n : Nat) : Prop where
  len : ins.length = l.length
  nd : y.bxs.Nodup
  bx : ∀ b ∈ y.bxs, ∃ p, G.lb b = some p
  tm : ∀ (j : Nat) (x : W) (v : Value), (inTm q ins y.a)[j]? = some x → vs[j]? = some v → RepW w (calleeG G im lb) el x v
  box : ∀ (j b : Nat), posBox ins y.bxs j = some b → ∃ τ x g c e k, G.lb b = some (k, τ) ∧ ((inBx n ins y.a)[j]?).bind id = some ⟨τ, x, g⟩ ∧ w.heap[k]? = some (.cells c e (0, 0)) ∧ RepT w (calleeG G im lb) el τ x g c.toList
  nb : ∀ (j : Nat), posBox ins y.bxs j = none → ((inBx n ins y.a)[j]?).bind id = none

theorem args_rep (h : Inv K.el w0 M s a w G) {im : Nat → Prop} {lb : Nat → Option (Nat × Ty)} (him : ∀ k, G.im k → im k) : (ins : List ATy) → (l : List W) → (vs : List Value) → (y : Args ins) → (q n : Nat) →
    argsOf s.box s.mv s.fz ins l = some y → ins.all ATy.noOwn = true → l.length = vs.length → (∀ (j : Nat) (x : W) (v : Value), l[j]? = some x → vs[j]? = some v → RepW w G K.el x v) →
    (∀ i ∈ y.lent, ∀ k m, G.la i = some (some (k, m)) → im k) → (∀ j, lb (q + j) = (posBox ins y.bxs j).bind G.lb) → ArgsOk K.el w G im lb ins l vs y q n
  | [], [], vs, y, q, n, hy, hno, hl, hr, hlent, hlb => by
    simp only [argsOf, Option.some.injEq] at hy
    subst hy
    exact ⟨rfl, List.nodup_nil, fun b hb => by simp at hb, fun j x v hx => by simp [inTm] at hx, fun j b hb => by simp [posBox] at hb, fun j _ => by simp [inBx]⟩
  | [], _ :: _, vs, y, q, n, hy, hno, hl, hr, hlent, hlb => by simp [argsOf] at hy
  | .val τ :: r, [], vs, y, q, n, hy, hno, hl, hr, hlent, hlb => by simp [argsOf] at hy
  | .bx τ pat :: r, [], vs, y, q, n, hy, hno, hl, hr, hlent, hlb => by simp [argsOf] at hy
  | .fn f :: r, [], vs, y, q, n, hy, hno, hl, hr, hlent, hlb => by simp [argsOf] at hy
  | _ :: _, _ :: _, [], y, q, n, hy, hno, hl, hr, hlent, hlb => by simp at hl
  | .val τ :: r, x :: l, v :: vs, y, q, n, hy, hno, hl, hr, hlent, hlb => by
    cases x with
    | tup _ => simp [argsOf] at hy
    | un => simp [argsOf] at hy
    | one x =>
      simp only [argsOf] at hy
      split at hy
      · rename_i d hto
        split at hy
        · rename_i x' hx'
          split at hy
          · rename_i y' hy'
            cases hy
            have hd := D.as_some hx'
            obtain ⟨hty, cs, hv, hrep⟩ := rep_to hto (hr 0 _ _ rfl rfl)
            have ih := args_rep (lb := lb) h him r l vs y' (q + 1) n hy' (by simp only [List.all_cons, Bool.and_eq_true] at hno; exact hno.2) (by simpa using hl) (fun j x v h1 h2 => hr (j + 1) x v (by simpa using h1) (by simpa using h2))
              (fun i hi => hlent i (List.mem_append_right _ hi)) (fun j => by have := hlb (j + 1); rw [show q + 1 + j = q + (j + 1) by omega, this]; rfl)
            refine ⟨by simp [ih.len], ih.nd, ih.bx, ?_, ?_, ?_⟩
            · intro j x v' h1 h2
              cases j with
              | zero =>
                simp only [inTm, List.getElem?_cons_zero, Option.some.injEq] at h1 h2
                subst h1
                subst h2
                have hl := lend (lb := lb) (d := d) (x := v) him (fun i hi => hlent i (List.mem_append_left _ hi)) hrep
                rw [hd] at hl hv
                exact ⟨cs, hv, hl⟩
              | succ j => exact ih.tm j x v' (by simpa [inTm] using h1) (by simpa using h2)
            · intro j b hb
              cases j with
              | zero => simp [posBox] at hb
              | succ j => obtain ⟨τ', x, g, c, e, k, h1, h2, h3, h4⟩ := ih.box j b (by simpa [posBox] using hb); exact ⟨τ', x, g, c, e, k, h1, by simpa [inBx] using h2, h3, h4⟩
            · intro j hj
              cases j with
              | zero => simp [inBx]
              | succ j => simpa [inBx] using ih.nb j (by simpa [posBox] using hj)
          · cases hy
        · cases hy
      · cases hy
  | .fn f :: r, x :: l, v :: vs, y, q, n, hy, hno, hl, hr, hlent, hlb => by
    cases x with
    | tup _ => simp [argsOf] at hy
    | un => simp [argsOf] at hy
    | one x =>
      cases x with
      | fn g =>
        simp only [argsOf] at hy
        split at hy
        · rename_i hfg
          split at hy
          · rename_i y' hy'
            cases hy
            subst hfg
            have ih := args_rep (lb := lb) h him r l vs y' (q + 1) n hy' (by simp only [List.all_cons, Bool.and_eq_true] at hno; exact hno.2) (by simpa using hl) (fun j x v h1 h2 => hr (j + 1) x v (by simpa using h1) (by simpa using h2))
              hlent (fun j => by have := hlb (j + 1); rw [show q + 1 + j = q + (j + 1) by omega, this]; rfl)
            refine ⟨by simp [ih.len], ih.nd, ih.bx, ?_, ?_, ?_⟩
            · intro j x v' h1 h2
              cases j with
              | zero =>
                simp only [inTm, List.getElem?_cons_zero, Option.some.injEq] at h1 h2
                subst h1
                subst h2
                have := hr 0 _ _ rfl rfl
                exact this
              | succ j => exact ih.tm j x v' (by simpa [inTm] using h1) (by simpa using h2)
            · intro j b hb
              cases j with
              | zero => simp [posBox] at hb
              | succ j => obtain ⟨τ', x, g, c, e, k, h1, h2, h3, h4⟩ := ih.box j b (by simpa [posBox] using hb); exact ⟨τ', x, g, c, e, k, h1, by simpa [inBx] using h2, h3, h4⟩
            · intro j hj
              cases j with
              | zero => simp [inBx]
              | succ j => simpa [inBx] using ih.nb j (by simpa [posBox] using hj)
          · cases hy
        · cases hy
      | _ => simp [argsOf] at hy
  | .bx τ pat :: r, x :: l, v :: vs, y, q, n, hy, hno, hl, hr, hlent, hlb => by
    cases x with
    | tup _ => simp [argsOf] at hy
    | un => simp [argsOf] at hy
    | one x =>
      cases x with
      | ptr b p τ' =>
        cases p with
        | cons _ _ => simp [argsOf] at hy
        | nil =>
        simp only [argsOf] at hy
        split at hy
        · rename_i d hbox
          split at hy
          · rename_i hpat
            split at hy
            · rename_i x' hx'
              split at hy
              · rename_i y' hy'
                split at hy
                · cases hy
                · rename_i hnc
                  cases hy
                  simp only [List.all_cons, Bool.and_eq_true] at hno
                  have hd := D.as_some hx'
                  obtain ⟨k, τb, m, h1, h2, h3⟩ := hr 0 _ _ rfl rfl
                  rw [Ty.off] at h2
                  cases h2
                  obtain ⟨x0, g0, c, e, e1, e2, e3⟩ := h.bx b k τ' h1
                  rw [hbox] at e1
                  cases e1
                  have hpl := patOk_len hpat
                  have hni := newIds_im n pat hno.1
                  have hlen2 := e3.len.2
                  have hlent' : ∀ i ∈ tgIds g0, ∀ k m, G.la i = some (some (k, m)) → im k := fun i hi => hlent i (by
                    refine List.mem_append_left _ ?_
                    rw [lent_pat hpl hno.1]; exact hi)
                  have ih := args_rep (lb := lb) h him r l vs y' (q + 1) (n + pat.length) hy' hno.2 (by simpa using hl) (fun j x v h1 h2 => hr (j + 1) x v (by simpa using h1) (by simpa using h2))
                    (fun i hi => hlent i (List.mem_append_right _ hi)) (fun j => by have := hlb (j + 1); rw [show q + 1 + j = q + (j + 1) by omega, this]; rfl)
                  have hl := lend (lb := lb) (d := ⟨τ', x0, g0⟩) (x := v) him hlent' e3
                  have hττ : τ' = τ := by have := congrArg D.ty hd; exact this
                  subst hττ
                  have hx0 : x0 = x' := by simpa using hd
                  subst hx0
                  refine ⟨by simp [ih.len], List.nodup_cons.2 ⟨by simpa using hnc, ih.nd⟩, ?_, ?_, ?_, ?_⟩
                  · intro b' hb'
                    rcases List.mem_cons.1 hb' with rfl | hb'
                    · exact ⟨_, h1⟩
                    · exact ih.bx b' hb'
                  · intro j x v' g1 g2
                    cases j with
                    | zero =>
                      simp only [inTm, List.getElem?_cons_zero, Option.some.injEq] at g1 g2
                      subst g1
                      subst g2
                      refine ⟨k, τ', 0, ?_, by rw [Ty.off], h3⟩
                      have := hlb 0
                      rw [Nat.add_zero] at this
                      show lb q = _
                      rw [this]
                      exact h1
                    | succ j => exact ih.tm j x v' (by simpa [inTm] using g1) (by simpa using g2)
                  · intro j b' hb'
                    cases j with
                    | zero =>
                      simp only [posBox, Option.some.injEq] at hb'
                      subst hb'
                      refine ⟨τ', x0, newIds n pat, c, e, k, h1, by simp [inBx], e2, ?_⟩
                      rw [hni, hpl, hlen2]
                      exact hl
                    | succ j => obtain ⟨τ', x, g, c, e, k, h1, h2, h3, h4⟩ := ih.box j b' (by simpa [posBox] using hb'); exact ⟨τ', x, g, c, e, k, h1, by simpa [inBx] using h2, h3, h4⟩
                  · intro j hj
                    cases j with
                    | zero => simp [posBox] at hj
                    | succ j => simpa [inBx] using ih.nb j (by simpa [posBox] using hj)
              · cases hy
            · cases hy
          · cases hy
        · cases hy
      | _ => simp [argsOf] at hy

end
end Go.Proofs.Ytlehbecajmjgkaa.V
