/- Part of a proof by a value interpreter: calls. -/
import Derived.Test.YtlehbecajmjgkaaVs
set_option linter.unusedVariables false
set_option linter.unusedSimpArgs false
namespace Go.Proofs.Ytlehbecajmjgkaa.V

section
variable {P : Program} {K : Cfg} {w0 : World} {M : Hx} {o : Oper} {i : Nat} {s : St} {a : Act} {w w' : World} {G : Gh} {u : U}

def cntBx : List ATy → Nat
  | [] => 0
  | .bx _ _ :: r => cntBx r + 1
  | .val _ :: r => cntBx r
  | .fn _ :: r => cntBx r

theorem argsOf_cnt {bx : Nat → Option D} {mv fz : Nat → Bool} : (ins : List ATy) → (l : List W) → (y : Args ins) → argsOf bx mv fz ins l = some y → y.bxs.length = cntBx ins
  | [], [], y, h => by simp only [argsOf, Option.some.injEq] at h; subst h; rfl
  | [], _ :: _, y, h => by simp [argsOf] at h
  | .val τ :: r, [], y, h => by simp [argsOf] at h
  | .bx τ pat :: r, [], y, h => by simp [argsOf] at h
  | .fn f :: r, [], y, h => by simp [argsOf] at h
  | .val τ :: r, x :: l, y, h => by
    cases x with
    | tup _ => simp [argsOf] at h
    | un => simp [argsOf] at h
    | one x =>
      simp only [argsOf] at h
      split at h
      · split at h
        · split at h
          · rename_i y' hy'; cases h; exact argsOf_cnt r l y' hy'
          · cases h
        · cases h
      · cases h
  | .fn f :: r, x :: l, y, h => by
    cases x with
    | tup _ => simp [argsOf] at h
    | un => simp [argsOf] at h
    | one x =>
      cases x with
      | fn g =>
        simp only [argsOf] at h
        split at h
        · split at h
          · rename_i y' hy'; cases h; exact argsOf_cnt r l y' hy'
          · cases h
        · cases h
      | _ => simp [argsOf] at h
  | .bx τ pat :: r, x :: l, y, h => by
    cases x with
    | tup _ => simp [argsOf] at h
    | un => simp [argsOf] at h
    | one x =>
      cases x with
      | ptr b p τ' =>
        cases p with
        | cons _ _ => simp [argsOf] at h
        | nil =>
        simp only [argsOf] at h
        split at h
        · split at h
          · split at h
            · split at h
              · rename_i y' hy'
                split at h
                · cases h
                · cases h; simp only [List.length_cons, cntBx]; rw [argsOf_cnt r l y' hy']
              · cases h
            · cases h
          · cases h
        · cases h
      | _ => simp [argsOf] at h

theorem posBox_surj : (ins : List ATy) → (l : List Nat) → l.length = cntBx ins → ∀ b ∈ l, ∃ n, posBox ins l n = some b
  | [], l, h, b, hb => by
    have : l = [] := List.length_eq_zero_iff.1 (by simpa [cntBx] using h)
    subst this; simp at hb
  | .val _ :: r, l, h, b, hb => by obtain ⟨n, hn⟩ := posBox_surj r l h b hb; exact ⟨n + 1, by simpa [posBox] using hn⟩
  | .fn _ :: r, l, h, b, hb => by obtain ⟨n, hn⟩ := posBox_surj r l h b hb; exact ⟨n + 1, by simpa [posBox] using hn⟩
  | .bx _ _ :: r, [], h, b, hb => by simp at hb
  | .bx _ _ :: r, c :: l, h, b, hb => by
    rcases List.mem_cons.1 hb with rfl | hb
    · exact ⟨0, rfl⟩
    · obtain ⟨n, hn⟩ := posBox_surj r l (by simpa [cntBx] using h) b hb
      exact ⟨n + 1, by simpa [posBox] using hn⟩

theorem outBoxes_keys : (ins : List ATy) → (b : BDen ins) → (l : List Nat) → (n : Nat) → l.length = cntBx ins → (outBoxes ins b l n).map (·.1) = l
  | [], b, l, n, h => by
    have : l = [] := List.length_eq_zero_iff.1 (by simpa [cntBx] using h)
    subst this; rfl
  | .val _ :: r, b, l, n, h => outBoxes_keys r b l n h
  | .fn _ :: r, b, l, n, h => outBoxes_keys r b l n h
  | .bx _ _ :: r, b, [], n, h => by simp [cntBx] at h
  | .bx _ pat :: r, b, c :: l, n, h => by simp only [outBoxes, List.map_cons]; rw [outBoxes_keys r b.2 l (n + pat.length) (by simpa [cntBx] using h)]

theorem endBx_len : (n : Nat) → (ins : List ATy) → (b : BDen ins) → (endBx n ins b).length = ins.length
  | _, [], _ => rfl
  | n, .val _ :: r, b => by simp only [endBx, List.length_cons]; rw [endBx_len n r b]
  | n, .fn _ :: r, b => by simp only [endBx, List.length_cons]; rw [endBx_len n r b]
  | n, .bx _ pat :: r, b => by simp only [endBx, List.length_cons]; rw [endBx_len (n + pat.length) r b.2]

/-- all that a call's contract, kept, tells the caller -/
structure Came (el : Ty → TypeId) (w : World) (G : Gh) (ins : List ATy) (outs : List RTy) (bxs lent : List Nat) (vs : Array Value) (r : RDen outs) (b : BDen ins) (rs : Array Value) (w' : World) (G1 : Gh) : Prop where
  inv : Inv el w (lentM G ins lent bxs) (St1 ins outs r b) ⟨vs ++ rs, []⟩ w' G1
  vlen : vs.size = ins.length
  lb : ∀ n c, posBox ins bxs n = some c → G1.lb n = G.lb c
  nb : ∀ n k τ, ins.length ≤ n → G1.lb n = some (k, τ) → w.heap.size ≤ k
  im : ∀ k, G1.im k → lentIm G lent k ∨ w.heap.size ≤ k
  own : ∀ j k n, G1.la j = some (some (k, n)) → w.heap.size ≤ k ∧ k < w'.heap.size ∧ ¬ G1.im k ∧ ∀ j' n', j' ≠ j → G1.la j' ≠ some (some (k, n'))
  kept : ∀ k, k < w.heap.size → (∀ b ∈ bxs, ∀ τ, G.lb b ≠ some (k, τ)) → w'.heap[k]? = w.heap[k]?

theorem came {ins : List ATy} {outs : List RTy} {l : List W} {vs : List Value} {y : Args ins} (h : Inv K.el w0 M s a w G) (hy : argsOf s.box s.mv s.fz ins l = some y) (hl : l.length = vs.length) (hno : ins.all ATy.noOwn = true)
    (hr : ∀ (j : Nat) (x : W) (v : Value), l[j]? = some x → vs[j]? = some v → RepW w G K.el x v) {r : RDen outs} {b : BDen ins} {rs : Array Value} {G1 : Gh}
    (hp : Post K.el w (lentM G ins y.lent y.bxs) (calleeG G (lentIm G y.lent) (lentLb G ins y.bxs)) vs.toArray ins outs r b rs w' G1) : Came K.el w G ins outs y.bxs y.lent vs.toArray r b rs w' G1 := by
  obtain ⟨hpre, hA⟩ := call_pre h hy hno hl hr
  have hsurj := posBox_surj ins y.bxs (argsOf_cnt ins l y hy)
  have hlb : ∀ n c, posBox ins y.bxs n = some c → G1.lb n = G.lb c := by
    intro n c hn
    rw [hp.lb n (posBox_mem hn).2]
    show lentLb G ins y.bxs n = _
    unfold lentLb
    rw [hn]; rfl
  refine ⟨hp.inv, by rw [List.size_toArray, hA.len, hl], hlb, hp.nb, ?_, ?_, ?_⟩
  · intro k hk
    rcases hp.im k hk with hk | hk | ⟨_, _, hk⟩
    · exact .inl hk
    · exact .inr hk
    · cases hk
  · intro j k n hj
    obtain ⟨h1, h2, h3⟩ := hp.inv.lam j k n hj
    have hdis : ∀ j' n', j' ≠ j → G1.la j' ≠ some (some (k, n')) := by
      intro j' n' hne hj'
      have := (hp.inv.las j' j k n' n hj' hj hne).1
      simp [St1] at this
    refine ⟨?_, h1, h2 rfl rfl, hdis⟩
    rcases h3 with h3 | ⟨c, hc, τ, hq⟩
    · exact h3
    · obtain ⟨m, hm⟩ := hsurj c hc
      have := hlb m c hm
      rw [hq] at this
      exact absurd hj ((hp.inv.lbm m k τ this).2.1 j n)
  · intro k hk hb
    exact call_kept h hp.inv.fr hk hb

end
end Go.Proofs.Ytlehbecajmjgkaa.V
