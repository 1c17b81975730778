/- Part of a proof by a value interpreter: code, proved. -/
import Derived.Test.YtlehbecajmjgkaaWl
set_option linter.unusedVariables false
set_option linter.unusedSimpArgs false
namespace Go.Proofs.Ytlehbecajmjgkaa.V

section
variable {P : Program} {K : Cfg} {w0 : World} {M : Hx}

theorem rep_bool_of {a : Act} {w : World} {G : Gh} {s : St} {x : Operand} {t : Bool} {g : List Tg} (h : Inv K.el w0 M s a w G) (hx : s.ev x = .one (.dat ⟨.bool, t, g⟩)) : a.eval x = .bool t := by
  have := h.ev x
  rw [hx] at this
  exact rep_dat_bool this

/-- no temporary of the arguments is written -/
def dstOk (q : Nat) : Code → Bool
  | .region _ ops _ => ops.toList.all fun o => match o.dst with
    | some d => decide (q ≤ d)
    | none => true
  | .seq a b => dstOk q a && dstOk q b
  | .cond _ a b => dstOk q a && dstOk q b
  | .block _ a => dstOk q a
  | .loop a => dstOk q a
  | .skip => true
  | .exit _ => true
  | .ret => true
  | .label _ => true
  | _ => false

theorem evC_sound (hm : P.follows .mixedOrders = true) (hK : TysOk P K) (hC : ConsOk P K) (hs : Nat → Hint) : (code : Code) → dstOk M.q code = true → (Ω : Type) → (lv : List Tmp) → (s : St) → (c : Kont Ω) → KNat c → (R : Type) → (wr : Ω → R) → (ρ : R) →
    evC K hs code Ω lv s c R wr = some ρ → ∀ (a : Act) (w : World) (G : Gh), Inv K.el w0 M s a w G → ∀ (Q : Exit → Act → World → Prop),
    (∀ e s' a' w' G', Inv K.el w0 M s' a' w' G' → c e s' R wr = some ρ → Q e a' w') → code.wp P Q a w
  | .skip, hd, Ω, lv, s, c, hc, R, wr, ρ, he, a, w, G, h, Q, hQ => wp_skip (hQ _ s a w G h he)
  | .region id ops draw, hd, Ω, lv, s, c, hc, R, wr, ρ, he, a, w, G, h, Q, hQ => by
    simp only [evC, normK_eq, headK_eq, fShape_eq] at he
    obtain ⟨G', h', hf⟩ := h.norm (makes ops.toList)
    exact region_sound hm hK hC (gsound hK) (c := fun s' => c .normal s' R wr) h' hf he (fun o ho d hd' => by
      have := List.all_eq_true.1 hd o ho
      simpa [hd'] using this) (fun s' a' w' G' h' hc' => hQ _ s' a' w' G' h' hc')
  | .seq x y, hd, Ω, lv, s, c, hc, R, wr, ρ, he, a, w, G, h, Q, hQ => by
    simp only [dstOk, Bool.and_eq_true] at hd
    simp only [evC, normK_eq, headK_eq, fShape_eq] at he
    refine wp_seq (evC_sound hm hK hC hs x hd.1 Ω _ s _ ?_ R wr ρ he a w G h _ ?_)
    · intro e s' R R' w g
      cases e with
      | normal => exact evC_nat hs y Ω lv s' c hc R R' w g
      | _ => exact hc _ _ _ _ _ _
    · intro e s' a' w' G' h' hc'
      cases e with
      | normal => exact evC_sound hm hK hC hs y hd.2 Ω lv s' c hc R wr ρ hc' a' w' G' h' Q hQ
      | _ => exact hQ _ s' a' w' G' h' hc'
  | .cond x y z, hd, Ω, lv, s, c, hc, R, wr, ρ, he, a, w, G, h, Q, hQ => by
    simp only [dstOk, Bool.and_eq_true] at hd
    simp only [evC, normK_eq, headK_eq, fShape_eq] at he
    split at he
    · rename_i t g hx
      refine wp_cond (rep_bool_of h hx) ?_
      rcases br_some he with ⟨rfl, he⟩ | ⟨rfl, he⟩
      · exact evC_sound hm hK hC hs y hd.1 Ω lv s c hc R wr ρ he a w G h Q hQ
      · exact evC_sound hm hK hC hs z hd.2 Ω lv s c hc R wr ρ he a w G h Q hQ
    · cases he
  | .block id x, hd, Ω, lv, s, c, hc, R, wr, ρ, he, a, w, G, h, Q, hQ => by
    simp only [evC, normK_eq, headK_eq, fShape_eq] at he
    refine wp_block (evC_sound hm hK hC hs x hd Ω lv s _ ?_ R wr ρ he a w G h _ ?_)
    · intro e s' R R' w g
      cases e with
      | exit i =>
        by_cases hi : i = id
        · simp only [hi, if_true]; exact hc _ _ _ _ _ _
        · simp only [hi, if_false]; exact hc _ _ _ _ _ _
      | _ => exact hc _ _ _ _ _ _
    · intro e s' a' w' G' h' hc'
      cases e with
      | exit i =>
        by_cases hi : i = id
        · simp only [hi, if_true] at hc'
          simp only [Exit.inBlock, hi, if_true]
          exact hQ _ s' a' w' G' h' hc'
        · simp only [hi, if_false] at hc'
          simp only [Exit.inBlock, hi, if_false]
          exact hQ _ s' a' w' G' h' hc'
      | _ => exact hQ _ s' a' w' G' h' hc'
  | .exit id, hd, Ω, lv, s, c, hc, R, wr, ρ, he, a, w, G, h, Q, hQ => wp_exit (hQ _ s a w G h he)
  | .ret, hd, Ω, lv, s, c, hc, R, wr, ρ, he, a, w, G, h, Q, hQ => wp_ret (hQ _ s a w G h he)
  | .label _, hd, Ω, lv, s, c, hc, R, wr, ρ, he, a, w, G, h, Q, hQ => wp_label (hQ _ s a w G h he)
  | .loop x, hd, Ω, lv, s, c, hc, R, wr, ρ, he, a, w, G, h, Q, hQ => by
    simp only [evC, normK_eq, headK_eq, fShape_eq] at he
    obtain ⟨y, hy, he⟩ := Option.bind_eq_some_iff.1 he
    obtain ⟨n, hn⟩ := iter_some he
    obtain ⟨G1, h1⟩ := h.head (Code.uses x ++ lv) (hs (Code.first x))
    have hok := shape_ok h1
    have hn' : ∀ (s : St) k q, (s.head k q).mv = (fun _ => false) ∧ (s.head k q).fz = (fun _ => false) := fun s k q => ⟨rfl, rfl⟩
    have hun : ∀ (s' : St) (a' : Act) (w' : World) (G' : Gh) (z), Inv K.el w0 M s' a' w' G' → (s.head (Code.uses x ++ lv) (hs (Code.first x))).shape.un (s'.head (Code.uses x ++ lv) (hs (Code.first x))) = some z →
        ∃ G2, Inv K.el w0 M ((s.head (Code.uses x ++ lv) (hs (Code.first x))).shape.mk' z) a' w' G2 := by
      intro s' a' w' G' z h' hz
      obtain ⟨G2, h2⟩ := h'.head (Code.uses x ++ lv) (hs (Code.first x))
      exact h2.shape (hn' _ _ _).1 (hn' _ _ _).2 hok hz
    obtain ⟨G2, h2⟩ := hun s a w G y h hy
    refine wp_loop_rounds n ?_
    clear he hy h1 h
    induction n generalizing y a w G2 with
    | zero => simp [iterN] at hn
    | succ n ih =>
      rw [rounds_succ]
      simp only [iterN] at hn
      split at hn
      · cases hn
      · rename_i z hz
        refine evC_sound hm hK hC hs x hd _ _ _ _ ?_ _ _ _ hz a w G2 h2 _ ?_
        · intro e s' R R' w g
          cases e with
          | normal =>
            simp only
            cases (s.head (Code.uses x ++ lv) (hs (Code.first x))).shape.un (s'.head (Code.uses x ++ lv) (hs (Code.first x))) <;> rfl
          | _ => exact hc _ _ _ _ _ _
        · intro e s' a' w' G' h' hc'
          have other : (c e s' ((s.head (Code.uses x ++ lv) (hs (Code.first x))).shape.den ⊕ R) (fun o => Sum.map id wr (.inr o))) = some (Sum.inl z) → False := by
            intro hh
            have := hc e s' R ((s.head (Code.uses x ++ lv) (hs (Code.first x))).shape.den ⊕ R) wr Sum.inr
            have hh := this.symm.trans hh
            obtain ⟨q, _, hq⟩ := Option.map_eq_some_iff.1 hh
            cases hq
          cases e with
          | normal =>
            simp only at hc'
            obtain ⟨z', hz', hc'⟩ := Option.bind_eq_some_iff.1 hc'
            have : z' = z := by
              have := Option.some.inj hc'
              simpa using this
            subst this
            obtain ⟨G3, h3⟩ := hun s' a' w' G' z' h' hz'
            exact ih a' w' z' hn G3 h3
          | _ => exact (other hc').elim
      · rename_i b hb
        cases hn
        refine evC_sound hm hK hC hs x hd _ _ _ _ ?_ _ _ _ hb a w G2 h2 _ ?_
        · intro e s' R R' w g
          cases e with
          | normal =>
            simp only
            cases (s.head (Code.uses x ++ lv) (hs (Code.first x))).shape.un (s'.head (Code.uses x ++ lv) (hs (Code.first x))) <;> rfl
          | _ => exact hc _ _ _ _ _ _
        · intro e s' a' w' G' h' hc'
          have other : (c e s' ((s.head (Code.uses x ++ lv) (hs (Code.first x))).shape.den ⊕ R) (fun o => Sum.map id wr (.inr o))) = some (Sum.inr ρ) → c e s' R wr = some ρ := by
            intro hh
            have := hc e s' R ((s.head (Code.uses x ++ lv) (hs (Code.first x))).shape.den ⊕ R) wr Sum.inr
            have hh := this.symm.trans hh
            obtain ⟨q, hq', hq⟩ := Option.map_eq_some_iff.1 hh
            cases hq
            exact hq'
          cases e with
          | normal =>
            simp only at hc'
            obtain ⟨z', hz', hc'⟩ := Option.bind_eq_some_iff.1 hc'
            have := Option.some.inj hc'
            simp at this
          | _ => exact hQ _ s' a' w' G' h' (other hc')
  | .goto _, hd, Ω, lv, s, c, hc, R, wr, ρ, he, a, w, G, h, Q, hQ => by simp only [evC] at he; cases he
  | .scope _, hd, Ω, lv, s, c, hc, R, wr, ρ, he, a, w, G, h, Q, hQ => by simp only [evC] at he; cases he
  | .rangeFunc _ _ _ _, hd, Ω, lv, s, c, hc, R, wr, ρ, he, a, w, G, h, Q, hQ => by simp only [evC] at he; cases he
  | .refuse _, hd, Ω, lv, s, c, hc, R, wr, ρ, he, a, w, G, h, Q, hQ => by simp only [evC] at he; cases he

end
end Go.Proofs.Ytlehbecajmjgkaa.V
