/- Part of a proof by a value interpreter: operations in the order of the text. -/
import Derived.Test.YtlehbecajmjgkaaVx
set_option linter.unusedVariables false
set_option linter.unusedSimpArgs false
namespace Go.Proofs.Ytlehbecajmjgkaa.V

section
variable {K : Cfg} {Ω : Type}

theorem opC_bind (o : Oper) (i base : Nat) (ev : Operand → W) (bx : Nat → Option D) (mv fz : Nat → Bool) (c : U → Option Ω) : opC K o i base ev bx mv fz c = (opC K o i base ev bx mv fz some).bind c :=
  opC_nat o i base ev bx mv fz some c

theorem opG_nat {A : Type} (o : Oper) (s : St) (f : St → Option A) (c : A → Option Ω) : opG K o s (fun s => (f s).bind c) = (opG K o s f).map (·.bind c) := by
  unfold opG
  split
  · split
    · simp only [Option.map_some, Option.some.injEq]
      split
      · split
        · split
          · split
            · split <;> rfl
            · rfl
          · rw [bnd_bind]
            congr 1
            funext x
            rw [← putK_nat]
            congr 1
            funext y h
            split <;> rfl
        · rfl
      · rfl
    · rfl
  · split
    · split
      · simp only [Option.map_some, Option.some.injEq]
        split
        · split
          · split
            · split <;> rfl
            · rfl
          · rfl
        · rfl
      · simp only [Option.map_some, Option.some.injEq]
        split
        · split
          · split
            · split <;> rfl
            · rfl
          · rfl
        · rfl
      · rfl
    · rfl
  · rfl

theorem opG_bind (o : Oper) (s : St) (c : St → Option Ω) : opG K o s c = (opG K o s some).map (·.bind c) := opG_nat o s some c

end

section
variable {P : Program} {K : Cfg} {w0 : World} {M : Hx} {o : Oper} {i : Nat} {s : St} {a : Act} {w w' : World} {G : Gh} {u : U} {Ω : Type}

/-- the operations of the whole frame do what they say -/
def GSound (P : Program) (K : Cfg) : Prop := ∀ (w0 : World) (M : Hx) (o : Oper) (s s' : St) (a : Act) (w : World) (G : Gh), Inv K.el w0 M s a w G → opG K o s some = some (some s') → s'.base = s.base ∧
  ∀ (next : Act → World → Prop) (Q : Exit → Act → World → Prop), (∀ a' w' G', Inv K.el w0 M s' a' w' G' → (∀ id, G'.la id ≠ none → G.la id ≠ none) → next a' w') → o.wp P a w next Q

theorem put_base (s : St) (d : Option Tmp) (v : W) : (s.put d v).base = s.base := by cases d <;> rfl

theorem put_same {s : St} {t : Nat} {x : W} (h : s.tm.getD t (.one .top) = x) (hx : x ≠ .one .top) : s.put (some t) x = s := by
  by_cases ht : t < s.tm.length
  · rw [List.getD_eq_getElem?_getD, List.getElem?_eq_getElem ht] at h
    simp only [Option.getD_some] at h
    subst h
    cases s
    simp only [St.put]
    rw [List.set_getElem_self]
  · rw [List.getD_eq_getElem?_getD, List.getElem?_eq_none (Nat.le_of_not_lt ht)] at h
    exact absurd h.symm hx

theorem dstOf_arr {ops : Array Oper} {j : Nat} : dstOf ops.toList j = (ops[j]?).bind (·.dst) := by
  unfold dstOf
  rw [Array.getElem?_toList]

/-- what a guard reads -/
theorem yielded_of (h : Inv K.el w0 M s a w G) {ops : Array Oper} {j t : Nat} (hd : dstOf ops.toList j = some t) : (∀ b g, s.tm.getD t (.one .top) = .one (.dat ⟨.bool, b, g⟩) → yielded ops a.tmps j = some b) ∧
    (s.tm.getD t (.one .top) = .un → yielded ops a.tmps j = none) := by
  rw [dstOf_arr] at hd
  have key : ∀ x, s.tm.getD t (.one .top) = x → x ≠ .one .top → ∃ v, a.tmps[t]? = some v ∧ RepW w G K.el x v := by
    intro x hx hne
    by_cases ht : t < s.tm.length
    · rw [List.getD_eq_getElem?_getD, List.getElem?_eq_getElem ht] at hx
      simp only [Option.getD_some] at hx
      have ht' : t < a.tmps.size := by rw [h.len]; exact ht
      exact ⟨a.tmps[t], Array.getElem?_eq_getElem ht', h.tm t x _ (by rw [← hx]; exact List.getElem?_eq_getElem ht) (Array.getElem?_eq_getElem ht')⟩
    · rw [List.getD_eq_getElem?_getD, List.getElem?_eq_none (Nat.le_of_not_lt ht)] at hx
      exact absurd hx.symm hne
  constructor
  · intro b g hb
    obtain ⟨v, hv, hr⟩ := key _ hb (by simp)
    have := rep_dat_bool hr
    subst this
    unfold yielded
    rw [hd]
    simp [hv]
  · intro hb
    obtain ⟨v, hv, hr⟩ := key _ hb (by simp)
    have hv' : v = undef := hr
    subst hv'
    unfold yielded
    rw [hd]
    simp [hv, undef]

theorem evOps_lex (hK : TysOk P K) (hC : ConsOk P K) (hG : GSound P K) {ops : Array Oper} {Q : Exit → Act → World → Prop} {c : St → List Tr → Option Ω} {ω : Ω} : (r : List Oper) → (i : Nat) → (s : St) → (a : Act) → (w : World) → (G : Gh) → (tr : List Tr) → (∀ o ∈ r, ∀ d, o.dst = some d → M.q ≤ d) →
    Inv K.el w0 M s a w G → (∀ id, s.base + 64 * i ≤ id → G.la id = none) → evOps K ops.toList r i s tr c = some ω →
    (∀ s' tr' a' w' G', Inv K.el w0 M s' a' w' G' → c s' tr' = some ω → Q .normal a' w') → wpList P ops Q r a w
  | [], i, s, a, w, G, tr, hqd, h, hf, he, hQ => hQ s tr a w G h he
  | o :: r, i, s, a, w, G, tr, hqd, h, hf, he, hQ => by
    rw [evOps] at he
    have hgo : ∀ s : St, Inv K.el w0 M s a w G → (∀ id, s.base + 64 * i ≤ id → G.la id = none) →
        (match (opG K o s fun s' => evOps K ops.toList r (i + 1) s' (allTr :: tr) c) with
          | some x => x
          | none => opC K o i s.base s.ev s.box s.mv s.fz fun u => evOps K ops.toList r (i + 1) (s.app o.dst u) (u.tr :: tr) c) = some ω → Region.wanted o (yielded ops a.tmps) = true → wpList P ops Q (o :: r) a w := by
      intro s h hf he hw
      unfold wpList
      rw [if_pos hw]
      left
      rw [opG_bind] at he
      cases hg : opG K o s some with
      | some x =>
        rw [hg] at he
        simp only [Option.map_some] at he
        obtain ⟨s', rfl, he⟩ := Option.bind_eq_some_iff.1 he
        obtain ⟨hb, hgs⟩ := hG w0 M o s s' a w G h hg
        refine hgs _ _ (fun a' w' G' h' hla => evOps_lex hK hC hG r (i + 1) s' a' w' G' _ (fun o' ho' => hqd o' (List.mem_cons_of_mem _ ho')) h' (fun id hid => ?_) he hQ)
        rw [hb] at hid
        by_cases hn : G'.la id = none
        · exact hn
        · exact absurd (hf id (by omega)) (hla id hn)
      | none =>
        rw [hg] at he
        simp only [Option.map_none] at he
        rw [opC_bind] at he
        obtain ⟨u, hu, he⟩ := Option.bind_eq_some_iff.1 he
        refine opC_sound hK hC (hqd o (List.mem_cons_self ..)) h (fun id h1 _ => hf id h1) hu _ _ (fun a' w' G' h' hla => evOps_lex hK hC hG r (i + 1) _ a' w' G' _ (fun o' ho' => hqd o' (List.mem_cons_of_mem _ ho')) h' (fun id hid => ?_) he hQ)
        have hid' : s.base + 64 * (i + 1) ≤ id := hid
        by_cases hn : G'.la id = none
        · exact hn
        · rcases hla id hn with hh | hh
          · exact absurd (hf id (by omega)) hh
          · omega
    have hskip : ∀ s : St, Inv K.el w0 M s a w G → (∀ id, s.base + 64 * i ≤ id → G.la id = none) → evOps K ops.toList r (i + 1) (s.put o.dst .un) (noTr :: tr) c = some ω →
        Region.wanted o (yielded ops a.tmps) = false → wpList P ops Q (o :: r) a w := by
      intro s h hf he hw
      unfold wpList
      rw [if_neg (by rw [hw]; simp)]
      refine evOps_lex hK hC hG r (i + 1) _ _ w G _ (fun o' ho' => hqd o' (List.mem_cons_of_mem _ ho')) (h.put (x := .un) (v := undef) rfl) (fun id hid => ?_) he hQ
      rw [put_base] at hid
      exact hf id (by omega)
    split at he
    · rename_i hgd
      exact hgo s h hf he (by simp [Region.wanted, hgd])
    · rename_i j want hgd
      split at he
      · cases he
      · rename_i t ht
        obtain ⟨hy1, hy2⟩ := yielded_of h ht
        split at he
        · rename_i b hb
          have hy := hy1 b _ hb
          have hps := put_same hb (by simp)
          split at he
          · rcases br_some he with ⟨rfl, he⟩ | ⟨rfl, he⟩
            · have e : s.put (some t) (bool true) = s := hps
              rw [e] at he
              exact hgo s h hf he (by simp [Region.wanted, hgd, hy])
            · have e : s.put (some t) (bool false) = s := hps
              rw [e] at he
              exact hskip s h hf he (by simp [Region.wanted, hgd, hy])
          · rcases br_some he with ⟨rfl, he⟩ | ⟨rfl, he⟩
            · have e : s.put (some t) (bool true) = s := hps
              rw [e] at he
              exact hskip s h hf he (by simp [Region.wanted, hgd, hy])
            · have e : s.put (some t) (bool false) = s := hps
              rw [e] at he
              exact hgo s h hf he (by simp [Region.wanted, hgd, hy])
        · rename_i hb
          have hy := hy2 hb
          exact hskip s h hf he (by simp [Region.wanted, hgd, hy])
        · cases he

end
end Go.Proofs.Ytlehbecajmjgkaa.V
