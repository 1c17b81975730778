/- Part of a proof by a value interpreter: operations whose order Go leaves open: every order comes to the same. -/
import Derived.Test.YtlehbecajmjgkaaWg
set_option linter.unusedVariables false
set_option linter.unusedSimpArgs false
namespace Go.Proofs.Ytlehbecajmjgkaa.V

theorem accum_agree {α : Type} (π : St → α) (fs : List (St → St)) (A B : Nat → Bool) (s : St) : (n : Nat) → (∀ k, k < n → A k = true → B k = true → ∀ x y, π x = π y → π (fs.getD k id x) = π (fs.getD k id y)) →
    (∀ k, k < n → A k ≠ B k → ∀ x, π (fs.getD k id x) = π x) → π (accum fs A s n) = π (accum fs B s n)
  | 0, _, _ => rfl
  | n + 1, hc, hd => by
    have ih := accum_agree π fs A B s n (fun k hk => hc k (by omega)) (fun k hk => hd k (by omega))
    have hc := hc n (by omega)
    have hd := hd n (by omega)
    simp only [accum]
    cases hA : A n <;> cases hB : B n
    · simpa using ih
    · simp only [if_true]
      rw [hd (by rw [hA, hB]; simp)]
      simpa using ih
    · simp only [if_true]
      rw [hd (by rw [hA, hB]; simp)]
      simpa using ih
    · simp only [if_true]
      exact hc hA hB _ _ ih

theorem accum_cong (fs : List (St → St)) (A B : Nat → Bool) (s : St) : (n : Nat) → (∀ k, k < n → A k = B k) → accum fs A s n = accum fs B s n
  | 0, _ => rfl
  | n + 1, h => by
    simp only [accum]
    rw [accum_cong fs A B s n (fun k hk => h k (by omega)), h n (by omega)]

theorem accum_prefix (fs : List (St → St)) (s : St) (i : Nat) : (n : Nat) → i ≤ n → accum fs (fun k => decide (k < i)) s n = accum fs (fun _ => true) s i
  | 0, h => by obtain rfl : i = 0 := by omega
               rfl
  | n + 1, h => by
    by_cases hi : i = n + 1
    · subst hi
      exact accum_cong _ _ _ _ _ (fun k hk => by simpa using hk)
    · simp only [accum]
      rw [if_neg (by simp; omega), accum_prefix fs s i n (by omega)]

theorem accum_insert (fs : List (St → St)) (A A' : Nat → Bool) (s : St) (i : Nat) (h0 : A i = false) (h1 : A' i = true) (hne : ∀ k, k ≠ i → A' k = A k) : (n : Nat) → i < n →
    (∀ k, i < k → k < n → A k = true → ∀ x, fs.getD k id (fs.getD i id x) = fs.getD i id (fs.getD k id x)) → accum fs A' s n = fs.getD i id (accum fs A s n)
  | 0, h, _ => by omega
  | n + 1, h, hc => by
    by_cases hi : i = n
    · subst hi
      simp only [accum]
      rw [if_pos h1, if_neg (by rw [h0]; simp), accum_cong fs A' A s i (fun k hk => hne k (by omega))]
    · have ih := accum_insert fs A A' s i h0 h1 hne n (by omega) (fun k a b => hc k a (by omega))
      simp only [accum]
      rw [ih, hne n (by omega)]
      cases hA : A n with
      | false => simp
      | true => simp only [if_true]; exact hc n (by omega) (by omega) hA _

/-! ### what must come ahead -/
theorem testBit_fold {j : Nat} {g : Nat → Nat} : (l : List Edge) → (m : Nat) → (l.foldl (fun m e => if Region.binds .any e then m ||| (1 <<< e.on) ||| g e.on else m) m).testBit j = true →
    m.testBit j = true ∨ ∃ e ∈ l, Region.binds .any e = true ∧ (j = e.on ∨ (g e.on).testBit j = true)
  | [], m, h => .inl h
  | e :: l, m, h => by
    rw [List.foldl_cons] at h
    rcases testBit_fold l _ h with h | ⟨e', he', h⟩
    · split at h
      · rename_i hb
        rw [Nat.testBit_or, Nat.testBit_or, Bool.or_eq_true, Bool.or_eq_true] at h
        rcases h with (h | h) | h
        · exact .inl h
        · refine .inr ⟨e, List.mem_cons_self .., hb, .inl ?_⟩
          rw [Nat.testBit_shiftLeft] at h
          simp only [Bool.and_eq_true, decide_eq_true_eq] at h
          have h2 := h.2
          by_cases h3 : j - e.on = 0
          · omega
          · rw [Nat.testBit_one_eq_true_iff_self_eq_zero] at h2; omega
        · exact .inr ⟨e, List.mem_cons_self .., hb, .inr h⟩
      · exact .inl h
    · exact .inr ⟨e', List.mem_cons_of_mem _ he', h⟩

def DoneOk (ops : List Oper) (D : Nat → Bool) : Prop := ∀ (i : Nat) (o : Oper), ops[i]? = some o → D i = true → ∀ e ∈ o.after, Region.binds .any e = true → D e.on = true

theorem befores_ok {ops : List Oper} {D : Nat → Bool} (hD : DoneOk ops D) : (r : List Oper) → (l : List Nat) → (∀ k, r[k]? = ops[l.length + k]?) →
    (∀ (k : Nat) (o : Oper), k < l.length → ops[k]? = some o → (∀ e ∈ o.after, Region.binds .any e = true → D e.on = true) → ∀ j, (l.getD k 0).testBit j = true → D j = true) →
    ∀ (k : Nat) (o : Oper), ops[k]? = some o → (∀ e ∈ o.after, Region.binds .any e = true → D e.on = true) → ∀ j, ((befores ops r l).getD k 0).testBit j = true → D j = true
  | [], l, hr, hl, k, o, ho, he, j, hj => by
    by_cases hk : k < l.length
    · exact hl k o hk ho he j hj
    · have := hr (k - l.length)
      rw [show l.length + (k - l.length) = k by omega, ho] at this
      simp at this
  | o :: r, l, hr, hl, k, o', ho, he, j, hj => by
    rw [befores] at hj
    refine befores_ok hD r _ ?_ ?_ k o' ho he j hj
    · intro k
      have := hr (k + 1)
      simp only [List.length_append, List.length_singleton]
      rw [show l.length + 1 + k = l.length + (k + 1) by omega, ← this]
      rfl
    · intro k o2 hk ho2 he2 j hj
      by_cases hk2 : k < l.length
      · refine hl k o2 hk2 ho2 he2 j ?_
        rw [List.getD_eq_getElem?_getD] at hj ⊢
        rw [List.getElem?_append_left hk2] at hj
        exact hj
      · have hkl : k = l.length := by simp at hk; omega
        subst hkl
        have h0 := hr 0
        simp only [Nat.add_zero] at h0
        rw [ho2] at h0
        simp only [List.getElem?_cons_zero, Option.some.injEq] at h0
        subst h0
        rw [List.getD_eq_getElem?_getD, List.getElem?_append_right (by omega), Nat.sub_self] at hj
        simp only [List.getElem?_cons_zero, Option.getD_some] at hj
        rcases testBit_fold (g := fun n => l.getD n 0) _ _ hj with hj | ⟨e, hm, hb, hj⟩
        · simp at hj
        · have hDe := he2 e (by simpa using hm) hb
          rcases hj with rfl | hj
          · exact hDe
          · by_cases hel : e.on < l.length
            · cases hoe : ops[e.on]? with
              | none =>
                have hlen : l.length < ops.length := (List.getElem?_eq_some_iff.1 ho2).1
                rw [List.getElem?_eq_none_iff] at hoe
                omega
              | some oe => exact hl e.on oe hel hoe (hD e.on oe hoe hDe) j hj
            · rw [List.getD_eq_getElem?_getD, List.getElem?_eq_none (by omega)] at hj
              simp at hj

theorem afterOk_get : (ops : List Oper) → (n : Nat) → afterOk ops n = true → ∀ (i : Nat) (o : Oper), ops[i]? = some o → ∀ e ∈ o.after, Region.binds .any e = true → e.on < n + i
  | [], _, _, i, o, ho, _, _, _ => by simp at ho
  | o' :: r, n, h, i, o, ho, e, he, hb => by
    simp only [afterOk, Bool.and_eq_true, List.all_eq_true] at h
    cases i with
    | zero =>
      simp only [List.getElem?_cons_zero, Option.some.injEq] at ho
      subst ho
      have := h.1 e (by simpa using he)
      simp only [hb, Bool.not_true, Bool.false_or, decide_eq_true_eq] at this
      omega
    | succ i =>
      have := afterOk_get r (n + 1) h.2 i o (by simpa using ho) e he hb
      omega

theorem meet_false {a b : List Nat} (h : meet a b = false) (x : Nat) (hx : x ∈ a) : x ∉ b := by
  intro hb
  have : meet a b = true := List.any_eq_true.2 ⟨x, hx, by simpa using hb⟩
  rw [this] at h
  cases h

structure ApartR (a b : Tr) : Prop where
  a1 : a.all = false
  a2 : b.all = false
  wr : meet a.wb b.rb = false
  ww : meet a.wb b.wb = false
  rw : meet a.rb b.wb = false
  fwr : meet a.wf b.rf = false
  fww : meet a.wf b.wf = false
  frw : meet a.rf b.wf = false

theorem apartR_spec {a b : Tr} (h : apartR a b = true) : ApartR a b := by
  unfold apartR at h
  simp only [Bool.not_eq_true', Bool.or_eq_false_iff] at h
  exact ⟨h.1.1.1.1.1.1.1, h.1.1.1.1.1.1.2, h.1.1.1.1.1.2, h.1.1.1.1.2, h.1.1.1.2, h.1.1.2, h.1.2, h.2⟩

theorem apartT_spec {ops : List Oper} {a b : Oper} (h : apartT ops a b = true) : (∀ d, a.dst = some d → d ∉ opTmps ops b) ∧ (∀ d, a.dst = some d → b.dst ≠ some d) ∧ (∀ d, b.dst = some d → d ∉ opTmps ops a) := by
  unfold apartT at h
  refine ⟨fun d hd => ?_, fun d hd => ?_, fun d hd => ?_⟩ <;> simp [hd] at h
  · exact h.1.1
  · exact h.1.2
  · exact h.2

theorem raceFree_spec {ops : List Oper} {tr : List Tr} (h : raceFree ops tr = true) : afterOk ops 0 = true ∧ ∀ i j, i < ops.length → j < i → ((befores ops ops []).getD i 0).testBit j = true ∨
    (apartT ops (ops.getD i default) (ops.getD j default) = true ∧ apartR (tr.getD i noTr) (tr.getD j noTr) = true) := by
  unfold raceFree at h
  simp only [Bool.and_eq_true, List.all_eq_true, List.mem_range, Bool.or_eq_true] at h
  exact ⟨h.1, fun i j hi hj => h.2 i hi j hj⟩

theorem setBoxes_set (l : List (Nat × D)) : (bx : List (Option D)) → (b : Nat) → (d : Option D) → b ∉ l.map (·.1) → (setBoxes (bx.set b d) l) = (setBoxes bx l).set b d := by
  induction l with
  | nil => intro bx b d _; rfl
  | cons p r ih =>
    intro bx b d h
    simp only [List.map_cons, List.mem_cons, not_or] at h
    simp only [setBoxes]
    rw [List.set_comm _ _ h.1, ih _ _ _ h.2]

theorem setBoxes_comm (l l' : List (Nat × D)) (h : ∀ x ∈ l.map (·.1), x ∉ l'.map (·.1)) (bx : List (Option D)) : setBoxes (setBoxes bx l) l' = setBoxes (setBoxes bx l') l := by
  induction l generalizing bx with
  | nil => rfl
  | cons p r ih =>
    simp only [setBoxes]
    rw [ih (fun x hx => h x (List.mem_cons_of_mem _ hx)), setBoxes_set l' _ _ _ (h p.1 (List.mem_cons_self ..))]

theorem app_comm (x : St) {d1 d2 : Option Tmp} {u1 u2 : U} (hd : ∀ d, d1 = some d → d2 ≠ some d) (hb : ∀ b ∈ u1.wb.map (·.1), b ∉ u2.wb.map (·.1)) : (x.app d1 u1).app d2 u2 = (x.app d2 u2).app d1 u1 := by
  simp only [St.app, St.mk.injEq]
  refine ⟨?_, setBoxes_comm _ _ hb _, trivial, ?_, ?_⟩
  · cases d1 with
    | none => rfl
    | some a =>
      cases d2 with
      | none => rfl
      | some b =>
        have : a ≠ b := fun e => hd a rfl (e ▸ rfl)
        exact List.set_comm _ _ this
  · funext i; rw [Bool.or_right_comm]
  · funext i; rw [Bool.or_right_comm]

section
variable {K : Cfg} {ops : List Oper} {o o' : Oper} {i i' : Nat} {s s' : St} {f f' : St → St} {t t' : Tr}

theorem Did.comm (h : Did K ops o i s f t) (h' : Did K ops o' i' s' f' t') (hT : apartT ops o o' = true) (hR : ApartR t t') (x : St) : f' (f x) = f (f' x) := by
  obtain ⟨u, rfl, rfl⟩ := h.app hR.a1
  obtain ⟨u', rfl, rfl⟩ := h'.app hR.a2
  exact app_comm x (apartT_spec hT).2.1 (fun b hb => meet_false hR.ww b hb)

theorem ApartR.symm (h : ApartR t t') : ApartR t' t := by
  have sw : ∀ {a b : List Nat}, meet a b = false → meet b a = false := by
    intro a b h
    cases hm : meet b a with
    | false => rfl
    | true =>
      obtain ⟨x, hx, hb⟩ := List.any_eq_true.1 hm
      exact absurd hx (meet_false h x (by simpa using hb))
  exact ⟨h.a2, h.a1, sw h.rw, sw h.ww, sw h.wr, sw h.frw, sw h.fww, sw h.fwr⟩

theorem apartT_symm {a b : Oper} (h : apartT ops a b = true) : apartT ops b a = true := by
  obtain ⟨h1, h2, h3⟩ := apartT_spec h
  unfold apartT
  rw [Bool.and_eq_true]
  constructor
  · split
    · rename_i d hd
      simp only [Bool.and_eq_true, Bool.not_eq_true', bne_iff_ne, ne_eq]
      refine ⟨?_, fun e => h2 d e hd⟩
      have := h3 d hd
      simpa using this
    · rfl
  · split
    · rename_i d hd
      have := h1 d hd
      simpa using this
    · rfl

end
end Go.Proofs.Ytlehbecajmjgkaa.V
