/- Part of a proof by a value interpreter: what a call leaves, on the caller's side. -/
import Derived.Test.YtlehbecajmjgkaaVr
set_option linter.unusedVariables false
set_option linter.unusedSimpArgs false
namespace Go.Proofs.Ytlehbecajmjgkaa.V

section
variable {P : Program} {K : Cfg} {w0 : World} {M : Hx} {o : Oper} {i : Nat} {s : St} {a : Act} {w w' : World} {G : Gh} {u : U}

/-- the caller's names behind the call -/
def afterG (G G1 : Gh) (size n0 p1 p2 : Nat) (pure : Bool) (lent : List Nat) (nb : Option Nat) (q : Nat) : Gh :=
  { lb := fun b => if nb = some b then G1.lb q else G.lb b
    la := fun id => if n0 ≤ id ∧ id < n0 + p2 then G1.la (p1 + (id - n0)) else G.la id
    sz := fun k => if k < size then G.sz k else G1.sz k
    im := fun k => G.im k ∨ (pure = false ∧ ∃ i ∈ lent, ∃ m, G.la i = some (some (k, m))) ∨ (G1.im k ∧ size ≤ k) }

/-- the callee's numbers as the caller's -/
def reTg (n0 p1 : Nat) : Tg → Tg
  | .ow j => .ow (n0 + (j - p1))
  | .pa j => .pa (n0 + (j - p1))
  | t => t

theorem newIds_map (n0 p1 : Nat) : (pat : List Bool) → (q : Nat) → (newIds (p1 + q) pat).map (reTg n0 p1) = newIds (n0 + q) pat
  | [], _ => rfl
  | true :: r, q => by
    simp only [newIds, List.map_cons, reTg]
    rw [show p1 + q + 1 = p1 + (q + 1) by omega, newIds_map n0 p1 r (q + 1), show n0 + (p1 + q - p1) = n0 + q by omega, show n0 + q + 1 = n0 + (q + 1) by omega]
  | false :: r, q => by
    simp only [newIds, List.map_cons, reTg]
    rw [show p1 + q + 1 = p1 + (q + 1) by omega, newIds_map n0 p1 r (q + 1), show n0 + q + 1 = n0 + (q + 1) by omega]

theorem mem_newIds : {pat : List Bool} → {n : Nat} → {tg : Tg} → tg ∈ newIds n pat → (tg = .im ∧ false ∈ pat) ∨ ∃ j, tg = .ow j ∧ n ≤ j ∧ j < n + pat.length
  | [], _, _, h => by simp [newIds] at h
  | true :: r, n, tg, h => by
    simp only [newIds, List.mem_cons] at h
    rcases h with rfl | h
    · exact .inr ⟨n, rfl, Nat.le_refl _, by simp⟩
    · rcases mem_newIds h with ⟨rfl, hf⟩ | ⟨j, rfl, h1, h2⟩
      · exact .inl ⟨rfl, List.mem_cons_of_mem _ hf⟩
      · exact .inr ⟨j, rfl, by omega, by simp; omega⟩
  | false :: r, n, tg, h => by
    simp only [newIds, List.mem_cons] at h
    rcases h with rfl | h
    · exact .inl ⟨rfl, by simp⟩
    · rcases mem_newIds h with ⟨rfl, hf⟩ | ⟨j, rfl, h1, h2⟩
      · exact .inl ⟨rfl, List.mem_cons_of_mem _ hf⟩
      · exact .inr ⟨j, rfl, by omega, by simp; omega⟩

/-- the results: where the caller has them -/
theorem outVals_spec (dst : Nat) : (outs : List RTy) → (r : RDen outs) → (n n1 q : Nat) → ∀ (j : Nat) (v : V), (outVals dst outs r n).1[j]? = some v →
    (∃ τ y pat m, (.val τ pat) ∈ outs ∧ v = .dat ⟨τ, y, newIds (n + m) pat⟩ ∧ (outTm q n1 outs r)[j]? = some (.one (.dat ⟨τ, y, newIds (n1 + m) pat⟩)) ∧ m + pat.length ≤ patLen outs) ∨
    (∃ τ pat, (.bx τ pat) ∈ outs ∧ v = .ptr dst [] τ ∧ (outTm q n1 outs r)[j]? = some (.one (.ptr (q + j) [] τ)))
  | [], r, n, n1, q, j, v, h => by simp [outVals] at h
  | .val τ pat :: rs, r, n, n1, q, 0, v, h => by
    simp only [outVals] at h
    simp only [List.getElem?_cons_zero, Option.some.injEq] at h
    exact .inl ⟨τ, r.1, pat, 0, by simp, h.symm, rfl, by simp [patLen]⟩
  | .val τ pat :: rs, r, n, n1, q, j + 1, v, h => by
    simp only [outVals, List.getElem?_cons_succ] at h
    rcases outVals_spec dst rs r.2 (n + pat.length) (n1 + pat.length) (q + 1) j v h with ⟨τ', y, pat', m, h1, h2, h3, h4⟩ | ⟨τ', pat', h1, h2, h3⟩
    · exact .inl ⟨τ', y, pat', pat.length + m, List.mem_cons_of_mem _ h1, by rw [h2, Nat.add_assoc], by simp only [outTm, List.getElem?_cons_succ]; rw [h3, Nat.add_assoc], by simp only [patLen]; omega⟩
    · exact .inr ⟨τ', pat', List.mem_cons_of_mem _ h1, h2, by simp only [outTm, List.getElem?_cons_succ]; rw [h3, show q + 1 + j = q + (j + 1) by omega]⟩
  | .bx τ pat :: rs, r, n, n1, q, 0, v, h => by
    simp only [outVals] at h
    simp only [List.getElem?_cons_zero, Option.some.injEq] at h
    exact .inr ⟨τ, pat, by simp, h.symm, rfl⟩
  | .bx τ pat :: rs, r, n, n1, q, j + 1, v, h => by
    simp only [outVals, List.getElem?_cons_succ] at h
    rcases outVals_spec dst rs r.2 (n + pat.length) (n1 + pat.length) (q + 1) j v h with ⟨τ', y, pat', m, h1, h2, h3, h4⟩ | ⟨τ', pat', h1, h2, h3⟩
    · exact .inl ⟨τ', y, pat', pat.length + m, List.mem_cons_of_mem _ h1, by rw [h2, Nat.add_assoc], by simp only [outTm, List.getElem?_cons_succ]; rw [h3, Nat.add_assoc], by simp only [patLen]; omega⟩
    · exact .inr ⟨τ', pat', List.mem_cons_of_mem _ h1, h2, by simp only [outTm, List.getElem?_cons_succ]; rw [h3, show q + 1 + j = q + (j + 1) by omega]⟩

theorem outVals_len (dst : Nat) : (outs : List RTy) → (r : RDen outs) → (n : Nat) → (outVals dst outs r n).1.length = outs.length ∧ (outVals dst outs r n).2.2 = n + patLen outs
  | [], _, n => ⟨rfl, rfl⟩
  | .val τ pat :: rs, r, n => by
    have := outVals_len dst rs r.2 (n + pat.length)
    simp only [outVals, patLen, List.length_cons]
    exact ⟨by rw [this.1], by rw [this.2]; omega⟩
  | .bx τ pat :: rs, r, n => by
    have := outVals_len dst rs r.2 (n + pat.length)
    simp only [outVals, patLen, List.length_cons]
    exact ⟨by rw [this.1], by rw [this.2]; omega⟩

/-- the boxes that were handed over: where the caller has them -/
theorem outBoxes_spec : (ins : List ATy) → (b : BDen ins) → (bxs : List Nat) → (n m : Nat) → ins.all ATy.noOwn = true → ∀ j c, posBox ins bxs j = some c →
    ∃ τ y pat, (.bx τ pat) ∈ ins ∧ ((endBx m ins b)[j]?).bind id = some ⟨τ, y, List.replicate pat.length .im⟩ ∧ (c, ⟨τ, y, List.replicate pat.length .im⟩) ∈ outBoxes ins b bxs n
  | [], _, _, _, _, _, j, c, h => by simp [posBox] at h
  | .val τ :: r, b, bxs, n, m, hno, 0, c, h => by simp [posBox] at h
  | .val τ :: r, b, bxs, n, m, hno, j + 1, c, h => by
    simp only [List.all_cons, Bool.and_eq_true] at hno
    obtain ⟨τ', y, pat, h1, h2, h3⟩ := outBoxes_spec r b bxs n m hno.2 j c (by simpa [posBox] using h)
    exact ⟨τ', y, pat, List.mem_cons_of_mem _ h1, by simpa [endBx] using h2, h3⟩
  | .fn f :: r, b, bxs, n, m, hno, 0, c, h => by simp [posBox] at h
  | .fn f :: r, b, bxs, n, m, hno, j + 1, c, h => by
    simp only [List.all_cons, Bool.and_eq_true] at hno
    obtain ⟨τ', y, pat, h1, h2, h3⟩ := outBoxes_spec r b bxs n m hno.2 j c (by simpa [posBox] using h)
    exact ⟨τ', y, pat, List.mem_cons_of_mem _ h1, by simpa [endBx] using h2, h3⟩
  | .bx τ pat :: r, b, [], n, m, hno, j, c, h => by cases j <;> simp [posBox] at h
  | .bx τ pat :: r, b, b0 :: bxs, n, m, hno, 0, c, h => by
    simp only [posBox, Option.some.injEq] at h
    subst h
    simp only [List.all_cons, Bool.and_eq_true] at hno
    refine ⟨τ, b.1, pat, by simp, ?_, ?_⟩
    · simp only [endBx, List.getElem?_cons_zero]
      rw [newIds_im m pat hno.1]; rfl
    · simp only [outBoxes]
      rw [newIds_im n pat hno.1]; simp
  | .bx τ pat :: r, b, b0 :: bxs, n, m, hno, j + 1, c, h => by
    simp only [List.all_cons, Bool.and_eq_true] at hno
    obtain ⟨τ', y, pat', h1, h2, h3⟩ := outBoxes_spec r b.2 bxs (n + pat.length) (m + pat.length) hno.2 j c (by simpa [posBox] using h)
    exact ⟨τ', y, pat', List.mem_cons_of_mem _ h1, by simpa [endBx] using h2, List.mem_cons_of_mem _ h3⟩

theorem setBoxes_len : (l : List (Nat × D)) → (bx : List (Option D)) → (setBoxes bx l).length = bx.length
  | [], _ => rfl
  | (b, d) :: r, bx => by simp only [setBoxes]; rw [setBoxes_len r]; simp

theorem setBoxes_other : (l : List (Nat × D)) → (bx : List (Option D)) → (b : Nat) → (∀ d, (b, d) ∉ l) → (setBoxes bx l)[b]? = bx[b]?
  | [], _, _, _ => rfl
  | (b', d') :: r, bx, b, h => by
    simp only [setBoxes]
    rw [setBoxes_other r _ b (fun d hd => h d (List.mem_cons_of_mem _ hd)), List.getElem?_set_ne]
    rintro rfl
    exact h d' (List.mem_cons_self ..)

theorem setBoxes_mem : (l : List (Nat × D)) → (bx : List (Option D)) → (b : Nat) → (d : D) → (l.map (·.1)).Nodup → (b, d) ∈ l → b < bx.length → (setBoxes bx l)[b]? = some (some d)
  | [], _, _, _, _, h, _ => by simp at h
  | (b', d') :: r, bx, b, d, hn, h, hl => by
    simp only [setBoxes]
    rw [List.map_cons, List.nodup_cons] at hn
    rcases List.mem_cons.1 h with h | h
    · cases h
      rw [setBoxes_other r _ _ (fun d hd => hn.1 (List.mem_map.2 ⟨_, hd, rfl⟩)), List.getElem?_set_self hl]
    · exact setBoxes_mem r _ b d hn.2 h (by simpa using hl)

end
end Go.Proofs.Ytlehbecajmjgkaa.V
