/- Part of a proof by a value interpreter: what an operation depends on. -/
import Derived.Test.YtlehbecajmjgkaaWd
set_option linter.unusedVariables false
set_option linter.unusedSimpArgs false
namespace Go.Proofs.Ytlehbecajmjgkaa.V

section
variable {K : Cfg} {Ω : Type} {i base : Nat} {ev ev' : Operand → W} {bx bx' : Nat → Option D} {mv mv' fz fz' : Nat → Bool} {c : U → Option Ω} {u : U}

theorem buildK_ev (arr : Bool) (c : D → Option Ω) : (ps : List (Nat × Operand)) → (d : D) → (∀ q ∈ ps, ev' q.2 = ev q.2) → buildK arr ev' ps d c = buildK arr ev ps d c
  | [], d, _ => rfl
  | (j, x) :: r, d, h => by
    simp only [buildK]
    have hx : ev' x = ev x := h (j, x) (List.mem_cons_self ..)
    rw [hx]
    congr 1
    funext f
    split
    · split
      · congr 1
        funext y g
        exact buildK_ev arr c r _ (fun q hq => h q (List.mem_cons_of_mem _ hq))
      · rfl
    · rfl

theorem elemsK_ev (t : Ty) (c : List t.den → List Nat → Option Ω) : (ps : List (Nat × Operand)) → (xs : List t.den) → (ids : List Nat) → (∀ q ∈ ps, ev' q.2 = ev q.2) → elemsK t ev' ps xs ids c = elemsK t ev ps xs ids c
  | [], xs, ids, _ => rfl
  | (j, x) :: r, xs, ids, h => by
    simp only [elemsK]
    have hx : ev' x = ev x := h (j, x) (List.mem_cons_self ..)
    rw [hx]
    split
    · split
      · split
        · exact elemsK_ev t c r _ _ (fun q hq => h q (List.mem_cons_of_mem _ hq))
        · rfl
      · rfl
    · rfl

theorem opC_ev (o : Oper) (h : ∀ x ∈ o.op.operands, ev' x = ev x) : opC K o i base ev' bx mv fz c = opC K o i base ev bx mv fz c := by
  obtain ⟨dst, op, type, pos, after, guard⟩ := o
  cases op <;> simp only [Op.operands] at h <;> simp only [opC]
  case build t ps =>
    have h' : ∀ q ∈ ps.toList, ev' q.2 = ev q.2 := fun q hq => h q.2 (List.mem_toArray.2 (List.mem_map.2 ⟨q, hq, rfl⟩))
    split
    · split
      · exact buildK_ev _ _ _ _ h'
      · rfl
    · rfl
  case buildSlice t n ps =>
    have h' : ∀ q ∈ ps.toList, ev' q.2 = ev q.2 := fun q hq => h q.2 (List.mem_toArray.2 (List.mem_map.2 ⟨q, hq, rfl⟩))
    split
    · split
      · exact elemsK_ev _ _ _ _ _ h'
      · rfl
    · rfl
  case slice t x lo hi mx => cases lo <;> cases hi <;> cases mx <;> simp_all
  case call cl =>
    have ha : ∀ x ∈ cl.args.toList, ev' x = ev x := fun x hx => h x (by
      simp only [Call.operands, Array.mem_append]
      exact .inr (by simpa using hx))
    have hargs : cl.args.toList.map ev' = cl.args.toList.map ev := List.map_congr_left ha
    split
    · split
      · rename_i x t hx ht
        rw [ha x (by rw [hx]; simp)]
      · rfl
    · split
      · rename_i x y hx
        rw [ha x (by rw [hx]; simp), ha y (by rw [hx]; simp)]
      · rfl
    · split
      · rename_i x y t t' hx ht
        rw [ha x (by rw [hx]; simp), ha y (by rw [hx]; simp)]
      · rfl
    · rename_i f hf
      have hfe : ev' f = ev f := h f (by
        simp only [Call.operands, Array.mem_append]
        left
        rw [hf]; simp)
      rw [hfe, hargs]
    · rfl
  all_goals (first | rfl | (simp_all; done))

end
end Go.Proofs.Ytlehbecajmjgkaa.V
