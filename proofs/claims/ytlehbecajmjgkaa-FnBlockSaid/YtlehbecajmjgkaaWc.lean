/- Part of a proof by a value interpreter: copy into a box; the operations of the whole frame, joined. -/
import Derived.Test.YtlehbecajmjgkaaWb
set_option linter.unusedVariables false
set_option linter.unusedSimpArgs false
namespace Go.Proofs.Ytlehbecajmjgkaa.V

section
variable {P : Program} {K : Cfg} {w0 : World} {M : Hx} {o : Oper} {i : Nat} {s : St} {a : Act} {w w' : World} {G : Gh} {u : U}

theorem set_box_same {s : St} {b : Nat} {d : D} (h : s.box b = some d) : s.bx.set b (some d) = s.bx := by
  unfold St.box at h
  obtain ⟨od, ho, hod⟩ := Option.bind_eq_some_iff.1 h
  have : od = some d := hod
  subst this
  obtain ⟨hl, he⟩ := List.getElem?_eq_some_iff.1 ho
  rw [← he]
  exact List.set_getElem_self hl

theorem g_copyBox (hK : TysOk P K) (h : Inv K.el w0 M s a w G) {cl : Call} {x y : Operand} {dT sT : TypeId} {t : Ty} {b n : Nat} {xs ys : List t.den} {g : List Tg} {wv : V} {d2 : D} (ho : o.op = .call cl) (hc : cl.callee = .builtin .copy)
    (ha : cl.args.toList = [x, y]) (hat : cl.argTypes.toList = [dT, sT]) (hty : K.ty dT = some (.sl t)) (hx : s.ev x = .one (.bsl b)) (hy : s.ev y = .one wv) (hbox : s.box b = some ⟨.arr n t, xs, g⟩) (hto : wv.to (.sl t) = some d2)
    (has : d2.as (.sl t) = some ys) :
    ∀ (next : Act → World → Prop) (Q : Exit → Act → World → Prop), (∀ a' w' G', Inv K.el w0 M (({ s with bx := s.bx.set b (some ⟨.arr n t, over ys xs, g⟩) } : St).put o.dst (num .i64 (min ys.length n : Nat))) a' w' G' → (∀ id, G'.la id ≠ none → G.la id ≠ none) → next a' w') → o.wp P a w next Q := by
  have hbx := h.ev x
  have hby := h.ev y
  rw [hx] at hbx
  rw [hy] at hby
  have e1 : cl.args = #[x, y] := by rw [← Array.toArray_toList (xs := cl.args), ha]
  have e2 : cl.argTypes = #[dT, sT] := by rw [← Array.toArray_toList (xs := cl.argTypes), hat]
  obtain ⟨k, n', t', hlb, hv⟩ := hbx
  obtain ⟨x', g', c, e, hb', hheap, hrep⟩ := h.bx _ _ _ hlb
  rw [hbox] at hb'
  cases hb'
  obtain ⟨hsl, hte⟩ := (hK _ _ hty).sl
  obtain ⟨hety, cs2, hv2, hr2⟩ := rep_to hto hby
  have hd2 := D.as_some has
  rw [hd2] at hr2 hv2
  obtain ⟨tg2, hg2, hs2⟩ := rep_dat_sl (w := w) (G := G) (el := K.el) (v := a.eval y) ⟨cs2, hv2, hr2⟩
  obtain ⟨ad2, cap2, hvy⟩ := hs2.one
  rw [hvy] at hs2
  simp only [RepT, RepIm] at hrep
  obtain ⟨rfl, hxl, hcl, hel⟩ := hrep
  have fin : ∀ w', (Builtin.copy_ #[dT, sT] o.type #[.slice (some ⟨k, 0, none⟩) n n, .slice ad2 ys.length cap2]).run P w = .ok (goInt (min ys.length n : Nat)) w' → Inv K.el w0 M { s with bx := s.bx.set b (some ⟨.arr n t, over ys xs, []⟩) } a w' G →
      ∀ (next : Act → World → Prop) (Q : Exit → Act → World → Prop), (∀ a' w' G', Inv K.el w0 M (({ s with bx := s.bx.set b (some ⟨.arr n t, over ys xs, []⟩) } : St).put o.dst (num .i64 (min ys.length n : Nat))) a' w' G' → (∀ id, G'.la id ≠ none → G.la id ≠ none) → next a' w') → o.wp P a w next Q := by
    intro w' hrun hinv next Q hn
    have hrun2 : (execOp a.eval o).run P w = .ok (.value (goInt (min ys.length n : Nat))) w' := by
      simp only [execOp, ho, e1, e2, hc, resolve, invoke, builtin, Sem.run_bind, Sem.run_pure, Result.andThen_ok, List.map_toArray, List.map_cons, List.map_nil, hv, hvy, hrun]
    unfold Oper.wp
    rw [hrun2, Oper.upon_value]
    exact hn _ _ G (hinv.put (rep_num (inK_of fun hk => by cases hk))) (fun id hid => hid)
  cases ad2 with
  | none =>
    obtain ⟨rfl, _, rfl⟩ := hs2.none_nil
    refine fin w ?_ ?_
    · have := run_copy_nothing (P := P) (K := K) (w := w) (sT := sT) (ty := o.type) (d := some ⟨k, 0, none⟩) (dLen := n) (dCap := n) hsl hte
      simpa using this
    · have : over ([] : List t.den) xs = xs := by simp [over]
      rw [this, set_box_same hbox]
      exact h
  | some ad2 =>
    obtain ⟨_, B, hBl, hBc, hB1, hBr⟩ := hs2.news
    have hcl' : (B.take (min ys.length n * t.size)).length = min ys.length n * t.size := by
      rw [List.length_take, hBl]
      exact Nat.min_eq_left (Nat.mul_le_mul_right _ (Nat.min_le_left ..))
    have hmc : min ys.length n * t.size ≤ c.toList.length := by rw [hcl]; exact Nat.mul_le_mul_right _ (Nat.min_le_right ..)
    have hmc' : min ys.length n * t.size ≤ c.size := by rwa [Array.length_toList (xs := c)] at hmc
    have hrun := run_copy_any (P := P) (K := K) (sT := sT) (ty := o.type) (dLen := n) (dCap := n) (sLen := ys.length) (sCap := cap2) (ad := ad2) (o' := 0) (cs := B.take (min ys.length n * t.size)) hsl hte hheap hcl'
      (fun j v hj => by
        rw [List.getElem?_take] at hj
        split at hj
        · exact hBc j v hj
        · cases hj) (by rw [hcl']; omega) (fun v hv => hB1 v (List.mem_of_mem_take hv))
    refine fin _ hrun (h.setBox hlb hheap ?_)
    simp only [RepT, RepIm]
    refine ⟨trivial, by rw [over_len, hxl], by rw [putC_length (by rw [hcl']; omega)]; exact hcl, fun j z hj => ?_⟩
    rw [over_get] at hj
    split at hj
    · rename_i hjx
      unfold putC
      rw [List.take_zero, List.nil_append, Nat.zero_add]
      split at hj
      · rename_i hjy
        have hjm : j < min ys.length n := by omega
        have h2 : (j + 1) * t.size ≤ min ys.length n * t.size := Nat.mul_le_mul_right _ hjm
        rw [seg_append_left (by rw [hcl']; exact h2), seg_take h2]
        exact hBr j z hj
      · rename_i hjy
        have hje : j = min ys.length n + (j - min ys.length n) := by omega
        have := hel j z hj
        rw [hje] at this ⊢
        rw [seg_append_right hcl', hcl']
        unfold seg at this ⊢
        rw [List.drop_drop, ← Nat.add_mul]
        exact this
    · cases hj

theorem upd_base {s s' : St} {id : Nat} {t : Ty} {f : List t.den → List t.den} {l : List Nat} (h : s.upd id t f l = some s') : s'.base = s.base := by
  unfold St.upd at h
  split at h
  · cases h; rfl
  · cases h

end
end Go.Proofs.Ytlehbecajmjgkaa.V
