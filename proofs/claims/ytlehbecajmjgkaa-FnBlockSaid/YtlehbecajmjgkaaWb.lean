/- Part of a proof by a value interpreter: copy. -/
import Derived.Test.YtlehbecajmjgkaaWa
set_option linter.unusedVariables false
set_option linter.unusedSimpArgs false
namespace Go.Proofs.Ytlehbecajmjgkaa.V

section
variable {P : Program} {K : Cfg} {w0 : World} {M : Hx} {o : Oper} {i : Nat} {s : St} {a : Act} {w w' : World} {G : Gh} {u : U}

/-- what 'copy' does, whatever the size of an element -/
theorem run_copy_any {dT sT ty elem : TypeId} {τ : Ty} {g o' dLen dCap sLen sCap : Nat} {ad : Addr} {cur : Array Value} {t : TypeId} {cs : List Value} (hu : P.underlying dT = some (.slice elem)) (hs : TyOk P K.el τ elem)
    (hg : w.heap[g]? = some (.cells cur t (0, 0))) (hn : cs.length = min sLen dLen * τ.size)
    (hsrc : ∀ j v, cs[j]? = some v → w.cell? (ad.add j) = some v) (hfit : o' + cs.length ≤ cur.size) (h1 : ∀ v ∈ cs, v.oneCell' = true) :
    (Builtin.copy_ #[dT, sT] ty #[.slice (some ⟨g, o', none⟩) dLen dCap, .slice (some ad) sLen sCap]).run P w = .ok (goInt (min sLen dLen : Nat)) (w.setRow g (putC cur.toList o' cs).toArray) := by
  have hl := run_loadCells_list (P := P) w ad cs hsrc
  have hst := run_storeCells_at P g o' t cs 0 cur w hg (by simpa using hfit) h1
  rw [hn] at hl
  simp only [Nat.add_zero] at hst
  have hmin : Nat.min sLen dLen = min sLen dLen := rfl
  simp [Builtin.copy_, run_underlying hu, Builtin.lenOf, Builtin.firstCells, run_sizeOf hs.info w, hmin, hl, hst, putC]

theorem run_copy_nothing {dT sT ty elem : TypeId} {τ : Ty} {d : Option Addr} {dLen dCap : Nat} (hu : P.underlying dT = some (.slice elem)) (hs : TyOk P K.el τ elem) :
    (Builtin.copy_ #[dT, sT] ty #[.slice d dLen dCap, .slice none 0 0]).run P w = .ok (goInt 0) w := by
  cases d <;> simp [Builtin.copy_, run_underlying hu, Builtin.lenOf, Builtin.firstCells, run_sizeOf hs.info w, storeCells]

theorem run_copy_to_nil {dT sT ty elem : TypeId} {τ : Ty} {ad : Option Addr} {sLen sCap : Nat} (hu : P.underlying dT = some (.slice elem)) (hs : TyOk P K.el τ elem) :
    (Builtin.copy_ #[dT, sT] ty #[.slice none 0 0, .slice ad sLen sCap]).run P w = .ok (goInt 0) w := by
  have hl : ∀ (x : Addr), (loadCells x 0).run P w = .ok #[] w := fun x => by simpa using run_loadCells_list (P := P) w x [] (by simp)
  cases ad <;> simp [Builtin.copy_, run_underlying hu, Builtin.lenOf, Builtin.firstCells, run_sizeOf hs.info w, hl]

theorem over_len {α : Type} (ys zs : List α) : (over ys zs).length = zs.length := by
  unfold over; rw [List.length_append, List.length_take, List.length_drop]; omega

theorem over_get {α : Type} (ys zs : List α) (j : Nat) : (over ys zs)[j]? = if j < zs.length then (if j < ys.length then ys[j]? else zs[j]?) else none := by
  by_cases hz : j < zs.length
  · rw [if_pos hz]
    unfold over
    by_cases hy : j < ys.length
    · rw [if_pos hy, List.getElem?_append_left (by rw [List.length_take]; omega), List.getElem?_take, if_pos hz]
    · rw [if_neg hy, List.getElem?_append_right (by rw [List.length_take]; omega), List.getElem?_drop, List.length_take]
      congr 1
      omega
  · rw [if_neg hz, List.getElem?_eq_none (by rw [over_len]; omega)]

/-- copy into a slice of the frame's own -/
theorem g_copy (hK : TysOk P K) (h : Inv K.el w0 M s a w G) {cl : Call} {x y : Operand} {dT sT : TypeId} {t : Ty} {xs ys : List t.den} {g : List Tg} {wv : V} {d2 : D} {id : Nat} {s' : St} (ho : o.op = .call cl) (hc : cl.callee = .builtin .copy)
    (ha : cl.args.toList = [x, y]) (hat : cl.argTypes.toList = [dT, sT]) (hty : K.ty dT = some (.sl t)) (hx : s.ev x = .one (.dat ⟨.sl t, xs, g⟩)) (hy : s.ev y = .one wv) (hown : ownId s.mv s.fz g = some id) (hto : wv.to (.sl t) = some d2)
    (has : d2.as (.sl t) = some ys) (hu : s.upd id t (over (ys.take xs.length)) [] = some s') :
    ∀ (next : Act → World → Prop) (Q : Exit → Act → World → Prop), (∀ a' w' G', Inv K.el w0 M (s'.put o.dst (num .i64 (min ys.length xs.length : Nat))) a' w' G' → (∀ id, G'.la id ≠ none → G.la id ≠ none) → next a' w') → o.wp P a w next Q := by
  have hbx := h.ev x
  have hby := h.ev y
  rw [hx] at hbx
  rw [hy] at hby
  have e1 : cl.args = #[x, y] := by rw [← Array.toArray_toList (xs := cl.args), ha]
  have e2 : cl.argTypes = #[dT, sT] := by rw [← Array.toArray_toList (xs := cl.argTypes), hat]
  obtain ⟨tg, rfl, hr⟩ := rep_dat_sl hbx
  obtain ⟨hmv, hfz, tg', hg', htg⟩ := ownId_some hown
  cases hg'
  obtain ⟨hsl, hte⟩ := (hK _ _ hty).sl
  obtain ⟨hety, cs2, hv2, hr2⟩ := rep_to hto hby
  have hd2 := D.as_some has
  rw [hd2] at hr2 hv2
  obtain ⟨tg2, hg2, hs2⟩ := rep_dat_sl (w := w) (G := G) (el := K.el) (v := a.eval y) ⟨cs2, hv2, hr2⟩
  obtain ⟨ad, cap, hv⟩ := hr.one
  obtain ⟨ad2, cap2, hvy⟩ := hs2.one
  rw [hv] at hr
  rw [hvy] at hs2
  have fin : ∀ w', (Builtin.copy_ #[dT, sT] o.type #[.slice ad xs.length cap, .slice ad2 ys.length cap2]).run P w = .ok (goInt (min ys.length xs.length : Nat)) w' → UpdA K.el w0 M s w w' G id t (over (ys.take xs.length)) →
      ∀ (next : Act → World → Prop) (Q : Exit → Act → World → Prop), (∀ a' w' G', Inv K.el w0 M (s'.put o.dst (num .i64 (min ys.length xs.length : Nat))) a' w' G' → (∀ id, G'.la id ≠ none → G.la id ≠ none) → next a' w') → o.wp P a w next Q := by
    intro w' hrun hupd next Q hn
    have hrun2 : (execOp a.eval o).run P w = .ok (.value (goInt (min ys.length xs.length : Nat))) w' := by
      simp only [execOp, ho, e1, e2, hc, resolve, invoke, builtin, Sem.run_bind, Sem.run_pure, Result.andThen_ok, List.map_toArray, List.map_cons, List.map_nil, hv, hvy, hrun]
    unfold Oper.wp
    rw [hrun2, Oper.upon_value]
    exact hn _ _ G ((Inv.upd h hupd hu).put (rep_num (inK_of fun hk => by cases hk))) (fun id hid => hid)
  cases ad with
  | none =>
    obtain ⟨rfl, _, rfl⟩ := hr.none_nil
    have hla : G.la id = some none := by
      have own : ∀ full, OwnAt w G K.el t [] id full (.slice none ([] : List t.den).length 0) → G.la id = some none := by
        intro full hh
        unfold OwnAt at hh
        split at hh
        · exact hh.elim
        · assumption
        · obtain ⟨_, _, _, _, _, hh, _⟩ := hh; simp at hh
      cases tg with
      | im => simp [tgIds] at htg
      | ni => simp [tgIds] at htg
      | ow j => have : j = id := by simpa [tgIds] using htg
                subst this; exact own true hr
      | pa j => have : j = id := by simpa [tgIds] using htg
                subst this; exact own false hr
    refine fin w ?_ (UpdA.nil h hla (by simp [over]))
    have := run_copy_to_nil (P := P) (K := K) (w := w) (sT := sT) (ty := o.type) (ad := ad2) (sLen := ys.length) (sCap := cap2) hsl hte
    simpa using this
  | some ad =>
    obtain ⟨b, o', sp⟩ := ad
    obtain ⟨rfl, rfl, _, ext, c, hla, hle, hsz, hpos, hcap, hheap, hcs, hel⟩ := hr.ownCells htg
    cases ad2 with
    | none =>
      obtain ⟨rfl, _, rfl⟩ := hs2.none_nil
      refine fin w ?_ (UpdOk.abs h ⟨hla, hheap, ⟨hheap, fun _ _ => rfl, rfl, rfl, rfl, rfl⟩, rfl, fun zs hz hzs => ?_⟩ hmv hfz)
      · have := run_copy_nothing (P := P) (K := K) (w := w) (sT := sT) (ty := o.type) (d := some ⟨b, 0, none⟩) (dLen := xs.length) (dCap := cap) hsl hte
        simpa using this
      · have : over (([] : List t.den).take xs.length) zs = zs := by simp [over]
        rw [this]
        exact ⟨rfl, hzs⟩
    | some ad2 =>
      obtain ⟨_, B, hBl, hBc, hB1, hBr⟩ := hs2.news
      have hmin : min ys.length xs.length * t.size ≤ B.length := by rw [hBl]; exact Nat.mul_le_mul_right _ (Nat.min_le_left ..)
      have hcl : (B.take (min ys.length xs.length * t.size)).length = min ys.length xs.length * t.size := by rw [List.length_take]; omega
      have hmc : min ys.length xs.length * t.size ≤ c.size := by rw [hcs]; exact Nat.mul_le_mul_right _ (by omega)
      have hrun := run_copy_any (P := P) (K := K) (sT := sT) (ty := o.type) (dLen := xs.length) (dCap := cap) (sLen := ys.length) (sCap := cap2) (ad := ad2) (o' := 0) (cs := B.take (min ys.length xs.length * t.size)) hsl hte hheap hcl
        (fun j v hj => by
          rw [List.getElem?_take] at hj
          split at hj
          · exact hBc j v hj
          · cases hj) (by rw [hcl]; omega) (fun v hv => hB1 v (List.mem_of_mem_take hv))
      refine fin _ hrun (UpdOk.abs h ⟨hla, hheap, Wrote.of_setRow hheap, ?_, fun zs hz hzs => ⟨over_len _ _, fun j z hj => ?_⟩⟩ hmv hfz)
      · rw [List.size_toArray, putC_length (by rw [hcl, Array.length_toList (xs := c)]; omega), Array.length_toList (xs := c)]
      · rw [over_get] at hj
        split at hj
        · rename_i hjz
          have hjc : (j + 1) * t.size ≤ c.toList.length := by
            rw [Array.length_toList (xs := c), hcs]
            exact Nat.mul_le_mul_right _ (by omega)
          show RepIm w G.im t z (seg (putC c.toList 0 (B.take (min ys.length xs.length * t.size))) j t.size)
          unfold putC
          rw [List.take_zero, List.nil_append, Nat.zero_add]
          rw [List.length_take] at hj
          split at hj
          · rename_i hjy
            have hjm : j < min ys.length xs.length := by omega
            have h2 : (j + 1) * t.size ≤ min ys.length xs.length * t.size := Nat.mul_le_mul_right _ hjm
            rw [seg_append_left (by rw [hcl]; exact h2), seg_take h2]
            rw [List.getElem?_take, if_pos (by omega)] at hj
            exact hBr j z hj
          · rename_i hjy
            have hje : j = min ys.length xs.length + (j - min ys.length xs.length) := by omega
            have := hzs j z hj
            rw [hje] at this ⊢
            rw [seg_append_right hcl, hcl]
            unfold seg at this ⊢
            rw [List.drop_drop, ← Nat.add_mul]
            exact this
        · cases hj

end
end Go.Proofs.Ytlehbecajmjgkaa.V
