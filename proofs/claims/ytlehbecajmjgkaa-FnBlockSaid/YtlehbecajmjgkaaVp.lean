/- Part of a proof by a value interpreter: append. -/
import Derived.Test.YtlehbecajmjgkaaVo
set_option linter.unusedVariables false
set_option linter.unusedSimpArgs false
namespace Go.Proofs.Ytlehbecajmjgkaa.V

section
variable {P : Program} {K : Cfg} {w0 : World} {M : Hx} {o : Oper} {i : Nat} {s : St} {a : Act} {w w' : World} {G : Gh} {u : U}

/-- a name that no longer may write -/
theorem Inv.move {el : Ty → TypeId} (h : Inv el w0 M s a w G) (ids : List Nat) : Inv el w0 M { s with mv := fun i => s.mv i || ids.contains i } a w G :=
  { df := h.df, len := h.len, blen := h.blen, tm := h.tm, bx := h.bx, bn := h.bn, lbi := h.lbi, lbm := h.lbm
    lam := fun i k n hq => ⟨(h.lam i k n hq).1, fun h1 h2 => (h.lam i k n hq).2.1 h1 (by simp only [Bool.or_eq_false_iff] at h2; exact h2.1), (h.lam i k n hq).2.2⟩
    las := by
      intro i j k n m h1 h2 hne
      obtain ⟨a1, a2⟩ := h.las i j k n m h1 h2 hne
      refine ⟨a1.imp (fun e => by simp [e]) (fun e => by simp [e]), fun e1 e2 => ?_⟩
      simp only [Bool.or_eq_false_iff] at e2
      refine a2 ?_ e2.1
      rcases a1 with a1 | a1
      · exact a1
      · rw [e2.1] at a1; cases a1
    imb := h.imb
    him := h.him
    hlb := h.hlb
    hnb := h.hnb
    fr := h.fr }

/-- the same array, under a new name, and longer -/
theorem Inv.extend {el : Ty → TypeId} (h : Inv el w0 M s a w G) {i0 id g n n' sz : Nat} {c c' : Array Value} {e : TypeId} (hi : G.la i0 = some (some (g, n))) (hmv : s.mv i0 = false) (hfz : s.fz i0 = false) (hid : G.la id = none)
    (hold : w.heap[g]? = some (.cells c e (0, 0))) (hnew : w'.heap[g]? = some (.cells c' e (0, 0))) (hoth : ∀ k, k ≠ g → w'.heap[k]? = w.heap[k]?) (hos : w'.os = w.os) (htp : w'.tape = w.tape) (hou : w'.output = w.output)
    (hsize : w'.heap.size = w.heap.size) (hcs : c'.size = c.size) (hpre : c'.toList.take (n * sz) = c.toList.take (n * sz)) (hsz : G.sz g = sz) (hn : n ≤ n') :
    Inv el w0 M { s with mv := fun i => s.mv i || [i0].contains i } a w' { G with la := fun i => if i = id then some (some (g, n')) else G.la i } ∧
      Keeps w G w' { G with la := fun i => if i = id then some (some (g, n')) else G.la i } el := by
  obtain ⟨hg, him, hmut⟩ := h.lam _ _ _ hi
  have him := him hfz hmv
  have hmax : ∀ j m, G.la j = some (some (g, m)) → m ≤ n := by
    intro j m hj
    by_cases hji : j = i0
    · subst hji; rw [hi] at hj; cases hj; exact Nat.le_refl _
    · obtain ⟨a1, a2⟩ := h.las j i0 g m n hj hi hji
      rcases a1 with a1 | a1
      · exact a2 a1 hmv
      · rw [hmv] at a1; cases a1
  have hla : ∀ j q, G.la j = some q → (if j = id then some (some (g, n')) else G.la j) = some q := by
    intro j q hq
    split
    · rename_i he; subst he; rw [hid] at hq; cases hq
    · exact hq
  have hk : Keeps w G w' { G with la := fun i => if i = id then some (some (g, n')) else G.la i } el := by
    have him' : ∀ {τ : Ty} {x : τ.den} {cs : List Value}, RepIm w G.im τ x cs → RepIm w' G.im τ x cs := fun hh => hh.mono (fun b hb => hoth b (fun e => him (e ▸ hb))) (fun _ hb => hb)
    refine ⟨fun b hb => ⟨hoth b (fun e => him (e ▸ hb)), hb⟩, fun t xs tg v hr => ?_, fun _ _ _ hq => hq⟩
    have own : ∀ j full, OwnAt w G el t xs j full v → OwnAt w' { G with la := fun i => if i = id then some (some (g, n')) else G.la i } el t xs j full v := by
      intro j full hr
      unfold OwnAt at hr ⊢
      split at hr
      · exact hr.elim
      · rename_i hq
        show (match (if j = id then some (some (g, n')) else G.la j) with | none => _ | some none => _ | some (some (g, ext)) => _)
        rw [hla j _ hq]; exact hr
      · rename_i g1 ext hq
        show (match (if j = id then some (some (g, n')) else G.la j) with | none => _ | some none => _ | some (some (g, ext)) => _)
        rw [hla j _ hq]
        obtain ⟨hf, hs, hp, c1, cap, hv, b1, b2, b3, b4, b5⟩ := hr
        by_cases hgg : g1 = g
        · subst hgg
          have hle : xs.length ≤ ext := by split at hf <;> omega
          have hm := hmax j ext hq
          rw [hold] at b3
          simp only [Option.some.injEq, Obj.cells.injEq, and_true] at b3
          obtain ⟨rfl, rfl⟩ := b3
          refine ⟨hf, hs, hp, c', cap, hv, b1, b2, hnew, by rw [hcs]; exact b4, fun q x hx => him' ?_⟩
          have hq : q < xs.length := (List.getElem?_eq_some_iff.1 hx).1
          have hb : (q + 1) * t.size ≤ n * t.size := Nat.mul_le_mul_right _ (by omega)
          rw [← hsz, hs] at hpre
          rw [← seg_take hb, hpre, seg_take hb]
          exact b5 q x hx
        · exact ⟨hf, hs, hp, c1, cap, hv, b1, b2, (hoth _ hgg).trans b3, b4, fun q x hx => him' (b5 q x hx)⟩
    cases tg with
    | im => exact him' hr
    | ni => exact hr
    | ow id => exact own id true hr
    | pa id => exact own id false hr
  have hla' : ∀ j k m, (if j = id then some (some (g, n')) else G.la j) = some (some (k, m)) → (j = id ∧ k = g ∧ m = n') ∨ (j ≠ id ∧ G.la j = some (some (k, m))) := by
    intro j k m hq
    split at hq
    · rename_i he; cases hq; exact .inl ⟨he, rfl, rfl⟩
    · rename_i he; exact .inr ⟨he, hq⟩
  have hmv' : ∀ j, G.la j ≠ none → j ≠ id := fun j hj e => hj (e ▸ hid)
  refine ⟨?_, hk⟩
  exact
  { df := h.df
    len := h.len
    blen := h.blen
    tm := fun i x v h1 h2 => hk.rw' (h.tm i x v h1 h2)
    bx := by
      intro b' k' τ' hq
      obtain ⟨x', g', c'', e', h1, h2, h3⟩ := h.bx b' k' τ' hq
      exact ⟨x', g', c'', e', h1, (hoth _ (fun e => (h.lbm _ _ _ hq).2.1 i0 n (by rw [hi, e]))).trans h2, hk.rt h3⟩
    bn := h.bn
    lbi := h.lbi
    lbm := by
      intro b' k' τ' hq
      refine ⟨(h.lbm _ _ _ hq).1, fun j m hj => ?_, (h.lbm _ _ _ hq).2.2⟩
      rcases hla' _ _ _ hj with ⟨_, rfl, _⟩ | ⟨_, hj⟩
      · exact (h.lbm _ _ _ hq).2.1 i0 n hi
      · exact (h.lbm _ _ _ hq).2.1 j m hj
    lam := by
      intro j k m hj
      rw [hsize]
      rcases hla' _ _ _ hj with ⟨_, rfl, _⟩ | ⟨_, hj⟩
      · exact ⟨hg, fun _ _ => him, hmut⟩
      · refine ⟨(h.lam j k m hj).1, fun h1 h2 => (h.lam j k m hj).2.1 h1 ?_, (h.lam j k m hj).2.2⟩
        simp only [Bool.or_eq_false_iff] at h2
        exact h2.1
    las := by
      intro j1 j2 k m1 m2 h1 h2 hne
      have hmoved : ∀ j m, G.la j = some (some (g, m)) → (s.mv j || [i0].contains j) = true := by
        intro j m hj
        by_cases hji : j = i0
        · simp [hji]
        · rcases (h.las j i0 g m n hj hi hji).1 with a1 | a1
          · simp [a1]
          · rw [hmv] at a1; cases a1
      rcases hla' _ _ _ h1 with ⟨e1, k1, q1⟩ | ⟨e1, g1⟩ <;> rcases hla' _ _ _ h2 with ⟨e2, k2, q2⟩ | ⟨e2, g2⟩
      · exact absurd (e1.trans e2.symm) hne
      · subst k1
        refine ⟨.inr (hmoved _ _ g2), fun _ hh => ?_⟩
        have hh' : (s.mv j2 || [i0].contains j2) = false := hh
        rw [hmoved _ _ g2] at hh'; cases hh'
      · subst k2
        refine ⟨.inl (hmoved _ _ g1), fun _ _ => ?_⟩
        have := hmax _ _ g1
        omega
      · exact (h.move [i0]).las j1 j2 k m1 m2 g1 g2 hne
    imb := fun k hk => by rw [hsize]; exact h.imb k hk
    him := h.him
    hlb := h.hlb
    hnb := h.hnb
    fr := ⟨hos.trans h.fr.os, htp.trans h.fr.tape, hou.trans h.fr.output, by rw [hsize]; exact h.fr.size, fun j hj hm => by
      rw [hoth j (fun e => ?_)]
      · exact h.fr.block j hj hm
      · subst e
        rcases hmut with hm' | hm'
        · omega
        · exact hm hm'⟩ }

/-- the elements of two rows, one behind the other -/
theorem elems_two {im : Nat → Prop} {t : Ty} {xs ys : List t.den} {A B R : List Value} (hA : A.length = xs.length * t.size) (hB : B.length = ys.length * t.size)
    (h1 : ∀ j x, xs[j]? = some x → RepIm w im t x (seg A j t.size)) (h2 : ∀ j x, ys[j]? = some x → RepIm w im t x (seg B j t.size)) :
    ∀ j x, (xs ++ ys)[j]? = some x → RepIm w im t x (seg (A ++ B ++ R) j t.size) := by
  intro j x hx
  by_cases hj : j < xs.length
  · rw [List.getElem?_append_left hj] at hx
    have hb : (j + 1) * t.size ≤ A.length := by rw [hA]; exact Nat.mul_le_mul_right _ hj
    rw [List.append_assoc, seg_append_left hb]
    exact h1 j x hx
  · rw [List.getElem?_append_right (by omega)] at hx
    have hj2 : j - xs.length < ys.length := (List.getElem?_eq_some_iff.1 hx).1
    have hb : (j - xs.length + 1) * t.size ≤ B.length := by rw [hB]; exact Nat.mul_le_mul_right _ hj2
    have e : j = xs.length + (j - xs.length) := by omega
    rw [List.append_assoc, e, seg_append_right hA, seg_append_left hb]
    exact h2 _ x hx

/-- the cells of a slice's elements -/
theorem RepS.news {el : Ty → TypeId} {t : Ty} {ys : List t.den} {tg : Tg} {ad : Addr} {m c : Nat} (hr : RepS w G el t ys tg (.slice (some ad) m c)) :
    m = ys.length ∧ ∃ B : List Value, B.length = m * t.size ∧ (∀ j v, B[j]? = some v → w.cell? (ad.add j) = some v) ∧ (∀ v ∈ B, v.oneCell' = true) ∧ ∀ j y, ys[j]? = some y → RepIm w G.im t y (seg B j t.size) := by
  obtain ⟨b, off, sp⟩ := ad
  obtain ⟨rfl, hm, c2, e, fz, hheap, hfit, hel⟩ := hr.cells
  have hlen : ((c2.toList.drop off).take (m * t.size)).length = m * t.size := by
    rw [List.length_take, List.length_drop, Array.length_toList, hm]
    by_cases h0 : ys.length = 0
    · rw [h0]; simp
    · have := hfit (by omega); omega
  have hseg : ∀ j y, ys[j]? = some y → RepIm w G.im t y (seg ((c2.toList.drop off).take (m * t.size)) j t.size) := by
    intro j y hy
    have hj : j < ys.length := (List.getElem?_eq_some_iff.1 hy).1
    rw [seg_take (by rw [hm]; exact Nat.mul_le_mul_right _ hj)]
    exact hel j y hy
  refine ⟨hm, _, hlen, fun j v hv => ?_, ?_, hseg⟩
  · rw [List.getElem?_take] at hv
    split at hv
    · rw [List.getElem?_drop] at hv
      rw [Addr.add_lit, cell_of_row w b (off + j) c2 e fz hheap]
      simpa using hv
    · cases hv
  · have : RepIm w G.im (.arr ys.length t) ys ((c2.toList.drop off).take (m * t.size)) := by
      simp only [RepIm]
      exact ⟨trivial, by rw [hlen, hm], hseg⟩
    exact this.oneCell

theorem mvK {s : St} {ids : List Nat} {v : W} {dst : Option Tmp} {rf : List Nat} : s.app dst { v := v, mvs := ids, rf := rf } = ({ s with mv := fun i => s.mv i || ids.contains i } : St).put dst v := by
  rw [app_eq]; simp [setBoxes]

/-- append to an array of the frame's own that has a block, of elements that have one -/
theorem append_some (h : Inv K.el w0 M s a w G) {id i0 g n : Nat} {t ty : TypeId} {e : Ty} {xs ys : List e.den} {tg : Tg} {v : Value} {ad : Addr} {m c : Nat} (hK : TyOk P K.el (.sl e) t)
    (hi : G.la i0 = some (some (g, n))) (hmv : s.mv i0 = false) (hfz : s.fz i0 = false) (hid : G.la id = none) (hx : OwnAt w G K.el e xs i0 true v) (hy : RepS w G K.el e ys tg (.slice (some ad) m c)) (hb : xs.length + ys.length ≤ most) :
    ∃ v' w' G', (Builtin.append_ #[t, t] ty #[v, .slice (some ad) m c]).run P w = .ok v' w' ∧ Inv K.el w0 M { s with mv := fun i => s.mv i || [i0].contains i } a w' G' ∧ OwnAt w' G' K.el e (xs ++ ys) id true v' ∧
      ∀ j, G'.la j ≠ none → G.la j ≠ none ∨ j = id := by
  unfold OwnAt at hx
  rw [hi] at hx
  obtain ⟨hf, hs, hp, cc, cap, rfl, h1, h2, h3, h4, h5⟩ := hx
  simp only [if_true] at hf
  obtain ⟨hm, B, hBl, hBc, hB1, hBr⟩ := hy.news
  obtain ⟨hsl, hte⟩ := hK.sl
  obtain ⟨it, hit, hsz, hz, hby⟩ := hte.info
  unfold most at hb
  subst hf
  subst hm
  have hAl : (cc.toList.take (xs.length * e.size)).length = xs.length * e.size := by
    have e0 : cc.toList.length = cap * e.size := by rw [Array.length_toList (xs := cc), h4]
    rw [List.length_take, e0]
    have := Nat.mul_le_mul_right e.size h1
    omega
  have hAr : ∀ j x, xs[j]? = some x → RepIm w G.im e x (seg (cc.toList.take (xs.length * e.size)) j e.size) := by
    intro j x hx
    have hj : j < xs.length := (List.getElem?_eq_some_iff.1 hx).1
    rw [seg_take (Nat.mul_le_mul_right _ hj)]
    exact h5 j x hx
  have hel := fun R => elems_two (w := w) (R := R) hAl hBl hAr hBr
  by_cases hroom : xs.length + ys.length ≤ cap
  · have hfit : xs.length * e.size + B.length ≤ cc.size := by rw [hBl, h4, ← Nat.add_mul]; exact Nat.mul_le_mul_right _ hroom
    have hr := run_append_room (P := P) w t ty _ it hsl hit g xs.length cap cc h3 ad ys.length c B (by rw [hsz]; exact hBl) hBc hB1 hroom (by rw [hsz]; exact hfit)
    rw [hsz] at hr
    have hext := h.extend (n' := xs.length + ys.length) (sz := e.size) (w' := w.setRow g (cc.toList.take (xs.length * e.size) ++ B ++ cc.toList.drop (xs.length * e.size + B.length)).toArray)
      (c' := (cc.toList.take (xs.length * e.size) ++ B ++ cc.toList.drop (xs.length * e.size + B.length)).toArray) hi hmv hfz hid h3 (setRow_heap w g cc _ _ _ h3) (fun k hk => setRow_other w g k _ hk) rfl rfl rfl (by simp)
      (by simp only [List.size_toArray, List.length_append, hAl, List.length_drop, Array.length_toList]; omega)
      (by
        simp only [List.append_assoc]
        rw [List.take_append_of_le_length (by rw [hAl]; exact Nat.le_refl _), List.take_take, Nat.min_self]) hs (by omega)
    refine ⟨_, _, _, hr, hext.1, ?_, fun j hj => ?_⟩
    · unfold OwnAt
      show (match (if id = id then some (some (g, xs.length + ys.length)) else G.la id) with | none => _ | some none => _ | some (some (g, ext)) => _)
      rw [if_pos rfl]
      refine ⟨by simp, hs, hp, _, cap, by rw [List.length_append], hroom, h2, setRow_heap w g cc _ _ _ h3, ?_, fun j x hx => hext.2.rim ?_⟩
      · simp only [List.size_toArray, List.length_append, hAl, List.length_drop, Array.length_toList]; omega
      · exact hel _ j x hx
    · change (if j = id then _ else _) ≠ _ at hj
      split at hj
      · rename_i he; exact .inr he
      · exact .inl hj
  · have hAc : ∀ j u, (cc.toList.take (xs.length * e.size))[j]? = some u → w.cell? ((⟨g, 0, none⟩ : Addr).add j) = some u := by
      intro j u hu
      rw [List.getElem?_take] at hu
      split at hu
      · rw [Addr.add_lit, cell_of_row w g (0 + j) cc _ _ h3]
        simpa using hu
      · cases hu
    have hr := run_append_grow (P := P) w t ty _ it _ hsl hit hz ⟨g, 0, none⟩ xs.length cap (cc.toList.take (xs.length * e.size)) (by rw [hsz]; exact hAl) hAc ad ys.length c B (by rw [hsz]; exact hBl) hBc
      (by omega) (by omega) (growslice_fits (by omega) (by
        have : (xs.length + ys.length) * it.bytes ≤ 4294967296 * 32768 := Nat.mul_le_mul hb hby
        omega))
    have hge := grownCap_ge w (xs.length + ys.length) cap (K.el e)
    have hcm : grownCap w (xs.length + ys.length) cap (K.el e) ≤ maxLen := grownCap_le_maxLen w _ cap _ (by simp only [maxLen]; omega)
    have hzl : (ofCells e (zeroC e)).cells.size = e.size := by
      rw [ofCells_cells (RepT.zero (w := w) (G := G) (el := K.el) e)]; simp [zeroC_len]
    have hgr := Grew.drew w (.cells ((cc.toList.take (xs.length * e.size)).toArray ++ B.toArray ++ Builtin.zeroCells (ofCells e (zeroC e)).cells (grownCap w (xs.length + ys.length) cap (K.el e) - (xs.length + ys.length))) (K.el e))
    have hmvd := h.move [i0]
    have hadd := hmvd.addOwn (n := xs.length + ys.length) (sz := e.size) hid hgr
    have hkk := hmvd.keepsOwn hgr hid (xs.length + ys.length) e.size
    refine ⟨_, _, _, hr, hadd, ?_, fun j hj => ?_⟩
    · unfold OwnAt
      have e1 : (G.addOwn id w.heap.size (xs.length + ys.length) e.size).la id = some (some (w.heap.size, xs.length + ys.length)) := if_pos rfl
      rw [e1]
      refine ⟨by simp, if_pos rfl, hp, _, _, by rw [List.length_append], hge, hcm, hgr.new, ?_, fun j x hx => hkk.rim ?_⟩
      · simp only [Array.size_append, List.size_toArray, hAl, hBl, size_zeroCells, hzl, ← Nat.add_mul]
        congr 1
        omega
      · have := hel (Builtin.zeroCells (ofCells e (zeroC e)).cells (grownCap w (xs.length + ys.length) cap (K.el e) - (xs.length + ys.length))).toList j x hx
        simpa using this
    · change (if j = id then _ else _) ≠ _ at hj
      split at hj
      · rename_i he; exact .inr he
      · exact .inl hj

/-- append to nothing -/
theorem append_nil (h : Inv K.el w0 M s a w G) {id : Nat} {t ty : TypeId} {e : Ty} {ys : List e.den} {tg : Tg} {ad : Option Addr} {m c : Nat} (hK : TyOk P K.el (.sl e) t) (hp : 0 < e.size)
    (hid : G.la id = none) (hy : RepS w G K.el e ys tg (.slice ad m c)) (hb : ys.length ≤ most) :
    ∃ v' w' G', (Builtin.append_ #[t, t] ty #[.slice none 0 0, .slice ad m c]).run P w = .ok v' w' ∧ Inv K.el w0 M s a w' G' ∧ OwnAt w' G' K.el e ys id true v' ∧
      ∀ j, G'.la j ≠ none → G.la j ≠ none ∨ j = id := by
  obtain ⟨hsl, hte⟩ := hK.sl
  obtain ⟨it, hit, hsz, hz, hby⟩ := hte.info
  unfold most at hb
  by_cases hy0 : ys = []
  · subst hy0
    refine ⟨.slice none 0 0, w, G.addNil id, ?_, h.addNil hid, ?_, fun j hj => ?_⟩
    · cases ad with
      | none =>
        obtain ⟨_, rfl, rfl⟩ := hy.none_nil
        simp [Builtin.append_, run_underlying hsl, sizeOf, typeInfo, hit, Builtin.lenOf, Builtin.firstCells]
      | some ad =>
        obtain ⟨hm, _⟩ := hy.news
        simp only [List.length_nil] at hm
        subst hm
        simp [Builtin.append_, run_underlying hsl, sizeOf, typeInfo, hit, Builtin.lenOf, Builtin.firstCells, loadCells, loadCellsFrom]
    · unfold OwnAt
      have e1 : (G.addNil id).la id = some none := if_pos rfl
      rw [e1]
      exact ⟨rfl, rfl⟩
    · change (if j = id then _ else _) ≠ _ at hj
      split at hj
      · rename_i he; exact .inr he
      · exact .inl hj
  · cases ad with
    | none => exact absurd hy.none_nil.1 hy0
    | some ad =>
      obtain ⟨hm, B, hBl, hBc, hB1, hBr⟩ := hy.news
      subst hm
      have hpos : 0 < ys.length := List.length_pos_iff.2 hy0
      have hbb : ys.length * it.bytes ≤ 4294967296 * 32768 := Nat.mul_le_mul hb hby
      have hr := run_append_nil (P := P) w t ty _ it _ hsl hit hz ad ys.length c B (by rw [hsz]; exact hBl) hBc hpos (by omega) (by omega)
      have hge := grownCap_ge w ys.length 0 (K.el e)
      have hcm : grownCap w ys.length 0 (K.el e) ≤ maxLen := grownCap_le_maxLen w _ 0 _ (by simp only [maxLen]; omega)
      have hzl : (ofCells e (zeroC e)).cells.size = e.size := by
        rw [ofCells_cells (RepT.zero (w := w) (G := G) (el := K.el) e)]; simp [zeroC_len]
      have hgr := Grew.drew w (.cells (B.toArray ++ Builtin.zeroCells (ofCells e (zeroC e)).cells (grownCap w ys.length 0 (K.el e) - ys.length)) (K.el e))
      have hadd := h.addOwn (n := ys.length) (sz := e.size) hid hgr
      have hkk := h.keepsOwn hgr hid ys.length e.size
      refine ⟨_, _, _, hr, hadd, ?_, fun j hj => ?_⟩
      · unfold OwnAt
        have e1 : (G.addOwn id w.heap.size ys.length e.size).la id = some (some (w.heap.size, ys.length)) := if_pos rfl
        rw [e1]
        refine ⟨by simp, if_pos rfl, hp, _, _, rfl, hge, hcm, hgr.new, ?_, fun j x hx => hkk.rim ?_⟩
        · simp only [Array.size_append, List.size_toArray, hBl, size_zeroCells, hzl, ← Nat.add_mul]
          congr 1
          omega
        · have hj : j < ys.length := (List.getElem?_eq_some_iff.1 hx).1
          have hb' : (j + 1) * e.size ≤ B.length := by rw [hBl]; exact Nat.mul_le_mul_right _ hj
          simp only [Array.toList_append]
          rw [seg_append_left hb']
          exact hBr j x hx
      · change (if j = id then _ else _) ≠ _ at hj
        split at hj
        · rename_i he; exact .inr he
        · exact .inl hj

/-- append nothing -/
theorem append_none (h : Inv K.el w0 M s a w G) {id i0 g n : Nat} {t ty : TypeId} {e : Ty} {xs : List e.den} {v : Value} (hK : TyOk P K.el (.sl e) t)
    (hi : G.la i0 = some (some (g, n))) (hmv : s.mv i0 = false) (hfz : s.fz i0 = false) (hid : G.la id = none) (hx : OwnAt w G K.el e xs i0 true v) :
    ∃ v' w' G', (Builtin.append_ #[t, t] ty #[v, .slice none 0 0]).run P w = .ok v' w' ∧ Inv K.el w0 M { s with mv := fun i => s.mv i || [i0].contains i } a w' G' ∧ OwnAt w' G' K.el e xs id true v' ∧
      ∀ j, G'.la j ≠ none → G.la j ≠ none ∨ j = id := by
  unfold OwnAt at hx
  rw [hi] at hx
  obtain ⟨hf, hs, hp, cc, cap, rfl, h1, h2, h3, h4, h5⟩ := hx
  simp only [if_true] at hf
  obtain ⟨hsl, hte⟩ := hK.sl
  obtain ⟨it, hit, hsz, hz, hby⟩ := hte.info
  subst hf
  have hext := h.extend (n' := xs.length) (sz := e.size) (w' := w) (c' := cc) hi hmv hfz hid h3 h3 (fun k hk => rfl) rfl rfl rfl rfl rfl rfl hs (Nat.le_refl _)
  refine ⟨.slice (some ⟨g, 0, none⟩) xs.length cap, w, _, ?_, hext.1, ?_, fun j hj => ?_⟩
  · simp [Builtin.append_, run_underlying hsl, sizeOf, typeInfo, hit, Builtin.lenOf, Builtin.firstCells, h1, storeCells]
  · unfold OwnAt
    show (match (if id = id then some (some (g, xs.length)) else G.la id) with | none => _ | some none => _ | some (some (g, ext)) => _)
    rw [if_pos rfl]
    exact ⟨rfl, hs, hp, _, cap, rfl, h1, h2, h3, h4, fun j x hx => hext.2.rim (h5 j x hx)⟩
  · change (if j = id then _ else _) ≠ _ at hj
    split at hj
    · rename_i he; exact .inr he
    · exact .inl hj

theorem s_append {cl : Call} (hK : TysOk P K) (h : Inv K.el w0 M s a w G) (hf : Free s G i) (ho : o.op = .call cl) (hc : cl.callee = .builtin .append) (hu : opC K o i s.base s.ev s.box s.mv s.fz some = some u) : OpGoal P K.el w0 M o i s a w G (s.app o.dst u) := by
  simp only [opC, ho, hc] at hu
  split at hu
  · rename_i x y t t' hx ht
    have e1 : cl.args = #[x, y] := by rw [← Array.toArray_toList (xs := cl.args), hx]
    have e2 : cl.argTypes = #[t, t'] := by rw [← Array.toArray_toList (xs := cl.argTypes), ht]
    have hbx := h.ev x
    have hby := h.ev y
    split at hu
    · rename_i htt
      subst htt
      split at hu
      · rename_i e v w' hty hv hw
        rw [hv] at hbx
        rw [hw] at hby
        split at hu
        · rename_i hp
          split at hu
          · rename_i d1 d2 h1 h2
            split at hu
            · rename_i ids xs ys hown hxs hys
              rcases br_some hu with ⟨hb, hu⟩ | ⟨_, hu⟩
              · cases hu
                simp only [decide_eq_true_eq] at hb
                obtain ⟨ht1, cs1, hv1, hr1⟩ := rep_to h1 hbx
                obtain ⟨ht2, cs2, hv2, hr2⟩ := rep_to h2 hby
                have hd1 := D.as_some hxs
                have hd2 := D.as_some hys
                rw [hd1] at hr1 hv1
                rw [hd2] at hr2 hv2
                obtain ⟨tg1, hg1, hs1⟩ := rep_dat_sl (w := w) (G := G) (el := K.el) (v := a.eval x) ⟨cs1, hv1, hr1⟩
                obtain ⟨tg2, hg2, hs2⟩ := rep_dat_sl (w := w) (G := G) (el := K.el) (v := a.eval y) ⟨cs2, hv2, hr2⟩
                obtain ⟨ad2, cap2, hy2⟩ := hs2.one
                rw [hy2] at hs2
                have hid : G.la (s.base + 64 * i) = none := hf _ (Nat.le_refl _) (by omega)
                have fin : ∀ v' w' G', (Builtin.append_ #[t, t] o.type #[a.eval x, .slice ad2 ys.length cap2]).run P w = .ok v' w' → Inv K.el w0 M { s with mv := fun i => s.mv i || ids.contains i } a w' G' →
                    OwnAt w' G' K.el e (xs ++ ys) (s.base + 64 * i) true v' → (∀ j, G'.la j ≠ none → G.la j ≠ none ∨ j = s.base + 64 * i) →
                    OpGoal P K.el w0 M o i s a w G (s.app o.dst { v := .one (.dat ⟨.sl e, xs ++ ys, [.ow (s.base + 64 * i)]⟩), mvs := ids, rf := ids }) := by
                  intro v' w' G' hrun hinv hrep hla next Q hn
                  have hrun2 : (execOp a.eval o).run P w = .ok (.value v') w' := by
                    simp only [execOp, ho, e1, e2, hc, resolve, invoke, builtin, Sem.run_bind, Sem.run_pure, Result.andThen_ok, List.map_toArray, List.map_cons, List.map_nil, hy2, hrun]
                  unfold Oper.wp
                  rw [hrun2, Oper.upon_value]
                  refine hn _ _ G' ?_ (fun id hq => ?_)
                  · rw [mvK]
                    exact hinv.put (rep_sl (tg := .ow _) hrep)
                  · rcases hla id hq with hq | hq
                    · exact .inl hq
                    · exact .inr (by omega)
                have hsame : ({ s with mv := fun i => s.mv i || ([] : List Nat).contains i } : St) = s := by cases s; simp
                unfold ownable at hown
                rw [hg1] at hown
                split at hown
                · rename_i he
                  cases hown
                  cases he
                  obtain ⟨hnil, rfl⟩ := hs1
                  obtain ⟨v', w', G', k1, k2, k3, k4⟩ := append_nil (ty := o.type) h (hK _ _ hty) hp hid hs2 (by simpa using hb)
                  refine fin v' w' G' (by rw [hnil]; exact k1) (by rw [hsame]; exact k2) (by simpa using k3) k4
                · rename_i i0 he
                  cases he
                  split at hown
                  · cases hown
                  · rename_i hmf
                    cases hown
                    simp only [Bool.or_eq_true, not_or, Bool.not_eq_true] at hmf
                    have hs1' : OwnAt w G K.el e xs i0 true (a.eval x) := hs1
                    cases hla : G.la i0 with
                    | none => unfold OwnAt at hs1'; rw [hla] at hs1'; exact hs1'.elim
                    | some q =>
                      cases q with
                      | none =>
                        unfold OwnAt at hs1'
                        rw [hla] at hs1'
                        obtain ⟨hnil, rfl⟩ := hs1'
                        obtain ⟨v', w', G', k1, k2, k3, k4⟩ := append_nil (ty := o.type) h (hK _ _ hty) hp hid hs2 (by simpa using hb)
                        exact fin v' w' G' (by rw [hnil]; exact k1) (k2.move [i0]) (by simpa using k3) k4
                      | some q =>
                        obtain ⟨g, n⟩ := q
                        cases ad2 with
                        | none =>
                          obtain ⟨rfl, _, rfl⟩ := hs2.none_nil
                          obtain ⟨v', w', G', k1, k2, k3, k4⟩ := append_none (ty := o.type) h (hK _ _ hty) hla hmf.1 hmf.2 hid hs1'
                          exact fin v' w' G' k1 k2 (by simpa using k3) k4
                        | some ad2 =>
                          obtain ⟨v', w', G', k1, k2, k3, k4⟩ := append_some (ty := o.type) h (hK _ _ hty) hla hmf.1 hmf.2 hid hs1' hs2 hb
                          exact fin v' w' G' k1 k2 k3 k4
                · cases hown
              · cases hu
            · cases hu
          · cases hu
        · cases hu
      · cases hu
    · cases hu
  · cases hu

end
end Go.Proofs.Ytlehbecajmjgkaa.V
