/- Part of a proof by a value interpreter: boxes: made, and stored into. -/
import Derived.Test.YtlehbecajmjgkaaVj
set_option linter.unusedVariables false
set_option linter.unusedSimpArgs false
namespace Go.Proofs.Ytlehbecajmjgkaa.V

section
variable {P : Program} {K : Cfg} {w0 : World} {M : Hx} {o : Oper} {i : Nat} {s : St} {a : Act} {w : World} {G : Gh} {u : U}

theorem seg_rep {c : List Value} {n m : Nat} (hc : c.length = n) : ∀ i, i < m → seg (List.replicate m c).flatten i n = c := by
  induction m with
  | zero => intro i hi; omega
  | succ m ih =>
    intro i hi
    rw [List.replicate_succ, List.flatten_cons]
    cases i with
    | zero =>
      unfold seg
      rw [Nat.zero_mul, List.drop_zero, ← hc, List.take_left]
    | succ i =>
      rw [show i + 1 = 1 + i by omega, seg_append_right (by omega)]
      exact ih i (by omega)

theorem len_rep (c : List Value) (m : Nat) : (List.replicate m c).flatten.length = m * c.length := by
  induction m with
  | zero => simp
  | succ m ih => rw [List.replicate_succ, List.flatten_cons, List.length_append, ih, Nat.succ_mul]; omega

theorem zeroC_len : (τ : Ty) → (zeroC τ).length = τ.size
  | .int _ => rfl
  | .bool => rfl
  | .str => rfl
  | .sl _ => rfl
  | .un => rfl
  | .pr a b => by rw [zeroC, List.length_append, zeroC_len a, zeroC_len b]; rfl
  | .arr n t => by rw [zeroC, len_rep, zeroC_len t]; rfl

theorem toI_zero (k : IntKind) : toI k (ofI k 0) = 0 := by cases k <;> rfl

theorem RepIm.zero {im : Nat → Prop} : (τ : Ty) → RepIm w im τ τ.zero (zeroC τ)
  | .int k => by simp only [RepIm, Ty.zero, zeroC, toI_zero]
  | .bool => by simp only [RepIm, Ty.zero, zeroC]
  | .str => by simp only [RepIm, Ty.zero, zeroC]; rfl
  | .sl t => by simp only [RepIm, Ty.zero, zeroC]; exact ⟨none, 0, rfl, .inl (by simp)⟩
  | .un => by simp only [RepIm, zeroC]
  | .pr a b => by
    simp only [RepIm, zeroC]
    exact ⟨_, _, rfl, RepIm.zero a, RepIm.zero b⟩
  | .arr n t => by
    simp only [RepIm, zeroC, Ty.zero]
    refine ⟨List.length_replicate .., by rw [len_rep, zeroC_len], fun i x hx => ?_⟩
    have hi : i < n := by
      have := (List.getElem?_eq_some_iff.1 hx).1
      simpa using this
    rw [seg_rep (zeroC_len t) i hi]
    rw [List.getElem?_replicate, if_pos hi] at hx
    cases hx
    exact RepIm.zero t

theorem zeroTg_take (a b : Ty) : (zeroTg (.pr a b)).take a.leaves = zeroTg a ∧ (zeroTg (.pr a b)).drop a.leaves = zeroTg b := by
  unfold zeroTg
  have e : (List.replicate (Ty.pr a b).leaves Tg.ni) = List.replicate a.leaves .ni ++ List.replicate b.leaves .ni := by
    rw [List.replicate_append_replicate]; rfl
  rw [e]
  exact ⟨List.take_left' (by simp), List.drop_left' (by simp)⟩

theorem RepT.zero {el : Ty → TypeId} : (τ : Ty) → RepT w G el τ τ.zero (zeroTg τ) (zeroC τ)
  | .int k => by simp only [RepT]; exact ⟨rfl, RepIm.zero (.int k)⟩
  | .bool => by simp only [RepT]; exact ⟨rfl, RepIm.zero .bool⟩
  | .str => by simp only [RepT]; exact ⟨rfl, RepIm.zero .str⟩
  | .sl t => by simp only [RepT]; exact ⟨.ni, _, rfl, rfl, rfl, rfl⟩
  | .un => by simp only [RepT]; exact ⟨rfl, RepIm.zero .un⟩
  | .pr a b => by
    simp only [RepT]
    refine ⟨_, _, rfl, ?_, ?_⟩
    · rw [(zeroTg_take a b).1]; exact RepT.zero a
    · rw [(zeroTg_take a b).2]; exact RepT.zero b
  | .arr n t => by simp only [RepT]; exact ⟨rfl, RepIm.zero (.arr n t)⟩

/-- an operand of a wanted type -/
theorem rep_to {el : Ty → TypeId} {v : V} {τ : Ty} {e : D} {x : Value} (h : v.to τ = some e) (hr : RepV w G el v x) : e.ty = τ ∧ ∃ cs, x = ofCells e.ty cs ∧ RepT w G el e.ty e.x e.g cs := by
  unfold V.to at h
  split at h
  · split at h
    · rename_i hd; cases h; exact ⟨hd, hr⟩
    · cases h
  · split at h
    · cases h
      refine ⟨rfl, [x], by simp [ofCells, Ty.isAgg], ?_⟩
      simp only [RepT]
      exact ⟨.ni, x, rfl, rfl, hr, rfl⟩
    · cases h
  · cases h

theorem dst_lt {s : St} {a : Act} (h : Inv K.el w0 M s a w G) (d : Tmp) (v : W) (x : Value) (hd : ¬ d < s.bx.length) : s.put (some d) v = s ∧ a.put (some d) x = a := by
  have h1 : ¬ d < s.tm.length := by rw [← h.blen]; exact hd
  have h2 : ¬ d < a.tmps.size := by rw [h.len]; exact h1
  constructor
  · cases s; simp only [St.put]; rw [List.set_eq_of_length_le (by simpa using h1)]
  · cases a; simp only [Act.put]; congr 1; exact Array.setIfInBounds_eq_of_size_le (by simpa using h2)

theorem s_newbox {t : TypeId} {e : D} {d : Tmp} {cs : List Value} {w' : World} (h : Inv K.el w0 M s a w G) (hd : o.dst = some d) (hqd : M.q ≤ d) (hb : s.box d = none) (hr : RepT w G K.el e.ty e.x e.g cs)
    (hg : Grew w w' (.cells cs.toArray t)) (hrun : (execOp a.eval o).run P w = .ok (.value (.pointer (some ⟨w.heap.size, 0, none⟩))) w') :
    OpGoal P K.el w0 M o i s a w G (s.app o.dst { v := .one (.ptr d [] e.ty), wb := [(d, e)] }) := by
  intro next Q hn
  unfold Oper.wp
  rw [hrun, Oper.upon_value]
  rw [hd] at hn ⊢
  by_cases hl : d < s.bx.length
  · refine hn _ _ (G.addBox d w.heap.size e.ty) ?_ (fun id hid => .inl hid)
    rw [app_eq]
    simp only [setBoxes]
    have h1 := h.addBox hl hqd hb hr hg
    refine Inv.put (s := { s with bx := s.bx.set d (some e), mv := _, fz := _ }) (by simpa using h1) ?_
    refine ⟨w.heap.size, e.ty, 0, ?_, by rw [Ty.off], rfl⟩
    show (if d = d then _ else _) = _
    rw [if_pos rfl]
  · obtain ⟨e1, e2⟩ := dst_lt h d (.one (.ptr d [] e.ty)) (.pointer (some ⟨w.heap.size, 0, none⟩)) hl
    rw [e2]
    have e3 : s.app (some d) { v := .one (.ptr d [] e.ty), wb := [(d, e)] } = s := by
      rw [app_eq]
      simp only [setBoxes]
      rw [List.set_eq_of_length_le (by simpa using hl)]
      rw [St.same, e1]
    rw [e3] at hn
    exact hn _ _ G (h.garbage hg) (fun id hid => .inl hid)

theorem s_alloc {t : TypeId} (hK : TysOk P K) (hq : ∀ d, o.dst = some d → M.q ≤ d) (h : Inv K.el w0 M s a w G) (ho : o.op = .alloc t) (hu : opC K o i s.base s.ev s.box s.mv s.fz some = some u) : OpGoal P K.el w0 M o i s a w G (s.app o.dst u) := by
  simp only [opC, ho] at hu
  split at hu
  · rename_i τ d hτ hd
    split at hu
    · rename_i hb
      cases hu
      have hz := RepT.zero (w := w) (G := G) (el := K.el) τ
      refine s_newbox (t := t) (e := τ.zeroD) (cs := zeroC τ) h hd (hq d hd) (by simpa using hb) hz (Grew.alloc w _) ?_
      have hi := (hK _ _ hτ).info
      have hc := ofCells_cells hz
      simp [execOp, ho, Instr.alloc, run_zeroValue hi, newVar, newRow, hc]
    · cases hu
  · cases hu

theorem s_box {t : TypeId} {x : Operand} (hq : ∀ d, o.dst = some d → M.q ≤ d) (h : Inv K.el w0 M s a w G) (ho : o.op = .box t x) (hu : opC K o i s.base s.ev s.box s.mv s.fz some = some u) : OpGoal P K.el w0 M o i s a w G (s.app o.dst u) := by
  simp only [opC, ho] at hu
  have hx := h.ev x
  split at hu
  · rename_i τ d v hτ hd he
    rw [he] at hx
    split at hu
    · rename_i hb
      split at hu
      · rename_i e hto
        cases hu
        obtain ⟨rfl, cs, hv, hr⟩ := rep_to hto hx
        refine s_newbox (t := t) (e := e) (cs := cs) h hd (hq d hd) (by simpa using hb) hr (Grew.alloc w _) ?_
        have hc := ofCells_cells hr
        simp [execOp, ho, Instr.box, newVar, newRow, hv, hc]
      · cases hu
    · cases hu
  · cases hu

/-- other cells in a box -/
theorem Inv.setBox {el : Ty → TypeId} (h : Inv el w0 M s a w G) {b k : Nat} {τ : Ty} {y : τ.den} {g : List Tg} {c c' : Array Value} {e : TypeId} (hb : G.lb b = some (k, τ)) (hc : w.heap[k]? = some (.cells c e (0, 0)))
    (hr : RepT w G el τ y g c'.toList) : Inv el w0 M { s with bx := s.bx.set b (some ⟨τ, y, g⟩) } a (w.setRow k c') G := by
  obtain ⟨hm1, hm2, hm3⟩ := h.lbm b k τ hb
  have hk : Keeps w G (w.setRow k c') G el := keeps_of (fun j hj => ⟨setRow_other w k j _ (fun e => hm1 (e ▸ hj)), hj⟩) (fun _ _ hq => hq)
    (fun id g n hq => ⟨rfl, setRow_other w k g _ (fun e => hm2 id n (e ▸ hq))⟩) (fun _ _ _ hq => hq)
  have hsz : (w.setRow k c').heap.size = w.heap.size := by simp
  have hl : b < s.bx.length := by
    obtain ⟨x, g, c, e, h1, _⟩ := h.bx b k τ hb
    unfold St.box at h1
    cases hq : s.bx[b]? with
    | none => rw [hq] at h1; cases h1
    | some p => exact (List.getElem?_eq_some_iff.1 hq).1
  exact
  { df := h.df
    len := h.len
    blen := by simp [h.blen]
    tm := fun i x v h1 h2 => hk.rw' (h.tm i x v h1 h2)
    bx := by
      intro b' k' τ' hq
      by_cases hbb : b' = b
      · subst hbb
        rw [hb] at hq
        cases hq
        exact ⟨y, g, c', e, by rw [box_set, if_pos ⟨rfl, hl⟩], setRow_heap w k c _ e _ hc, hk.rt hr⟩
      · obtain ⟨x', g', c'', e', h1, h2, h3⟩ := h.bx b' k' τ' hq
        refine ⟨x', g', c'', e', by rw [box_set, if_neg (fun hh => hbb hh.1.symm)]; exact h1, (setRow_other w k k' _ (fun e => hbb ?_)).trans h2, hk.rt h3⟩
        subst e
        exact h.lbi _ _ _ _ _ hq hb
    bn := by
      intro b' hq
      have hbb : b' ≠ b := fun e => by rw [e, hb] at hq; cases hq
      rw [box_set, if_neg (fun hh => hbb hh.1.symm)]
      exact h.bn b' hq
    lbi := h.lbi
    lbm := h.lbm
    lam := fun i k n hq => ⟨by rw [hsz]; exact (h.lam i k n hq).1, (h.lam i k n hq).2⟩
    las := h.las
    imb := fun k hk => by rw [hsz]; exact h.imb k hk
    him := h.him
    hlb := h.hlb
    hnb := h.hnb
    fr := ⟨h.fr.os, h.fr.tape, h.fr.output, by rw [hsz]; exact h.fr.size, fun j hj hm => by
      rw [setRow_other w k j _ (fun e => ?_)]
      · exact h.fr.block j hj hm
      · subst e
        rcases hm3 with hm3 | hm3
        · omega
        · exact hm hm3⟩ }

theorem s_store {t : TypeId} {ad x : Operand} (hK : TysOk P K) (h : Inv K.el w0 M s a w G) (ho : o.op = .store t ad x) (hu : opC K o i s.base s.ev s.box s.mv s.fz some = some u) : OpGoal P K.el w0 M o i s a w G (s.app o.dst u) := by
  simp only [opC, ho] at hu
  have hb := h.ev ad
  have hx := h.ev x
  split at hu
  · rename_i τ b p τ' v ht he hev
    rw [he] at hb
    rw [hev] at hx
    obtain ⟨k, τb, n, h1, h2, h3⟩ := hb
    split at hu
    · rename_i hττ
      subst hττ
      obtain ⟨x', g, c, e0, hbox, hheap, hrep⟩ := h.bx b k τb h1
      rw [hbox] at hu
      split at hu
      · rename_i d e hd hto
        cases hd
        obtain ⟨hty, cs, hv, hr⟩ := rep_to hto hx
        obtain ⟨y, hg, m, hoff, hy, hu⟩ := putK_off hu hrep hr
        cases hu
        rw [h2, hty] at hoff
        simp only [Option.some.injEq, Prod.mk.injEq, true_and] at hoff
        subst hoff
        have hfit := Ty.off_fits h2
        have hlen := hrep.len.1
        subst hty
        have hrun := run_storeVar_at (P := P) (hK _ _ ht) hr hheap (off := n) (by rw [Array.length_toList] at hlen; omega)
        have hrun2 : (execOp a.eval o).run P w = .ok .skip (w.setRow k (putC c.toList n cs).toArray) := by
          simp [execOp, ho, h3, hv, Instr.storeAt, Instr.sureAddr, hrun]
        intro next Q hn
        unfold Oper.wp
        rw [hrun2]
        simp only [Oper.upon]
        refine hn _ _ G ?_ (fun id hid => .inl hid)
        rw [app_eq]
        simp only [setBoxes]
        have := h.setBox h1 hheap (c' := (putC c.toList n cs).toArray) (by simpa using hy)
        exact Inv.put (s := { s with bx := s.bx.set b (some ⟨τb, y, hg⟩), mv := _, fz := _ }) (by simpa using this) rfl
      · cases hu
    · cases hu
  · cases hu

end
end Go.Proofs.Ytlehbecajmjgkaa.V
