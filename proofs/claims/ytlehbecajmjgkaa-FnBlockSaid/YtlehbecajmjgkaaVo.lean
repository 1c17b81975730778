/- Part of a proof by a value interpreter: new arrays. -/
import Derived.Test.YtlehbecajmjgkaaVn
set_option linter.unusedVariables false
set_option linter.unusedSimpArgs false
namespace Go.Proofs.Ytlehbecajmjgkaa.V

section
variable {P : Program} {K : Cfg} {w0 : World} {M : Hx} {o : Oper} {i : Nat} {s : St} {a : Act} {w : World} {G : Gh} {u : U}

/-- The names that operation 'i' may give are free. -/
def Free (s : St) (G : Gh) (i : Nat) : Prop := ∀ id, s.base + 64 * i ≤ id → id < s.base + 64 * (i + 1) → G.la id = none

/-- a new array -/
theorem opOwn (h : Inv K.el w0 M s a w G) (hf : Free s G i) {t : Ty} {xs : List t.den} {ids : List Nat} {c : Array Value} {w' : World} {cap : Nat} (hids : ids.any s.mv = false) (hg : Grew w w' (.cells c (K.el t)))
    (hrun : (execOp a.eval o).run P w = .ok (.value (.slice (some ⟨w.heap.size, 0, none⟩) xs.length cap)) w') (hp : 0 < t.size) (h1 : xs.length ≤ cap) (h2 : cap ≤ maxLen) (h3 : c.size = cap * t.size)
    (h4 : ∀ j x, xs[j]? = some x → RepIm w (G.let ids).im t x (seg c.toList j t.size)) :
    OpGoal P K.el w0 M o i s a w G (s.app o.dst { v := .one (.dat ⟨.sl t, xs, [.ow (s.base + 64 * i)]⟩), fzs := ids }) := by
  intro next Q hn
  unfold Oper.wp
  rw [hrun, Oper.upon_value]
  have hid : (G.let ids).la (s.base + 64 * i) = none := hf _ (Nat.le_refl _) (by omega)
  have hl := h.letGo hids
  have hk := hl.keepsOwn hg hid xs.length t.size
  refine hn _ _ ((G.let ids).addOwn (s.base + 64 * i) w.heap.size xs.length t.size) ?_ ?_
  · rw [app_eq]
    have h5 := hl.addOwn (n := xs.length) (sz := t.size) hid hg
    refine Inv.put (s := { s with bx := _, mv := _, fz := _ }) (by simpa [setBoxes] using h5) (rep_sl (tg := .ow _) ?_)
    show OwnAt _ _ _ _ _ _ _ _
    unfold OwnAt
    have e1 : ((G.let ids).addOwn (s.base + 64 * i) w.heap.size xs.length t.size).la (s.base + 64 * i) = some (some (w.heap.size, xs.length)) := if_pos rfl
    rw [e1]
    refine ⟨rfl, if_pos rfl, hp, c, cap, rfl, h1, h2, hg.new, h3, fun j x hx => hk.rim (h4 j x hx)⟩
  · intro id hq
    change (if id = s.base + 64 * i then _ else _) ≠ _ at hq
    split at hq
    · rename_i he; subst he; exact .inr ⟨Nat.le_refl _, by omega⟩
    · exact .inl hq

theorem seg_made (t : Ty) (n : Nat) (hp : 0 < t.size) : ∀ j, j < n → seg (madeCells (zeroC t).toArray (n * t.size)).toList j t.size = zeroC t := by
  intro j hj
  have hz := zeroC_len t
  apply List.ext_getElem?
  intro q
  by_cases hq : q < t.size
  · rw [seg_getElem? _ _ _ _ hq]
    have h1 : (j + 1) * t.size ≤ n * t.size := Nat.mul_le_mul_right _ hj
    rw [Nat.add_mul, Nat.one_mul] at h1
    have h2 : j * t.size + q < n * t.size := by omega
    have h3 : (j * t.size + q) % (zeroC t).length = q := by
      rw [hz, Nat.add_comm, Nat.mul_comm, Nat.add_mul_mod_self_left, Nat.mod_eq_of_lt hq]
    have h4 : q < (zeroC t).length := by omega
    rw [Array.getElem?_toList]
    unfold madeCells
    rw [Array.getElem?_map, Array.getElem?_range, if_pos h2]
    simp only [Option.map_some, List.size_toArray, h3]
    rw [List.getElem?_eq_getElem h4]
    simp [h4]
  · have hs : (seg (madeCells (zeroC t).toArray (n * t.size)).toList j t.size).length = t.size := seg_length (by rw [Array.length_toList, size_madeCells]; exact Nat.mul_le_mul_right _ hj)
    rw [List.getElem?_eq_none (by omega), List.getElem?_eq_none (by omega)]

theorem s_makeSlice {t : TypeId} {l m : Operand} (hK : TysOk P K) (h : Inv K.el w0 M s a w G) (hf : Free s G i) (ho : o.op = .makeSlice t l m) (hu : opC K o i s.base s.ev s.box s.mv s.fz some = some u) : OpGoal P K.el w0 M o i s a w G (s.app o.dst u) := by
  simp only [opC, ho] at hu
  have hl := h.ev l
  have hm := h.ev m
  split at hu
  · rename_i e lv mv ht hl' hm'
    obtain ⟨k1, e1⟩ := rep_asInt hl' hl
    obtain ⟨k2, e2⟩ := rep_asInt hm' hm
    split at hu
    · rename_i hp
      rcases br_some hu with ⟨h0, hu⟩ | ⟨_, hu⟩
      · rcases br_some hu with ⟨h1, hu⟩ | ⟨_, hu⟩
        · rcases br_some hu with ⟨h2, hu⟩ | ⟨_, hu⟩
          · cases hu
            simp only [decide_eq_true_eq] at h0 h1 h2
            unfold most at h2
            obtain ⟨hsl, hte⟩ := (hK _ _ ht).sl
            obtain ⟨it, hi, hsz, hz, hby⟩ := hte.info
            have hzc := RepT.zero (w := w) (G := G) (el := K.el) e
            have hcells := ofCells_cells hzc
            have hb1 : (it.bytes : Int) * mv ≤ 281474976710656 := by
              have h3 : (it.bytes : Int) * mv ≤ 32768 * 4294967296 := Int.mul_le_mul (by omega) (by omega) (by omega) (by omega)
              omega
            have hr := run_make (P := P) w t _ it _ hsl hi hz k1 k2 lv mv h0 h1 hb1 (by omega)
            rw [hcells, hsz] at hr
            have hlen : (List.replicate lv.toNat e.zero).length = lv.toNat := List.length_replicate ..
            refine opOwn h hf (ids := []) rfl (c := madeCells (zeroC e).toArray (mv.toNat * e.size)) (cap := mv.toNat) (Grew.alloc w _) ?_ hp ?_ ?_ (size_madeCells _ _) (fun j x hx => ?_)
            · simp only [execOp, ho, e1, e2, Sem.run_bind, hr, Result.andThen_ok, Sem.run_pure, hlen]
            · rw [hlen]; omega
            · simp only [maxLen]; omega
            · have hj : j < lv.toNat := by
                have := (List.getElem?_eq_some_iff.1 hx).1
                rw [hlen] at this; exact this
              rw [seg_made e mv.toNat hp j (by omega)]
              rw [List.getElem?_replicate, if_pos hj] at hx
              cases hx
              exact RepIm.zero e
          · cases hu
        · cases hu
      · cases hu
    · cases hu
  · cases hu

/-- the elements of a slice literal -/
theorem elemsK_fill {e : Ty} {n : Nat} {ω : U} (h : Inv K.el w0 M s a w G) (c : List e.den → List Nat → Option U) :
    (ps : List (Nat × Operand)) → (xs : List e.den) → (ids : List Nat) → (cs : List Value) → xs.length = n → cs.length = n * e.size → (∀ j x, xs[j]? = some x → RepIm w (G.let ids).im e x (seg cs j e.size)) →
    (∀ q ∈ ps, q.1 < n) → elemsK e s.ev ps xs ids c = some ω →
    ∃ ys ids' cs', Instr.fill (fun j => some (j * e.size, e.size)) cs.toArray (ps.map fun q => (q.1, a.eval q.2)) = some cs'.toArray ∧ ys.length = n ∧ cs'.length = n * e.size ∧
      (∀ j x, ys[j]? = some x → RepIm w (G.let ids').im e x (seg cs' j e.size)) ∧ c ys ids' = some ω
  | [], xs, ids, cs, hx, hc, hr, hb, hh => ⟨xs, ids, cs, rfl, hx, hc, hr, hh⟩
  | (j, q) :: r, xs, ids, cs, hx, hc, hr, hb, hh => by
    rw [elemsK] at hh
    have hq := h.ev q
    split at hh
    · rename_i v hv
      rw [hv] at hq
      split at hh
      · rename_i d hto
        split at hh
        · rename_i y hy
          obtain ⟨hty, ds, hval, hrd⟩ := rep_to hto hq
          have hj : j < n := hb _ (List.mem_cons_self ..)
          have hd := D.as_some hy
          have hlen := hrd.len.1
          rw [hty] at hlen
          have hfit : (j + 1) * e.size ≤ cs.length := by rw [hc]; exact Nat.mul_le_mul_right _ hj
          have hfit' : j * e.size + e.size ≤ cs.length := by rwa [Nat.add_mul, Nat.one_mul] at hfit
          have hset : ∀ j' x, (xs.set j y)[j']? = some x → RepIm w (G.let (tgIds d.g ++ ids)).im e x (seg (putC cs (j * e.size) ds) j' e.size) := by
            intro j' x hx'
            have himm : ∀ b, (G.let ids).im b → (G.let (tgIds d.g ++ ids)).im b := by
              rintro b (hb | ⟨i, hi, m, hq⟩)
              · exact .inl hb
              · exact .inr ⟨i, List.mem_append_right _ hi, m, hq⟩
            by_cases hjj : j = j'
            · subst hjj
              rw [List.getElem?_set_self (by omega)] at hx'
              cases hx'
              have h1 := seg_putC_same (cs := cs) (i := j) (k := e.size) (n := 0) (ds := ds) (by omega) hfit
              rw [Nat.add_zero] at h1
              rw [h1]
              have h2 : putC (seg cs j e.size) 0 ds = ds := by
                unfold putC
                rw [List.drop_eq_nil_of_le (by rw [seg_length hfit]; omega)]
                simp
              rw [h2]
              rw [hd] at hrd
              refine hrd.toIm (fun b hb => .inl hb) (fun i g m hi hq => ?_)
              rw [hd]
              exact .inr ⟨i, List.mem_append_left _ hi, m, hq⟩
            · rw [List.getElem?_set_ne hjj] at hx'
              have h1 := seg_putC_other (cs := cs) (i := j) (j := j') (k := e.size) (n := 0) (ds := ds) hjj (by omega) hfit
              rw [Nat.add_zero] at h1
              rw [h1]
              exact (hr _ _ hx').mono (fun _ _ => rfl) himm
          obtain ⟨ys, ids', cs', h1, h2, h3, h4, h5⟩ := elemsK_fill h c r (xs.set j y) _ (putC cs (j * e.size) ds) (by simpa using hx) (by rw [putC_length (by rw [hlen]; exact hfit')]; exact hc) hset (fun q hq => hb q (List.mem_cons_of_mem _ hq)) hh
          refine ⟨ys, ids', cs', ?_, h2, h3, h4, h5⟩
          rw [List.map_cons, fill_step (off := j * e.size) (n := e.size) rfl (by rw [hval]; exact ofCells_cells hrd) hlen hfit']
          exact h1
        · cases hh
      · cases hh
    · cases hh

theorem s_buildSlice {t : TypeId} {n : Nat} {ps : Array (Nat × Operand)} (hK : TysOk P K) (h : Inv K.el w0 M s a w G) (hf : Free s G i) (ho : o.op = .buildSlice t n ps) (hu : opC K o i s.base s.ev s.box s.mv s.fz some = some u) : OpGoal P K.el w0 M o i s a w G (s.app o.dst u) := by
  simp only [opC, ho] at hu
  split at hu
  · rename_i e ht
    split at hu
    · rename_i hbnd
      obtain ⟨hn, hp, hps⟩ := hbnd
      obtain ⟨hsl, hte⟩ := (hK _ _ ht).sl
      obtain ⟨it, hi, hsz, hz, hby⟩ := hte.info
      have hzc := RepT.zero (w := w) (G := G) (el := K.el) e
      have hcells := ofCells_cells hzc
      have hps' : ∀ q ∈ ps.toList, q.1 < n := fun q hq => by
        have := List.all_eq_true.1 hps q hq
        simpa using this
      obtain ⟨ys, ids', cs', h1, h2, h3, h4, h5⟩ := elemsK_fill (n := n) h _ ps.toList (List.replicate n e.zero) [] (madeCells (zeroC e).toArray (n * e.size)).toList (by simp) (by simp [size_madeCells])
        (fun j x hx => by
          have hj : j < n := by
            have := (List.getElem?_eq_some_iff.1 hx).1
            simpa using this
          rw [seg_made e n hp j hj]
          rw [List.getElem?_replicate, if_pos hj] at hx
          cases hx
          exact RepIm.zero e) hps' hu
      split at h5
      · cases h5
      · rename_i hm
        cases h5
        refine opOwn h hf (c := cs'.toArray) (cap := n) (by simpa using hm) (Grew.alloc w _) ?_ hp (by omega) (by
          have : n ≤ n * e.size := Nat.le_mul_of_pos_right _ hp
          simp only [maxLen]; omega) (by simpa using h3) h4
        have hfill : Instr.fill (fun j => some (j * e.size, e.size)) (madeCells (zeroC e).toArray (n * e.size)) (ps.map fun q => (q.1, a.eval q.2)).toList = some cs'.toArray := by
          rw [← h1]; simp
        have hgt : ¬ (16777216 < n * e.size) := by omega
        rw [h2]
        by_cases h0 : n * e.size = 0
        · have hfill' := hfill
          rw [h0] at hfill'
          have hn0 : n = 0 := by
            rcases Nat.mul_eq_zero.1 h0 with h | h
            · exact h
            · omega
          simp only [madeCells, Array.range_zero'] at hfill'
          simp [execOp, ho, Instr.buildSlice, run_underlying hsl, run_sizeOf hte.info w, h0, newRow, Array.range_zero']
          simp at hfill'
          rw [hfill']
          simp
        · simp [execOp, ho, Instr.buildSlice, run_underlying hsl, run_sizeOf hte.info w, h0, hgt, run_zeroValue hte.info w, hcells, newRow]
          have hfill' := hfill
          unfold madeCells at hfill'
          simp at hfill'
          rw [hfill']
          simp
    · cases hu
  · cases hu

end
end Go.Proofs.Ytlehbecajmjgkaa.V
