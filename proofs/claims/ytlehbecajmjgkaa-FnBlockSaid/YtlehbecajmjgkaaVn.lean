/- Part of a proof by a value interpreter: struct literals, slice literals, make. -/
import Derived.Test.YtlehbecajmjgkaaVm
set_option linter.unusedVariables false
set_option linter.unusedSimpArgs false
namespace Go.Proofs.Ytlehbecajmjgkaa.V

section
variable {P : Program} {K : Cfg} {w0 : World} {M : Hx} {o : Oper} {i : Nat} {s : St} {a : Act} {w : World} {G : Gh} {u : U}

theorem fold_set : (ds : List Value) → (k off : Nat) → (cs : Array Value) → off + k + ds.length ≤ cs.size →
    ((ds.zipIdx k).foldl (fun (cs : Array Value) (p : Value × Nat) => cs.setIfInBounds (off + p.2) p.1) cs).toList = putC cs.toList (off + k) ds
  | [], k, off, cs, h => by simp [putC]
  | d :: ds, k, off, cs, h => by
    simp only [List.length_cons] at h
    rw [List.zipIdx_cons, List.foldl_cons, fold_set ds (k + 1) off _ (by simp; omega)]
    unfold putC
    simp only [Array.toList_setIfInBounds, List.length_cons]
    apply List.ext_getElem?
    intro j
    by_cases h1 : j < off + k
    · rw [List.append_assoc, List.append_assoc, List.getElem?_append_left (by simp; omega), List.getElem?_append_left (by simp; omega), List.getElem?_take, List.getElem?_take, if_pos (by omega), if_pos (by omega),
        List.getElem?_set_ne (by omega)]
    · by_cases h2 : j = off + k
      · subst h2
        rw [List.append_assoc, List.append_assoc, List.getElem?_append_left (by simp; omega), List.getElem?_append_right (by simp; omega), List.getElem?_take, if_pos (by omega)]
        have e1 : off + k - (List.take (off + k) cs.toList).length = 0 := by simp; omega
        rw [e1]
        have e2 : off + k < cs.toList.length := by rw [Array.length_toList]; omega
        simp [List.getElem?_set, e2]
        omega
      · by_cases h3 : j < off + k + 1 + ds.length
        · rw [List.getElem?_append_left (by simp; omega), List.getElem?_append_right (by simp; omega), List.getElem?_append_left (by simp; omega), List.getElem?_append_right (by simp; omega)]
          have e1 : j - (List.take (off + (k + 1)) (cs.toList.set (off + k) d)).length = j - (off + k + 1) := by simp; omega
          have e2 : j - (List.take (off + k) cs.toList).length = (j - (off + k + 1)) + 1 := by simp; omega
          rw [e1, e2, List.getElem?_cons_succ]
        · rw [List.getElem?_append_right (by simp; omega), List.getElem?_append_right (by simp; omega), List.getElem?_drop, List.getElem?_drop, List.getElem?_set_ne (by simp; omega)]
          congr 1
          simp
          omega

theorem fill_step {place : Nat → Option (Nat × Nat)} {cs : List Value} {j off n : Nat} {v : Value} {ds : List Value} {r : List (Nat × Value)} (hp : place j = some (off, n)) (hc : v.cells = ds.toArray) (hl : ds.length = n) (hf : off + n ≤ cs.length) :
    Instr.fill place cs.toArray ((j, v) :: r) = Instr.fill place (putC cs off ds).toArray r := by
  have h := fold_set ds 0 off cs.toArray (by simpa [hl] using hf)
  rw [Instr.fill, hp]
  simp only [hc, List.size_toArray, hl]
  rw [if_neg (by simpa using hf)]
  congr 1
  rw [← Array.foldl_toList, Array.toList_zipIdx]
  apply Array.toList_inj.1
  simpa using h

/-- the parts of a struct, or array, literal -/
theorem buildK_fill {arr : Bool} {ω : U} {τ : Ty} {place : Nat → Option (Nat × Nat)} (hp : ∀ j τ' k, τ.off [if arr then .idx j else .fld j] = some (τ', k) → place j = some (k, τ'.size)) (h : Inv K.el w0 M s a w G) (c : D → Option U) :
    (ps : List (Nat × Operand)) → (x : τ.den) → (g : List Tg) → (cs : List Value) → RepT w G K.el τ x g cs → buildK arr s.ev ps ⟨τ, x, g⟩ c = some ω →
    ∃ y g' cs', Instr.fill place cs.toArray (ps.map fun q => (q.1, a.eval q.2)) = some cs'.toArray ∧ RepT w G K.el τ y g' cs' ∧ c ⟨τ, y, g'⟩ = some ω
  | [], x, g, cs, hr, hb => ⟨x, g, cs, rfl, hr, hb⟩
  | (j, q) :: r, x, g, cs, hr, hb => by
    rw [buildK] at hb
    have hb' : τ.getK x g [if arr then .idx j else .fld j] (fun f =>
      match s.ev q with
      | .one v => match v.to f.ty with
        | some e => τ.putK x g [if arr then .idx j else .fld j] e fun y g => buildK arr s.ev r ⟨τ, y, g⟩ c
        | none => none
      | _ => none) = some ω := by
      cases arr <;> exact hb
    obtain ⟨f, n, hoff, _, hf⟩ := getK_off hb' hr
    have hq := h.ev q
    split at hf
    · rename_i v hv
      rw [hv] at hq
      split at hf
      · rename_i e hto
        obtain ⟨hty, ds, hval, hrd⟩ := rep_to hto hq
        obtain ⟨y, g', n', hoff', hy, hc⟩ := putK_off hf hr hrd
        rw [← hty, hoff'] at hoff
        have hn : n' = n := by simpa using hoff
        subst hn
        have hfit := Ty.off_fits hoff'
        obtain ⟨z, g'', cs', h1, h2, h3⟩ := buildK_fill hp h c r y g' _ hy hc
        refine ⟨z, g'', cs', ?_, h2, h3⟩
        rw [List.map_cons, fill_step (hp _ _ _ hoff') (by rw [hval]; exact ofCells_cells hrd) hrd.len.1 (by rw [hr.len.1]; exact hfit)]
        exact h1
      · cases hf
    · cases hf

theorem FOk.places {el : Ty → TypeId} : (τ : Ty) → (fs : List Field) → (n : Nat) → FOk P el τ fs n →
    ∃ places, fs.mapM (fun f => (P.info? f.type).map fun i => (f.offset, i.size)) = some places ∧ ∀ j τ' k, τ.off [.fld j] = some (τ', k) → places[j]? = some (n + k, τ'.size)
  | .un, fs, n, h => by
    rw [FOk] at h
    subst h
    refine ⟨[], rfl, fun j τ' k h => ?_⟩
    simp [Ty.off] at h
  | .pr a b, fs, n, h => by
    rw [FOk] at h
    obtain ⟨f, r, rfl, ho, hp, ht, hr⟩ := h
    obtain ⟨places, h1, h2⟩ := FOk.places b r _ hr
    obtain ⟨i, hi, hs, _⟩ := ht.info
    refine ⟨(n, a.size) :: places, ?_, fun j τ' k h => ?_⟩
    · simp [List.mapM_cons, hi, hs, h1, ho]
    · cases j with
      | zero =>
        rw [Ty.off, Ty.off] at h
        cases h
        rfl
      | succ j =>
        rw [Ty.off] at h
        cases hq : b.off [.fld j] with
        | none => rw [hq] at h; cases h
        | some p =>
          rw [hq] at h
          obtain ⟨τ'', k'⟩ := p
          cases h
          rw [List.getElem?_cons_succ, h2 j _ _ hq, Nat.add_assoc]
  | .int _, _, _, h => by rw [FOk] at h; exact h.elim
  | .bool, _, _, h => by rw [FOk] at h; exact h.elim
  | .str, _, _, h => by rw [FOk] at h; exact h.elim
  | .sl _, _, _, h => by rw [FOk] at h; exact h.elim
  | .arr _ _, _, _, h => by rw [FOk] at h; exact h.elim

theorem s_build {t : TypeId} {ps : Array (Nat × Operand)} (hK : TysOk P K) (h : Inv K.el w0 M s a w G) (ho : o.op = .build t ps) (hu : opC K o i s.base s.ev s.box s.mv s.fz some = some u) : OpGoal P K.el w0 M o i s a w G (s.app o.dst u) := by
  simp only [opC, ho] at hu
  split at hu
  · rename_i τ hτ
    split at hu
    case isFalse => cases hu
    rename_i hagg
    have hz := RepT.zero (w := w) (G := G) (el := K.el) τ
    have ht := hK _ _ hτ
    have fin : ∀ (arr : Bool) (place : Nat → Option (Nat × Nat)), buildK arr s.ev ps.toList τ.zeroD (fun d => some ({ v := .one (.dat d) } : U)) = some u →
        (∀ j τ' k, τ.off [if arr then .idx j else .fld j] = some (τ', k) → place j = some (k, τ'.size)) → τ.isAgg = true →
        (∀ l : List (Nat × Value), P.built t l = Instr.fill place (zeroC τ).toArray l) → OpGoal P K.el w0 M o i s a w G (s.app o.dst u) := by
      intro arr place hb hp hag hbu
      obtain ⟨y, g', cs', h1, h2, h3⟩ := buildK_fill hp h _ ps.toList _ _ _ hz hb
      cases h3
      refine opA h (v := .agg cs'.toArray) ?_ ⟨cs', by simp [ofCells, hag], h2⟩
      have hrun := run_build (P := P) w t (ps.map fun q => (q.1, a.eval q.2)) cs'.toArray (by rw [hbu, ← h1]; simp)
      simp only [execOp, ho, Sem.run_bind, hrun, Result.andThen_ok, Sem.run_pure]
    cases τ with
    | arr n e =>
      have hi := ht.info
      rw [TyOk] at ht
      obtain ⟨e', hu', _, hp, hte⟩ := ht
      obtain ⟨it, hit, _, hz', _⟩ := hi
      obtain ⟨ie, hie, hse, _⟩ := hte.info
      refine fin true (fun j => some (j * e.size, e.size)) hu (fun j τ' k hj => ?_) rfl (fun l => ?_)
      · simp only [if_true] at hj
        rw [Ty.off] at hj
        split at hj
        · rw [Ty.off] at hj; cases hj; rfl
        · cases hj
      · simp [Program.built, hit, hu', hz', hie, hse, ofCells, Ty.isAgg, Value.cells]
    | pr c d =>
      have hi := ht.info
      rw [TyOk] at ht
      obtain ⟨fs, f, r, hu', hl, _, h0, hp, ht1, hr⟩ := ht
      have hF : FOk P K.el (.pr c d) fs.toList 0 := by
        rw [FOk, hl]; exact ⟨f, r, rfl, h0, hp, ht1, by simpa using hr⟩
      obtain ⟨places, h1, h2⟩ := FOk.places _ _ _ hF
      obtain ⟨it, hit, _, hz', _⟩ := hi
      refine fin false (fun j => places[j]?) hu (fun j τ' k hj => ?_) rfl (fun l => ?_)
      · have := h2 j τ' k (by simpa using hj)
        simpa using this
      · have h1' := h1
        simp [Program.built, hit, hu', hz', h1', ofCells, Ty.isAgg, Value.cells]
    | un =>
      have hi := ht.info
      rw [TyOk] at ht
      obtain ⟨fs, hu', hl, _⟩ := ht
      obtain ⟨it, hit, _, hz', _⟩ := hi
      refine fin false (fun j => ([] : List (Nat × Nat))[j]?) hu (fun j τ' k hj => ?_) rfl (fun l => ?_)
      · simp [Ty.off] at hj
      · simp [Program.built, hit, hu', hz', hl, ofCells, Ty.isAgg, Value.cells]
    | int k => cases hagg
    | bool => cases hagg
    | str => cases hagg
    | sl e => cases hagg
  · cases hu

end
end Go.Proofs.Ytlehbecajmjgkaa.V
