/- Part of a proof by a value interpreter: how types are laid out in memory, and what loads, stores and addresses do there. -/
import Derived.Test.YtlehbecajmjgkaaVc
set_option linter.unusedVariables false
set_option linter.unusedSimpArgs false
namespace Go.Proofs.Ytlehbecajmjgkaa.V

/-- the cells of the zero value -/
def zeroC : Ty → List Value
  | .int k => [.int k 0]
  | .bool => [.bool false]
  | .str => [.string ByteArray.empty]
  | .sl _ => [.slice none 0 0]
  | .un => []
  | .pr a b => zeroC a ++ zeroC b
  | .arr n t => (List.replicate n (zeroC t)).flatten

/-- a value of its cells -/
def ofCells (τ : Ty) (cs : List Value) : Value := if τ.isAgg then .agg cs.toArray else cs.headD undef

def Inf (P : Program) (t : TypeId) (n : Nat) (z : Value) : Prop := ∃ i, P.info? t = some i ∧ i.size = n ∧ i.zero = some z ∧ i.bytes ≤ 32768

mutual
/-- Type number 't' of the program is laid out as 'τ' says. -/
def TyOk (P : Program) (el : Ty → TypeId) : Ty → TypeId → Prop
  | .int k, t => P.underlying t = some (.int k) ∧ Inf P t 1 (.int k 0)
  | .bool, t => P.underlying t = some .bool ∧ Inf P t 1 (.bool false)
  | .str, t => P.underlying t = some .string ∧ Inf P t 1 (.string ByteArray.empty)
  | .sl a, t => P.underlying t = some (.slice (el a)) ∧ Inf P t 1 (.slice none 0 0) ∧ TyOk P el a (el a)
  | .un, t => ∃ fs, P.underlying t = some (.struct fs) ∧ fs.toList = [] ∧ Inf P t 0 (.agg #[])
  | .pr a b, t => ∃ fs f r, P.underlying t = some (.struct fs) ∧ fs.toList = f :: r ∧ Inf P t (a.size + b.size) (.agg (zeroC (.pr a b)).toArray) ∧
      f.offset = 0 ∧ 0 < a.size ∧ TyOk P el a f.type ∧ FOk P el b r a.size
  | .arr n a, t => ∃ e, P.underlying t = some (.array n e) ∧ Inf P t (n * a.size) (.agg (zeroC (.arr n a)).toArray) ∧ 0 < a.size ∧ TyOk P el a e
/-- The fields 'fs', from cell 'n' on, are laid out as 'τ' says. -/
def FOk (P : Program) (el : Ty → TypeId) : Ty → List Field → Nat → Prop
  | .un, fs, _ => fs = []
  | .pr a b, fs, n => ∃ f r, fs = f :: r ∧ f.offset = n ∧ 0 < a.size ∧ TyOk P el a f.type ∧ FOk P el b r (n + a.size)
  | .int _, _, _ => False
  | .bool, _, _ => False
  | .str, _, _ => False
  | .sl _, _, _ => False
  | .arr _ _, _, _ => False
end

section
variable {P : Program} {el : Ty → TypeId}

theorem TyOk.info : {τ : Ty} → {t : TypeId} → TyOk P el τ t → Inf P t τ.size (ofCells τ (zeroC τ))
  | .int _, _, h => by rw [TyOk] at h; exact h.2
  | .bool, _, h => by rw [TyOk] at h; exact h.2
  | .str, _, h => by rw [TyOk] at h; exact h.2
  | .sl _, _, h => by rw [TyOk] at h; exact h.2.1
  | .un, _, h => by rw [TyOk] at h; obtain ⟨_, _, _, h⟩ := h; exact h
  | .pr _ _, _, h => by rw [TyOk] at h; obtain ⟨_, _, _, _, _, h, _⟩ := h; exact h
  | .arr _ _, _, h => by rw [TyOk] at h; obtain ⟨_, _, h, _⟩ := h; exact h

theorem run_sizeOf {t : TypeId} {n : Nat} {z : Value} (h : Inf P t n z) (w : World) : (sizeOf t).run P w = .ok n w := by
  obtain ⟨i, hi, hs, _⟩ := h
  simp [sizeOf, typeInfo, hi, hs]
theorem run_zeroValue {t : TypeId} {n : Nat} {z : Value} (h : Inf P t n z) (w : World) : (zeroValue t).run P w = .ok z w := by
  obtain ⟨i, hi, _, hz, _⟩ := h
  simp [zeroValue, typeInfo, hi, hz]

theorem TyOk.agg {τ : Ty} {t : TypeId} (h : TyOk P el τ t) (w : World) : (isAgg t).run P w = .ok τ.isAgg w := by
  cases τ <;> rw [TyOk] at h
  case int => simp [isAgg, run_underlying h.1, Ty.isAgg]
  case bool => simp [isAgg, run_underlying h.1, Ty.isAgg]
  case str => simp [isAgg, run_underlying h.1, Ty.isAgg]
  case sl => simp [isAgg, run_underlying h.1, Ty.isAgg]
  case un => obtain ⟨_, h, _⟩ := h; simp [isAgg, run_underlying h, Ty.isAgg]
  case pr => obtain ⟨_, _, _, h, _⟩ := h; simp [isAgg, run_underlying h, Ty.isAgg]
  case arr => obtain ⟨_, h, _⟩ := h; simp [isAgg, run_underlying h, Ty.isAgg]

/-- one-cell types have one cell -/
theorem one_of_notAgg {τ : Ty} (h : τ.isAgg = false) : τ.size = 1 := by cases τ <;> simp_all [Ty.isAgg, Ty.size]

theorem RepIm.oneCell {w : World} {im : Nat → Prop} : {τ : Ty} → {x : τ.den} → {cs : List Value} → RepIm w im τ x cs → ∀ v ∈ cs, v.oneCell' = true
  | .int _, _, _, h => by simp only [RepIm] at h; subst h; simp [Value.oneCell']
  | .bool, _, _, h => by simp only [RepIm] at h; subst h; simp [Value.oneCell']
  | .str, _, _, h => by simp only [RepIm] at h; subst h; simp [Value.oneCell']
  | .sl _, _, _, h => by simp only [RepIm] at h; obtain ⟨_, _, rfl, _⟩ := h; simp [Value.oneCell']
  | .un, _, _, h => by simp only [RepIm] at h; subst h; simp
  | .pr _ _, _, _, h => by
    simp only [RepIm] at h
    obtain ⟨c1, c2, rfl, h1, h2⟩ := h
    intro v hv
    rcases List.mem_append.1 hv with hv | hv
    · exact h1.oneCell v hv
    · exact h2.oneCell v hv
  | .arr n t, xs, cs, h => by
    simp only [RepIm] at h
    obtain ⟨hl, hc, he⟩ := h
    intro v hv
    obtain ⟨j, hj, rfl⟩ := List.mem_iff_getElem.1 hv
    by_cases h0 : t.size = 0
    · rw [hc, h0] at hj; omega
    have hp : 0 < t.size := Nat.pos_of_ne_zero h0
    have hd : j / t.size < n := by
      rw [Nat.div_lt_iff_lt_mul hp]; omega
    have hx : xs[j / t.size]? = some (xs[j / t.size]'(by omega)) := List.getElem?_eq_getElem _
    refine (he _ _ hx).oneCell cs[j] ?_
    have hm : j % t.size < t.size := Nat.mod_lt _ hp
    have hq : (seg cs (j / t.size) t.size)[j % t.size]? = some cs[j] := by
      rw [seg_getElem? _ _ _ _ hm, Nat.mul_comm, Nat.div_add_mod]
      exact List.getElem?_eq_getElem hj
    exact List.mem_of_getElem? hq

theorem RepT.oneCell {w : World} {G : Gh} : {τ : Ty} → {x : τ.den} → {g : List Tg} → {cs : List Value} → RepT w G el τ x g cs → ∀ v ∈ cs, v.oneCell' = true
  | .int _, _, _, _, h => by simp only [RepT] at h; exact h.2.oneCell
  | .bool, _, _, _, h => by simp only [RepT] at h; exact h.2.oneCell
  | .str, _, _, _, h => by simp only [RepT] at h; exact h.2.oneCell
  | .sl _, _, _, _, h => by
    simp only [RepT] at h
    obtain ⟨_, _, _, rfl, h⟩ := h
    obtain ⟨_, _, rfl⟩ := h.one
    simp [Value.oneCell']
  | .un, _, _, _, h => by simp only [RepT] at h; exact h.2.oneCell
  | .pr _ _, _, _, _, h => by
    simp only [RepT] at h
    obtain ⟨c1, c2, rfl, h1, h2⟩ := h
    intro v hv
    rcases List.mem_append.1 hv with hv | hv
    · exact h1.oneCell v hv
    · exact h2.oneCell v hv
  | .arr _ _, _, _, _, h => by simp only [RepT] at h; exact h.2.oneCell

theorem ofCells_cells {w : World} {G : Gh} {τ : Ty} {x : τ.den} {g : List Tg} {cs : List Value} (h : RepT w G el τ x g cs) : (ofCells τ cs).cells = cs.toArray := by
  unfold ofCells
  split
  · rfl
  · rename_i ha
    have h1 := one_of_notAgg (by simpa using ha)
    have hl := h.len.1
    rw [h1] at hl
    obtain ⟨v, rfl⟩ := List.length_eq_one_iff.1 hl
    have := h.oneCell v (by simp)
    cases v <;> simp_all [Value.cells, Value.oneCell']

/-- what a load brings -/
theorem run_loadVar_at {τ : Ty} {t : TypeId} (ht : TyOk P el τ t) {w : World} {b off : Nat} {c : Array Value} {e : TypeId} {fz : Nat × Nat} (hb : w.heap[b]? = some (.cells c e fz)) (hl : off + τ.size ≤ c.size) :
    (loadVar t ⟨b, off, none⟩).run P w = .ok (ofCells τ (part' c.toList off τ.size)) w := by
  have hcell : ∀ j v, (part' c.toList off τ.size)[j]? = some v → w.cell? ((⟨b, off, none⟩ : Addr).add j) = some v := by
    intro j v hv
    unfold part' at hv
    rw [List.getElem?_take] at hv
    split at hv
    · rw [List.getElem?_drop] at hv
      rw [Addr.add_lit, cell_of_row w b (off + j) c e fz hb]
      simpa using hv
    · cases hv
  have hlen : (part' c.toList off τ.size).length = τ.size := by
    unfold part'
    simp only [List.length_take, List.length_drop, Array.length_toList]
    omega
  unfold loadVar ofCells
  simp only [Sem.run_bind, ht.agg w, Result.andThen_ok]
  by_cases ha : τ.isAgg = true
  · have h := run_loadCells_list (P := P) w ⟨b, off, none⟩ (part' c.toList off τ.size) hcell
    rw [hlen] at h
    simp [ha, run_sizeOf ht.info w, h]
  · have h1 := one_of_notAgg (by simpa using ha)
    rw [h1] at hlen
    obtain ⟨v, hv⟩ := List.length_eq_one_iff.1 hlen
    rw [h1]
    have h0 := hcell 0 v (by rw [h1, hv]; rfl)
    rw [Addr.add_zero'] at h0
    simp [ha, hv, h0]

/-- what a store does -/
theorem run_storeVar_at {τ : Ty} {t : TypeId} (ht : TyOk P el τ t) {w w0 : World} {G : Gh} {x : τ.den} {g : List Tg} {cs : List Value} (hr : RepT w0 G el τ x g cs)
    {b off : Nat} {c : Array Value} {e : TypeId} (hb : w.heap[b]? = some (.cells c e (0, 0))) (hl : off + τ.size ≤ c.size) :
    (storeVar t ⟨b, off, none⟩ (ofCells τ cs)).run P w = .ok () (w.setRow b (putC c.toList off cs).toArray) := by
  have hc := ofCells_cells hr
  have hlen := hr.len.1
  have h := run_storeCells_at (P := P) b off e cs 0 c w hb (by omega) hr.oneCell
  simp only [Nat.add_zero] at h
  unfold storeVar
  simp only [Sem.run_bind, run_sizeOf ht.info w, Result.andThen_ok, hc, List.size_toArray, hlen, ne_eq, not_true_eq_false, if_false, Sem.run_pure, h]
  simp only [putC, hlen]

/-- fields -/
theorem FOk.fld : {τ : Ty} → {fs : List Field} → {n f : Nat} → {τ' : Ty} → FOk P el τ fs n → τ.fld f = some τ' → ∃ fd k, fs[f]? = some fd ∧ fd.offset = n + k ∧ 0 < τ'.size ∧ TyOk P el τ' fd.type ∧ τ.off [.fld f] = some (τ', k)
  | .pr a b, fs, n, 0, τ', h, hf => by
    rw [FOk] at h
    obtain ⟨fd, r, rfl, ho, hp, ht, _⟩ := h
    simp only [Ty.fld] at hf
    obtain rfl := Option.some.inj hf
    exact ⟨fd, 0, rfl, by omega, hp, ht, by rw [Ty.off, Ty.off]⟩
  | .pr a b, fs, n, f + 1, τ', h, hf => by
    rw [FOk] at h
    obtain ⟨fd, r, rfl, ho, hp, ht, hr⟩ := h
    simp only [Ty.fld] at hf
    obtain ⟨fd', k, h1, h2, h3, h4, h5⟩ := hr.fld hf
    exact ⟨fd', a.size + k, by simpa using h1, by omega, h3, h4, by rw [Ty.off, h5]; rfl⟩
  | .int _, _, _, _, _, _, hf => by simp [Ty.fld] at hf
  | .bool, _, _, _, _, _, hf => by simp [Ty.fld] at hf
  | .str, _, _, _, _, _, hf => by simp [Ty.fld] at hf
  | .sl _, _, _, _, _, _, hf => by simp [Ty.fld] at hf
  | .un, _, _, _, _, _, hf => by simp [Ty.fld] at hf
  | .arr _ _, _, _, _, _, _, hf => by simp [Ty.fld] at hf

theorem TyOk.fld {τ : Ty} {t : TypeId} (h : TyOk P el τ t) {f : Nat} {τ' : Ty} (hf : τ.fld f = some τ') :
    ∃ fs fd k, P.underlying t = some (.struct fs) ∧ fs[f]? = some fd ∧ fd.offset = k ∧ 0 < τ'.size ∧ TyOk P el τ' fd.type ∧ τ.off [.fld f] = some (τ', k) := by
  cases τ with
  | pr a b =>
    rw [TyOk] at h
    obtain ⟨fs, fd, r, hu, hl, _, h0, hp, ht, hr⟩ := h
    have hF : FOk P el (.pr a b) fs.toList 0 := by
      rw [FOk, hl]
      exact ⟨fd, r, rfl, h0, hp, ht, by simpa using hr⟩
    obtain ⟨fd', k, h1, h2, h3, h4, h5⟩ := hF.fld hf
    exact ⟨fs, fd', k, hu, by simpa using h1, by omega, h3, h4, h5⟩
  | _ => simp [Ty.fld] at hf

theorem run_fieldAt {τ : Ty} {t : TypeId} (h : TyOk P el τ t) {f : Nat} {τ' : Ty} (hf : τ.fld f = some τ') (w : World) (b off : Nat) :
    ∃ k, τ.off [.fld f] = some (τ', k) ∧ (Instr.fieldAt t (.pointer (some ⟨b, off, none⟩)) f).run P w = .ok (.pointer (some ⟨b, off + k, none⟩)) w := by
  obtain ⟨fs, fd, k, hu, hfd, ho, hp, ht, hoff⟩ := h.fld hf
  refine ⟨k, hoff, ?_⟩
  have hs := run_sizeOf ht.info w
  have h0 : τ'.size ≠ 0 := by omega
  simp [Instr.fieldAt, run_underlying hu, hfd, Instr.sureAddr, fieldPlace, hs, h0, Addr.add_lit, ho]

theorem run_field {τ : Ty} {t : TypeId} (h : TyOk P el τ t) {f : Nat} {τ' : Ty} (hf : τ.fld f = some τ') (w : World) (cs : List Value) (hl : cs.length = τ.size) :
    ∃ k, τ.off [.fld f] = some (τ', k) ∧ (Instr.field t (ofCells τ cs) f).run P w = .ok (ofCells τ' (part' cs k τ'.size)) w := by
  obtain ⟨fs, fd, k, hu, hfd, ho, hp, ht, hoff⟩ := h.fld hf
  refine ⟨k, hoff, ?_⟩
  have hagg : τ.isAgg = true := by cases τ <;> simp_all [Ty.fld, Ty.isAgg]
  have hfit := Ty.off_fits hoff
  have e1 : (ofCells τ cs) = .agg cs.toArray := by simp [ofCells, hagg]
  subst ho
  rw [e1]
  by_cases ha : τ'.isAgg = true
  · have e2 : ofCells τ' (part' cs fd.offset τ'.size) = .agg (part' cs fd.offset τ'.size).toArray := by simp [ofCells, ha]
    rw [e2]
    simp [Instr.field, run_underlying hu, hfd, asAgg, part, ht.agg w, ha, run_sizeOf ht.info w, part']
  · have h1 := one_of_notAgg (by simpa using ha)
    have hlt : fd.offset < cs.length := by omega
    have e2 : ofCells τ' (part' cs fd.offset τ'.size) = cs[fd.offset] := by
      rw [ofCells, if_neg ha, part', h1, List.drop_eq_getElem_cons hlt]
      rfl
    rw [e2]
    simp [Instr.field, run_underlying hu, hfd, asAgg, part, ht.agg w, ha, hlt]

end
end Go.Proofs.Ytlehbecajmjgkaa.V
