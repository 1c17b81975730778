/- Part of a proof by a value interpreter: what an operation depends on: boxes and marks. -/
import Derived.Test.YtlehbecajmjgkaaWe
set_option linter.unusedVariables false
set_option linter.unusedSimpArgs false
namespace Go.Proofs.Ytlehbecajmjgkaa.V

section
variable {K : Cfg} {i base : Nat} {ev : Operand → W} {bx bx' : Nat → Option D} {mv mv' fz fz' : Nat → Bool} {u : U}

theorem any_congr {l : List Nat} {p q : Nat → Bool} (h : ∀ x ∈ l, p x = q x) : l.any p = l.any q := by
  induction l with
  | nil => rfl
  | cons x r ih => simp only [List.any_cons]; rw [h x (List.mem_cons_self ..), ih (fun y hy => h y (List.mem_cons_of_mem _ hy))]

theorem patOk_noOwn (mv fz mv' fz' : Nat → Bool) : (pat : List Bool) → (g : List Tg) → pat.all (!·) = true → patOk mv fz pat g = patOk mv' fz' pat g
  | [], [], _ => rfl
  | [], _ :: _, _ => rfl
  | false :: r, [], _ => rfl
  | true :: r, g, h => by simp at h
  | false :: r, t :: g, h => by
    simp only [patOk]
    exact patOk_noOwn mv fz mv' fz' r g (by simpa using h)

theorem argsOf_loc : (ins : List ATy) → (l : List W) → (y : Args ins) → ins.all ATy.noOwn = true → argsOf bx mv fz ins l = some y → (∀ b ∈ y.bxs, bx' b = bx b) → argsOf bx' mv' fz' ins l = some y
  | [], [], y, _, h, _ => h
  | [], _ :: _, y, _, h, _ => by simp [argsOf] at h
  | .val τ :: r, [], y, _, h, _ => by simp [argsOf] at h
  | .bx τ pat :: r, [], y, _, h, _ => by simp [argsOf] at h
  | .fn f :: r, [], y, _, h, _ => by simp [argsOf] at h
  | .val τ :: r, x :: l, y, hno, h, hb => by
    simp only [List.all_cons, Bool.and_eq_true] at hno
    cases x with
    | tup _ => simp [argsOf] at h
    | un => simp [argsOf] at h
    | one x =>
      simp only [argsOf] at h ⊢
      split at h
      · rename_i d hd
        split at h
        · rename_i x' hx'
          split at h
          · rename_i y' hy'
            cases h
            rw [argsOf_loc r l y' hno.2 hy' hb]
          · cases h
        · cases h
      · cases h
  | .fn f :: r, x :: l, y, hno, h, hb => by
    simp only [List.all_cons, Bool.and_eq_true] at hno
    cases x with
    | tup _ => simp [argsOf] at h
    | un => simp [argsOf] at h
    | one x =>
      cases x with
      | fn g =>
        simp only [argsOf] at h ⊢
        split at h
        · rename_i hfg
          split at h
          · rename_i y' hy'
            cases h
            rw [if_pos hfg, argsOf_loc r l y' hno.2 hy' hb]
          · cases h
        · cases h
      | _ => simp [argsOf] at h
  | .bx τ pat :: r, x :: l, y, hno, h, hb => by
    simp only [List.all_cons, Bool.and_eq_true] at hno
    cases x with
    | tup _ => simp [argsOf] at h
    | un => simp [argsOf] at h
    | one x =>
      cases x with
      | ptr b p τ' =>
        cases p with
        | cons _ _ => simp [argsOf] at h
        | nil =>
        simp only [argsOf] at h ⊢
        split at h
        · rename_i d hd
          split at h
          · rename_i hpat
            split at h
            · rename_i x' hx'
              split at h
              · rename_i y' hy'
                split at h
                · cases h
                · rename_i hnc
                  cases h
                  rw [hb b (List.mem_cons_self ..), hd]
                  simp only
                  rw [patOk_noOwn mv' fz' mv fz pat d.g hno.1, if_pos hpat, hx']
                  simp only
                  rw [argsOf_loc r l y' hno.2 hy' (fun b' hb' => hb b' (List.mem_cons_of_mem _ hb'))]
                  simp only
                  rw [if_neg hnc]
              · cases h
            · cases h
          · cases h
        · cases h
      | _ => simp [argsOf] at h

theorem opSlice_loc (τ : Option Ty) (x : W) (lo hi : Option W) (h : opSlice τ x lo hi bx (fun v ids rb => if ids.any mv then none else some ({ v, fzs := ids, rb } : U)) = some u)
    (hb : ∀ b, b ∈ u.rb → bx' b = bx b) (hm : ∀ id, id ∈ u.fzs → mv' id = mv id) :
    opSlice τ x lo hi bx' (fun v ids rb => if ids.any mv' then none else some ({ v, fzs := ids, rb } : U)) = some u := by
  have fin : ∀ (v : W) (ids rb : List Nat), (if ids.any mv then none else some ({ v, fzs := ids, rb } : U)) = some u → (if ids.any mv' then none else some ({ v, fzs := ids, rb } : U)) = some u := by
    intro v ids rb hh
    split at hh
    · cases hh
    · rename_i hn
      cases hh
      rw [any_congr hm, if_neg hn]
  unfold opSlice at h ⊢
  split at h
  · split at h
    · rename_i ht
      rw [if_pos ht]
      split at h
      · obtain ⟨r, hr, h⟩ := bnd_some h
        rw [hr]
        exact fin _ _ _ h
      · cases h
    · cases h
  · rename_i hty
    split at h
    · rename_i ht
      rw [if_pos ht]
      split at h
      · split at h
        · exact fin _ _ _ h
        · split at h
          · obtain ⟨r, hr, h⟩ := bnd_some h
            rw [hr]
            exact fin _ _ _ h
          · cases h
      · split at h
        · obtain ⟨r, hr, h⟩ := bnd_some h
          rw [hr]
          exact fin _ _ _ h
        · cases h
    · cases h
  · split at h
    · rename_i n te x0 g0 hbx
      split at h
      · rename_i ht
        have hrb : ∀ (v : W) (ids rb : List Nat), (if ids.any mv then none else some ({ v, fzs := ids, rb } : U)) = some u → u.rb = rb := by
          intro v ids rb h
          split at h
          · cases h
          · cases h; rfl
        rw [hb _ (by rw [hrb _ _ _ h]; simp), hbx]
        simp only [ht, if_true]
        exact fin _ _ _ h
      · cases h
    · cases h
  · cases h

theorem ownable_loc {g : List Tg} {ids : List Nat} (h : ownable mv fz g = some ids) (hm : ∀ id, id ∈ ids → mv' id = mv id ∧ fz' id = fz id) : ownable mv' fz' g = some ids := by
  unfold ownable at h ⊢
  split at h
  · exact h
  · rename_i i
    split at h
    · cases h
    · rename_i hn
      cases h
      rw [(hm i (by simp)).1, (hm i (by simp)).2, if_neg hn]
  · cases h

theorem outVals_key (d : Nat) {τ : Ty} {pat : List Bool} : (outs : List RTy) → (r : RDen outs) → (n : Nat) → outs = [.bx τ pat] → d ∈ (outVals d outs r n).2.1.map (·.1) := by
  intro outs r n h
  subst h
  simp [outVals]

theorem opC_loc (o : Oper) (h : opC K o i base ev bx mv fz some = some u) (hb : ∀ b, b ∈ u.rb ∨ b ∈ u.wb.map (·.1) → bx' b = bx b) (hm : ∀ id, id ∈ u.rf ∨ id ∈ u.mvs ∨ id ∈ u.fzs → mv' id = mv id ∧ fz' id = fz id) :
    opC K o i base ev bx' mv' fz' some = some u := by
  obtain ⟨dst, op, type, pos, after, guard⟩ := o
  cases op <;> simp only [opC] at h ⊢
  case alloc t =>
    split at h
    · split at h
      · rename_i hd
        cases h
        rw [hb _ (.inr (by simp)), if_pos hd]
      · cases h
    · cases h
  case box t x =>
    split at h
    · split at h
      · rename_i hd
        split at h
        · cases h
          rw [hb _ (.inr (by simp)), if_pos hd]
        · cases h
      · cases h
    · cases h
  case buildSlice t n ps =>
    split at h
    · split at h
      · rename_i e _ hc
        have key := elemsK_nat e ev (fun xs ids => some (xs, ids)) (fun (q : List e.den × List Nat) => if q.2.any mv then none else some ({ v := .one (.dat ⟨.sl e, q.1, [.ow (base + 64 * i)]⟩), fzs := q.2 } : U)) ps.toList (List.replicate n e.zero) []
        have key' := elemsK_nat e ev (fun xs ids => some (xs, ids)) (fun (q : List e.den × List Nat) => if q.2.any mv' then none else some ({ v := .one (.dat ⟨.sl e, q.1, [.ow (base + 64 * i)]⟩), fzs := q.2 } : U)) ps.toList (List.replicate n e.zero) []
        have h := key.symm.trans h
        rw [if_pos hc]
        refine key'.trans ?_
        obtain ⟨q, hq, h⟩ := Option.bind_eq_some_iff.1 h
        rw [hq]
        simp only [Option.bind_some]
        split at h
        · cases h
        · rename_i hn
          cases h
          rw [any_congr (fun id hid => (hm id (.inr (.inr hid))).1), if_neg hn]
      · cases h
    · cases h
  case load t ad =>
    split at h
    · rename_i τ b p τ' _ hev
      split at h
      · rename_i ht
        split at h
        · rename_i d hd
          have hrb : b ∈ u.rb := by
            rw [getK_nat] at h
            obtain ⟨e, _, h⟩ := Option.bind_eq_some_iff.1 h
            split at h
            · cases h; simp
            · cases h
          rw [if_pos ht, hb b (.inl hrb), hd]
          exact h
        · cases h
      · cases h
    · exact h
    · cases h
  case store t ad x =>
    split at h
    · rename_i τ b p τ' v _ hev hx
      split at h
      · rename_i ht
        split at h
        · rename_i d e hd he
          have hrb : b ∈ u.rb := by
            have := putK_nat d.ty d.x d.g p e (fun y g => some (y, g)) (fun q => some ({ v := .un, wb := [(b, ⟨d.ty, q.1, q.2⟩)], rb := [b] } : U))
            have h := this.symm.trans h
            obtain ⟨q, _, h⟩ := Option.bind_eq_some_iff.1 h
            cases h; simp
          rw [if_pos ht, hb b (.inl hrb), hd, he]
          exact h
        · cases h
      · cases h
    · cases h
  case slice t x lo hi mx =>
    cases mx with
    | some _ => cases h
    | none => exact opSlice_loc _ _ _ _ h (fun b hb' => hb b (.inl hb')) (fun id hid => (hm id (.inr (.inr hid))).1)
  case call cl =>
    split at h
    · exact h
    · exact h
    · split at h
      · split at h
        · rename_i ht
          rw [if_pos ht]
          split at h
          · split at h
            · rename_i hp
              rw [if_pos hp]
              split at h
              · split at h
                · rename_i e1 e2 e3
                  rcases br_some h with ⟨hq, h⟩ | ⟨_, h⟩
                  · cases h
                    rw [ownable_loc e1 (fun id hid => hm id (.inl hid)), e2, e3]
                    simp only [hq]
                    rfl
                  · cases h
                · cases h
              · cases h
            · cases h
          · cases h
        · cases h
      · cases h
    · split at h
      · split at h
        · rename_i cn hcn
          unfold callK at h ⊢
          split at h
          · cases h
          · rename_i y hy
            simp only at h
            split at h
            · rename_i hc
              simp only [Bool.and_eq_true] at hc
              have h0 := h
              rw [cn.ok] at h0
              obtain ⟨r, _, h0⟩ := Option.bind_eq_some_iff.1 h0
              have hrb : u.rb = y.bxs := by cases h0; rfl
              have hfz : u.fzs = if (cn.outs.all RTy.pure && cn.ins.all ATy.pure) then [] else y.lent := by cases h0; rfl
              have hwb : ∀ p ∈ (outVals (dst.getD 0) cn.outs r.1 (base + 64 * i)).2.1, p ∈ u.wb := by
                intro p hp; cases h0; exact List.mem_append_left _ hp
              rw [argsOf_loc cn.ins _ y hc.1.1.2 hy (fun b hb' => hb b (.inl (by rw [hrb]; exact hb')))]
              simp only
              rw [if_pos, h]
              have hnb : newBox cn.outs dst bx' = newBox cn.outs dst bx := by
                unfold newBox
                split
                · rename_i d ho _
                  congr 1
                  refine hb d (.inr ?_)
                  obtain ⟨q, hq, hd⟩ := List.mem_map.1 (outVals_key d _ r.1 (base + 64 * i) ho)
                  exact List.mem_map.2 ⟨q, hwb _ hq, hd⟩
                · rfl
                · rfl
              simp only [Bool.and_eq_true]
              refine ⟨⟨⟨⟨hc.1.1.1.1, ?_⟩, hc.1.1.2⟩, hc.1.2⟩, by rw [hnb]; exact hc.2⟩
              cases hp : (cn.outs.all RTy.pure && cn.ins.all ATy.pure) with
              | true => rfl
              | false =>
                have h1 := hc.1.1.1.2
                rw [hp] at h1 hfz
                simp only [Bool.false_or] at h1 ⊢
                rw [any_congr (fun id hid => (hm id (.inr (.inr (by rw [hfz]; exact hid)))).1)]
                exact h1
            · cases h
        · cases h
      · cases h
    · cases h
  all_goals first | exact h | (cases h; done)

end
end Go.Proofs.Ytlehbecajmjgkaa.V
