/- Part of a proof by a value interpreter: operators and conversions. -/
import Derived.Test.YtlehbecajmjgkaaVh
import Derived.Laws.Small
import Derived.Laws.Cover3
import Derived.Laws.Strings
set_option linter.unusedVariables false
set_option linter.unusedSimpArgs false
namespace Go.Proofs.Ytlehbecajmjgkaa.V

section
variable {P : Program} {K : Cfg} {w0 : World} {M : Hx} {o : Oper} {i : Nat} {s : St} {a : Act} {w : World} {G : Gh} {u : U}

theorem run_bin {op : BinOp} {t t' : TypeId} {x y : Operand} {v : Value} {vx vy : Value} (ho : o.op = .binOp op t x y t') (hx : a.eval x = vx) (hy : a.eval y = vy)
    (hg : eqGuard op t x y vx vy = pure ()) (h : (Go.binOp op t vx vy).run P w = .ok v w) : (execOp a.eval o).run P w = .ok (.value v) w := by
  simp [execOp, ho, hx, hy, hg, h]

theorem str_eq (l m : List UInt8) : ((⟨l.toArray⟩ : ByteArray).toList == (⟨m.toArray⟩ : ByteArray).toList) = decide (l = m) := by
  rw [ByteArray.toList_eq, ByteArray.toList_eq]
  show (l == m) = decide (l = m)
  rw [Bool.eq_iff_iff]
  simp

theorem RepS.none_nil {el : Ty → TypeId} {t : Ty} {xs : List t.den} {tg : Tg} {n c : Nat} (hr : RepS w G el t xs tg (.slice none n c)) : xs = [] ∧ n = 0 ∧ c = 0 := by
  have own : ∀ id full, OwnAt w G el t xs id full (.slice none n c) → xs = [] ∧ n = 0 ∧ c = 0 := by
    intro id full hr
    unfold OwnAt at hr
    split at hr
    · exact hr.elim
    · obtain ⟨h, rfl⟩ := hr; simpa using h
    · obtain ⟨_, _, _, c', cap', he', _⟩ := hr; simp at he'
  cases tg with
  | im =>
    simp only [RepS, RepIm] at hr
    obtain ⟨a', cap', he', hh | ⟨_, _, _, _, _, rfl, _⟩⟩ := hr
    · obtain ⟨rfl, rfl, rfl⟩ := hh
      simpa using he'
    · simp at he'
  | ni => obtain ⟨h, rfl⟩ := hr; simpa using h
  | ow id => exact own id true hr
  | pa id => exact own id false hr

theorem s_binOp {op : BinOp} {t t' : TypeId} {x y : Operand} (hK : TysOk P K) (h : Inv K.el w0 M s a w G) (ho : o.op = .binOp op t x y t') (hu : opC K o i s.base s.ev s.box s.mv s.fz some = some u) : OpGoal P K.el w0 M o i s a w G (s.app o.dst u) := by
  simp only [opC, ho] at hu
  have hbx := h.ev x
  have hby := h.ev y
  unfold opBin at hu
  split at hu
  · -- numbers
    rename_i k m g k' m' g' he he'
    rw [he] at hbx
    rw [he'] at hby
    have hv := rep_dat_int hbx
    have hv' := rep_dat_int hby
    have hx8 : k = .u8 → 0 ≤ toI k m ∧ toI k m < 256 := fun hk => by subst hk; exact toI_u8 m
    have fin : ∀ op' k'' (q : Int), op' = op → binI op' k (toI k m) q (fun v => some ({ v := v } : U)) = some u →
        (∀ r, binI op' k (toI k m) q some = some r → ∃ v, (Go.binOp op t (.int k (toI k m)) (.int k'' q)).run P w = .ok v w ∧ RepW w G K.el r v) → q = toI k' m' → k'' = k' →
        OpGoal P K.el w0 M o i s a w G (s.app o.dst u) := by
      intro op' k'' q hop hb hr hq hk
      subst hq
      subst hk
      have : ∃ r, binI op' k (toI k m) (toI k'' m') some = some r ∧ u = { v := r } := by
        cases op' <;> simp only [binI] at hb ⊢ <;> first
          | (cases hb; exact ⟨_, rfl, rfl⟩)
          | (rcases br_some hb with ⟨h1, h2⟩ | ⟨h1, h2⟩ <;> first | (cases h2; done) | (cases h2; exact ⟨_, by rw [h1]; rfl, rfl⟩))
      obtain ⟨r, hr1, rfl⟩ := this
      obtain ⟨v, hv1, hv2⟩ := hr r hr1
      exact opA h (run_bin ho hv hv' (eqGuard_at_int _ _ _ _ _ _ _) hv1) hv2
    split at hu
    · exact fin .shl k' _ rfl hu (fun r hr => shift_run hx8 (.inl rfl) hr t w G) rfl rfl
    · exact fin .shr k' _ rfl hu (fun r hr => shift_run hx8 (.inr rfl) hr t w G) rfl rfl
    · rename_i hn1 hn2
      split at hu
      · rename_i hk
        subst hk
        exact fin op k _ rfl hu (fun r hr => binI_run hx8 ⟨hn1, hn2⟩ hr t w G) rfl rfl
      · cases hu
  · -- strings
    rename_i l g l' g' he he'
    rw [he] at hbx
    rw [he'] at hby
    have hv := rep_dat_str hbx
    have hv' := rep_dat_str hby
    split at hu
    · rcases br_some hu with ⟨hb, hu⟩ | ⟨_, hu⟩
      · cases hu
        have hb' : l.length + l'.length ≤ 4294967296 := by simpa using hb
        refine opA h (run_bin ho hv hv' (eqGuard_at_string _ _ _ _ _ _) (v := .string ⟨(l ++ l').toArray⟩) ?_) rep_str
        have hsz : ¬ ((((⟨l.toArray⟩ : ByteArray).size + (⟨l'.toArray⟩ : ByteArray).size : Nat) : Int) > IntKind.i64.max) := by
          rw [size_mk, size_mk, IntKind.max_i64]; omega
        simp only [Go.binOp, Op.stringOp, hsz, if_false]
        show Result.ok _ w = _
        congr 2
      · cases hu
    · cases hu
      refine opA h (run_bin ho hv hv' (eqGuard_at_string _ _ _ _ _ _) (v := .bool (decide (l = l'))) ?_) rep_bool
      simp only [Go.binOp, Op.stringOp, str_eq]
      rfl
    · cases hu
      refine opA h (run_bin ho hv hv' (eqGuard_at_string _ _ _ _ _ _) (v := .bool (!decide (l = l'))) ?_) rep_bool
      simp only [Go.binOp, Op.stringOp, str_eq]
      rfl
    · cases hu
  · -- truth values
    rename_i b g b' g' he he'
    rw [he] at hbx
    rw [he'] at hby
    have hv := rep_dat_bool hbx
    have hv' := rep_dat_bool hby
    split at hu
    · rename_i ht
      have hs := (hK _ _ ht).bool
      split at hu
      · cases hu; exact opA h (run_bin ho hv hv' (eqGuard_at_bool _ _ _ _ _ _) (run_eql_bool w t b b' hs)) rep_bool
      · cases hu; exact opA h (run_bin ho hv hv' (eqGuard_at_bool _ _ _ _ _ _) (run_neq_bool w t b b' hs)) rep_bool
      · cases hu
    · cases hu
  · -- a nil slice against nil
    rename_i te xs he he'
    rw [he] at hbx
    rw [he'] at hby
    obtain ⟨tg, htg, hr⟩ := rep_dat_sl hbx
    cases htg
    have hv : a.eval x = .slice none 0 0 := hr.1
    have hv' : a.eval y = .slice none 0 0 := hby
    split at hu
    · rename_i ht
      have hs := (hK _ _ ht).sl.1
      split at hu
      · cases hu
        refine opA h (run_bin ho hv hv' (eqGuard_at_slice _ _ _ _ _ _ _ _) (v := .bool true) ?_) rep_bool
        simp [Go.binOp, run_equal_slice_nil w t _ none 0 0 hs]
      · cases hu
        exact opA h (run_bin ho hv hv' (eqGuard_at_slice _ _ _ _ _ _ _ _) (v := .bool false) (by rw [run_neq_slice_nil w t _ none 0 0 hs]; rfl)) rep_bool
      · cases hu
    · cases hu
  · -- a slice with elements against nil
    rename_i te y0 ys g he he'
    rw [he] at hbx
    rw [he'] at hby
    obtain ⟨tg, htg, hr⟩ := rep_dat_sl hbx
    obtain ⟨ad, cap, hv⟩ := hr.one
    have hv' : a.eval y = .slice none 0 0 := hby
    have hsome : ad.isNone = false := by
      cases ad with
      | none => rw [hv] at hr; have := hr.none_nil.1; cases this
      | some _ => rfl
    split at hu
    · rename_i ht
      have hs := (hK _ _ ht).sl.1
      split at hu
      · cases hu
        refine opA h (run_bin ho hv hv' (eqGuard_at_slice _ _ _ _ _ _ _ _) (v := .bool false) ?_) rep_bool
        simp [Go.binOp, run_equal_slice_nil w t _ ad _ cap hs, hsome]
      · cases hu
        exact opA h (run_bin ho hv hv' (eqGuard_at_slice _ _ _ _ _ _ _ _) (v := .bool true) (by rw [run_neq_slice_nil w t _ ad _ cap hs, hsome]; rfl)) rep_bool
      · cases hu
    · cases hu
  · cases hu

end
end Go.Proofs.Ytlehbecajmjgkaa.V
