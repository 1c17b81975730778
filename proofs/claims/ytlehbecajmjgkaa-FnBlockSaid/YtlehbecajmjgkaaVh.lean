/- Part of a proof by a value interpreter: more operations that only compute. -/
import Derived.Test.YtlehbecajmjgkaaVg
set_option linter.unusedVariables false
set_option linter.unusedSimpArgs false
namespace Go.Proofs.Ytlehbecajmjgkaa.V

section
variable {P : Program} {K : Cfg} {w0 : World} {M : Hx} {o : Oper} {i : Nat} {s : St} {a : Act} {w : World} {G : Gh} {u : U}

/-- When everything that was said stays true. -/
theorem keeps_of {el : Ty → TypeId} {w w' : World} {G G' : Gh} (h1 : ∀ b, G.im b → w'.heap[b]? = w.heap[b]? ∧ G'.im b)
    (h2 : ∀ id q, G.la id = some q → G'.la id = some q) (h3 : ∀ id g n, G.la id = some (some (g, n)) → G'.sz g = G.sz g ∧ w'.heap[g]? = w.heap[g]?)
    (h4 : ∀ b k τ, G.lb b = some (k, τ) → G'.lb b = some (k, τ)) : Keeps w G w' G' el := by
  have him : ∀ {τ : Ty} {x : τ.den} {cs : List Value}, RepIm w G.im τ x cs → RepIm w' G'.im τ x cs := fun h => h.mono (fun b hb => (h1 b hb).1) (fun b hb => (h1 b hb).2)
  refine ⟨h1, fun t xs tg v h => ?_, h4⟩
  have own : ∀ id full, OwnAt w G el t xs id full v → OwnAt w' G' el t xs id full v := by
    intro id full h
    unfold OwnAt at h ⊢
    split at h
    · exact h.elim
    · rename_i hq; rw [h2 id _ hq]; exact h
    · rename_i g ext hq
      rw [h2 id _ hq]
      obtain ⟨hf, hs, hp, c, cap, hv, a1, a2, a3, a4, a5⟩ := h
      obtain ⟨b1, b2⟩ := h3 id g ext hq
      exact ⟨hf, b1.trans hs, hp, c, cap, hv, a1, a2, b2.trans a3, a4, fun j x hx => him (a5 j x hx)⟩
  cases tg with
  | im => exact him h
  | ni => exact h
  | ow id => exact own id true h
  | pa id => exact own id false h

theorem size_mk (l : List UInt8) : (⟨l.toArray⟩ : ByteArray).size = l.length := by
  show l.toArray.size = _
  simp

theorem bIdx_some {α : Type} {xs : List α} {j : Int} {x : α} (h : bIdx xs j = some x) : 0 ≤ j ∧ xs[j.toNat]? = some x ∧ j.toNat < xs.length := by
  unfold bIdx at h
  split at h
  · rename_i h0; exact ⟨h0, h, (List.getElem?_eq_some_iff.1 h).1⟩
  · cases h

theorem cut_some {α : Type} {xs r : List α} {lo hi : Int} (h : cut xs lo hi = some r) : 0 ≤ lo ∧ lo ≤ hi ∧ hi ≤ xs.length ∧ r = (xs.take hi.toNat).drop lo.toNat := by
  unfold cut at h
  split at h
  · split at h
    · split at h
      · rename_i a b c; exact ⟨a, b, c, (Option.some.inj h).symm⟩
      · cases h
    · cases h
  · cases h

theorem s_field {t : TypeId} {x : Operand} {f : Nat} (hK : TysOk P K) (h : Inv K.el w0 M s a w G) (ho : o.op = .field t x f) (hu : opC K o i s.base s.ev s.box s.mv s.fz some = some u) : OpGoal P K.el w0 M o i s a w G (s.app o.dst u) := by
  simp only [opC, ho] at hu
  have hb := h.ev x
  split at hu
  · rename_i d he
    rw [he] at hb
    obtain ⟨cs, hv, hr⟩ := hb
    split at hu
    · rename_i ht
      obtain ⟨τ', hf, _⟩ := getK_fld _ _ _ _ _ _ hu
      obtain ⟨e, n, hoff, hre, hc⟩ := getK_off hu hr
      cases hc
      obtain ⟨k, hk, hrun⟩ := run_field (hK _ _ ht) hf w cs hr.len.1
      rw [hoff] at hk
      simp only [Option.some.injEq, Prod.mk.injEq] at hk
      obtain ⟨rfl, rfl⟩ := hk
      exact opA h (by simp only [execOp, ho, hv, Sem.run_bind, hrun, Result.andThen_ok, Sem.run_pure]) ⟨_, rfl, hre⟩
    · cases hu
  · cases hu

theorem s_index {t : TypeId} {x j : Operand} (hK : TysOk P K) (h : Inv K.el w0 M s a w G) (ho : o.op = .index t x j) (hu : opC K o i s.base s.ev s.box s.mv s.fz some = some u) : OpGoal P K.el w0 M o i s a w G (s.app o.dst u) := by
  simp only [opC, ho] at hu
  have hb := h.ev x
  have hj := h.ev j
  split at hu
  · rename_i xs g n he hn
    rw [he] at hb
    have hv := rep_dat_str hb
    obtain ⟨k, hk⟩ := rep_asInt hn hj
    split at hu
    · rename_i ht
      obtain ⟨e, hx, hu⟩ := bnd_some hu
      cases hu
      obtain ⟨h0, hx, hlt⟩ := bIdx_some hx
      have hs := (hK _ _ ht).str
      have hget : (⟨xs.toArray⟩ : ByteArray)[n.toNat]? = some e := by
        have hlt' : n.toNat < (⟨xs.toArray⟩ : ByteArray).size := by simpa [ByteArray.size] using hlt
        rw [getElem?_pos (⟨xs.toArray⟩ : ByteArray) n.toNat hlt']
        congr 1
        have : xs[n.toNat]? = some xs[n.toNat] := List.getElem?_eq_getElem hlt
        rw [this] at hx
        cases hx
        rfl
      refine opA h (v := .int .u8 e.toNat) ?_ ⟨_, rfl, by simp only [RepT, RepIm]; exact ⟨trivial, rfl⟩⟩
      simp [execOp, ho, hv, hk, Instr.index, asIntOf, run_underlying hs, h0, hget]
    · cases hu
  · cases hu

theorem s_indexAddr {t : TypeId} {x j : Operand} (hK : TysOk P K) (h : Inv K.el w0 M s a w G) (ho : o.op = .indexAddr t x j) (hu : opC K o i s.base s.ev s.box s.mv s.fz some = some u) : OpGoal P K.el w0 M o i s a w G (s.app o.dst u) := by
  simp only [opC, ho] at hu
  have hb := h.ev x
  have hj := h.ev j
  split at hu
  · rename_i te te' xs g n ht he hn
    rw [he] at hb
    obtain ⟨tg, rfl, hr⟩ := rep_dat_sl hb
    obtain ⟨k, hk⟩ := rep_asInt hn hj
    split at hu
    · rename_i htt
      subst htt
      obtain ⟨e, hx, hu⟩ := bnd_some hu
      cases hu
      obtain ⟨h0, hx, hlt⟩ := bIdx_some hx
      obtain ⟨hsl, hte⟩ := (hK _ _ ht).sl
      obtain ⟨ad, cap, hv⟩ := hr.one
      cases ad with
      | none =>
        rw [hv] at hr
        exfalso
        have hnil : xs = [] := by
          cases tg with
          | im =>
            simp only [RepS, RepIm] at hr
            obtain ⟨a', cap', he', hh | ⟨_, _, _, _, _, rfl, _⟩⟩ := hr
            · exact hh.2.1
            · simp at he'
          | ni => exact hr.2
          | ow id =>
            simp only [RepS, OwnAt] at hr
            split at hr
            · exact hr.elim
            · exact hr.2
            · obtain ⟨_, _, _, c, cap', he', _⟩ := hr; simp at he'
          | pa id =>
            simp only [RepS, OwnAt] at hr
            split at hr
            · exact hr.elim
            · exact hr.2
            · obtain ⟨_, _, _, c, cap', he', _⟩ := hr; simp at he'
        subst hnil
        simp at hlt
      | some ad =>
        obtain ⟨b, off, sp⟩ := ad
        rw [hv] at hr
        obtain ⟨rfl, _, c, e', fz, hheap, hl, hel⟩ := hr.cells
        have hsz := run_sizeOf hte.info w
        have hlt' : n < (xs.length : Int) := by omega
        refine opA h (v := .pointer (some ⟨b, off + (n.toNat * te.size + 0), none⟩)) ?_ ?_
        · simp [execOp, ho, hv, hk, Instr.indexAt, asIntOf, run_underlying hsl, h0, hlt', hsz, Addr.add_lit]
        · exact ⟨te, xs, tg, rfl, b, off, xs.length, cap, e, 0, hr, hx, by rw [Ty.off], by rw [Ty.getK], rfl⟩
    · cases hu
  · rename_i m te b p τ n ht he hn
    rw [he] at hb
    obtain ⟨k, τb, n', h1, h2, h3⟩ := hb
    obtain ⟨kk, hk⟩ := rep_asInt hn hj
    split at hu
    · rename_i hτ
      subst hτ
      rcases br_some hu with ⟨h0, hu⟩ | ⟨_, hu⟩
      · rcases br_some hu with ⟨h1', hu⟩ | ⟨_, hu⟩
        · cases hu
          obtain ⟨e, har, hte⟩ := (hK _ _ ht).arr
          have hsz := run_sizeOf hte.info w
          have h0' : 0 ≤ n := by simpa using h0
          have h1'' : n < (m : Int) := by simpa using h1'
          refine opA h (v := .pointer (some ⟨k, n' + n.toNat * te.size, none⟩)) ?_ ?_
          · simp [execOp, ho, h3, hk, Instr.indexAt, asIntOf, run_underlying har, h0', h1'', hsz, Addr.add_lit, Instr.sureAddr]
          · refine ⟨k, τb, n' + n.toNat * te.size, h1, ?_, rfl⟩
            have hq : (Ty.arr m te).off [.idx n.toNat] = some (te, n.toNat * te.size) := by
              rw [Ty.off, if_pos (by omega), Ty.off]; rfl
            exact Ty.off_append h2 hq
        · cases hu
      · cases hu
    · cases hu
  · cases hu

theorem s_len {cl : Call} (hK : TysOk P K) (h : Inv K.el w0 M s a w G) (ho : o.op = .call cl) (hc : cl.callee = .builtin .len) (hu : opC K o i s.base s.ev s.box s.mv s.fz some = some u) : OpGoal P K.el w0 M o i s a w G (s.app o.dst u) := by
  simp only [opC, ho, hc] at hu
  split at hu
  · rename_i x t hx ht
    have hb := h.ev x
    have e1 : cl.args = #[x] := by rw [← Array.toArray_toList (xs := cl.args), hx]
    have e2 : cl.argTypes = #[t] := by rw [← Array.toArray_toList (xs := cl.argTypes), ht]
    split at hu
    · rename_i te xs g te' he hty
      cases hu
      rw [he] at hb
      obtain ⟨tg, rfl, hr⟩ := rep_dat_sl hb
      obtain ⟨ad, cap, hv⟩ := hr.one
      have hs := (hK _ _ hty).sl.1
      exact opA h (v := .int .i64 xs.length) (by simp [execOp, ho, hc, e1, e2, resolve, invoke, builtin, Builtin.len_, hv, run_underlying hs, goInt]) (rep_num (inK_of fun hk => by cases hk))
    · rename_i xs g he hty
      cases hu
      rw [he] at hb
      have hv := rep_dat_str hb
      have hs := (hK _ _ hty).str
      exact opA h (v := .int .i64 xs.length) (by simp [execOp, ho, hc, e1, e2, resolve, invoke, builtin, Builtin.len_, hv, run_underlying hs, goInt, size_mk]) (rep_num (inK_of fun hk => by cases hk))
    · rename_i te he hty
      cases hu
      rw [he] at hb
      have hv : a.eval x = .slice none 0 0 := hb
      have hs := (hK _ _ hty).sl.1
      exact opA h (v := .int .i64 0) (by simp [execOp, ho, hc, e1, e2, resolve, invoke, builtin, Builtin.len_, hv, run_underlying hs, goInt]) (rep_num (inK_of fun hk => by cases hk))
    · cases hu
  · cases hu

theorem s_min {cl : Call} (h : Inv K.el w0 M s a w G) (ho : o.op = .call cl) (hc : cl.callee = .builtin .min) (hu : opC K o i s.base s.ev s.box s.mv s.fz some = some u) : OpGoal P K.el w0 M o i s a w G (s.app o.dst u) := by
  simp only [opC, ho, hc] at hu
  split at hu
  · rename_i x y hx
    have hbx := h.ev x
    have hby := h.ev y
    have e1 : cl.args = #[x, y] := by rw [← Array.toArray_toList (xs := cl.args), hx]
    split at hu
    · rename_i k m g k' m' g' he he'
      split at hu
      · rename_i hk
        subst hk
        cases hu
        rw [he] at hbx
        rw [he'] at hby
        have hv := rep_dat_int hbx
        have hv' := rep_dat_int hby
        refine opA h (v := .int k (if toI k m' < toI k m then toI k m' else toI k m)) (by simp [execOp, ho, hc, e1, resolve, invoke, builtin, Builtin.min_, Builtin.min2, hv, hv']) (rep_num (inK_of fun hk => ?_))
        subst hk
        have := toI_u8 m
        have := toI_u8 m'
        split <;> omega
      · cases hu
    · cases hu
  · cases hu

end
end Go.Proofs.Ytlehbecajmjgkaa.V
