/- Part of a proof by a value interpreter: slice expressions. -/
import Derived.Test.YtlehbecajmjgkaaVl
set_option linter.unusedVariables false
set_option linter.unusedSimpArgs false
namespace Go.Proofs.Ytlehbecajmjgkaa.V

section
variable {P : Program} {K : Cfg} {w0 : World} {M : Hx} {o : Oper} {i : Nat} {s : St} {a : Act} {w : World} {G : Gh} {u : U}

theorem letK {ids rb : List Nat} {mv : Nat → Bool} {v : W} {u : U} (h : (if ids.any mv then none else some ({ v, fzs := ids, rb } : U)) = some u) : ids.any mv = false ∧ u = { v, fzs := ids, rb } := by
  split at h
  · cases h
  · rename_i hm; cases h; exact ⟨by simpa using hm, rfl⟩

theorem RepS.letGo {el : Ty → TypeId} {t : Ty} {xs : List t.den} {tg : Tg} {v : Value} (h : RepS w G el t xs tg v) : RepIm w (G.let (tgIds [tg])).im (.sl t) xs [v] :=
  h.toIm (fun _ hb => .inl hb) (fun i g n hi hq => .inr ⟨i, hi, n, hq⟩)

theorem RepS.fits {el : Ty → TypeId} {t : Ty} {xs : List t.den} {tg : Tg} {ad : Option Addr} {n cap : Nat} (hr : RepS w G el t xs tg (.slice ad n cap)) : n = xs.length ∧ n ≤ cap := by
  have own : ∀ id full, OwnAt w G el t xs id full (.slice ad n cap) → n = xs.length ∧ n ≤ cap := by
    intro id full hr
    unfold OwnAt at hr
    split at hr
    · exact hr.elim
    · obtain ⟨h, rfl⟩ := hr; cases h; simp
    · obtain ⟨hf, _, _, c', cap', he', h1, _⟩ := hr
      simp only [Value.slice.injEq] at he'
      obtain ⟨rfl, rfl, rfl⟩ := he'
      refine ⟨rfl, ?_⟩
      split at hf <;> omega
  cases tg with
  | im =>
    simp only [RepS, RepIm] at hr
    obtain ⟨a', cap', he', hh⟩ := hr
    simp only [List.cons.injEq, and_true, Value.slice.injEq] at he'
    obtain ⟨rfl, rfl, rfl⟩ := he'
    refine ⟨rfl, ?_⟩
    rcases hh with ⟨_, rfl, _⟩ | ⟨_, _, _, _, _, _, _, h, _⟩
    · exact Nat.zero_le _
    · exact h
  | ni => obtain ⟨h, rfl⟩ := hr; cases h; simp
  | ow id => exact own id true hr
  | pa id => exact own id false hr

theorem addr_zero (ad : Option Addr) (n : Nat) : ad.map (·.add (0 * n)) = ad := by
  cases ad with
  | none => rfl
  | some ad => simp [Addr.add]

theorem s_slice {t : TypeId} {x : Operand} {lo hi mx : Option Operand} (hK : TysOk P K) (h : Inv K.el w0 M s a w G) (ho : o.op = .slice t x lo hi mx) (hu : opC K o i s.base s.ev s.box s.mv s.fz some = some u) : OpGoal P K.el w0 M o i s a w G (s.app o.dst u) := by
  simp only [opC, ho] at hu
  cases mx with
  | some m => cases hu
  | none =>
  simp only at hu
  have hx := h.ev x
  have hex : ∀ v w', (Instr.sliceAt t (a.eval x) (lo.map a.eval) (hi.map a.eval) none).run P w = .ok v w' → (execOp a.eval o).run P w = .ok (.value v) w' := by
    intro v w' hr
    simp only [execOp, ho, Sem.run_bind, Option.map_none, hr, Result.andThen_ok, Sem.run_pure]
  unfold opSlice at hu
  split at hu
  · -- a string
    rename_i xs g he
    rw [he] at hx
    have hv := rep_dat_str hx
    split at hu
    · rename_i hty
      have hstr := (hK _ _ hty).str
      split at hu
      · rename_i l hh hl hh'
        obtain ⟨r, hcut, hu⟩ := bnd_some hu
        obtain ⟨_, rfl⟩ := letK hu
        obtain ⟨h0, h1, h2, rfl⟩ := cut_some hcut
        have e1 := optInt h hl
        have e2 := optInt h hh'
        have hb := run_bounds (P := P) (b := false) (n := xs.length) (cap := xs.length) e1 e2 h0 h1 h2 w
        refine opLet h (ids := []) rfl (hex (.string ⟨((xs.take hh.toNat).drop l.toNat).toArray⟩) w ?_) rep_str
        rw [hv]
        simp [Instr.sliceAt, Instr.slice, run_underlying hstr, size_mk, hb, str_extract]
      · cases hu
    · cases hu
  · -- a slice
    rename_i te xs g he
    rw [he] at hx
    obtain ⟨tg, rfl, hr⟩ := rep_dat_sl hx
    obtain ⟨ad, cap, hv⟩ := hr.one
    split at hu
    · rename_i hty
      obtain ⟨hsl, hte⟩ := (hK _ _ hty).sl
      split at hu
      · rename_i hlo
        have hlo' : lo.map a.eval = none := by cases lo <;> simp_all
        split at hu
        · rename_i hhi
          have hhi' : hi.map a.eval = none := by cases hi <;> simp_all
          obtain ⟨_, rfl⟩ := letK hu
          rw [hlo', hhi'] at hex
          obtain ⟨e1, e2⟩ := (hv ▸ hr).fits
          have hrun := run_slicing (P := P) (K := K) (ad := ad) (n := xs.length) (cap := cap) (l := 0) (h := xs.length) hsl hte (.inl ⟨rfl, rfl⟩) (.inl ⟨rfl, rfl⟩) (by omega) (by omega) (by omega) w
          refine opLet h (ids := []) rfl (hex (a.eval x) w ?_) ?_
          · rw [hv, hrun]
            simp only [Int.toNat_zero, Int.toNat_natCast, Nat.sub_zero, addr_zero, ite_self]
          · rw [Gh.let_nil]
            exact h.ev x
        · rename_i hq hhi
          split at hu
          · rename_i hh hh'
            obtain ⟨r, hcut, hu⟩ := bnd_some hu
            obtain ⟨_, rfl⟩ := letK hu
            have e2 : (hi.map a.eval = none ∧ hh = 0) ∨ ∃ k, hi.map a.eval = some (.int k hh) := by
              refine optInt h (l0 := 0) ?_
              cases hi <;> simp_all
            have e2' : (hi.map a.eval = none ∧ hh = xs.length) ∨ ∃ k, hi.map a.eval = some (.int k hh) := by
              rcases e2 with ⟨e2, _⟩ | e2
              · cases hi with
                | none => exact absurd rfl hhi
                | some y => cases e2
              · exact .inr e2
            rw [hv] at hr
            obtain ⟨h0, h1, h2, _⟩ := cut_some hcut
            have fin : ∀ tg', hh ≤ cap → RepS w G K.el te r tg' (.slice (if cap = (0 : Int).toNat then ad else ad.map (·.add ((0 : Int).toNat * te.size))) (hh.toNat - (0 : Int).toNat) (cap - (0 : Int).toNat)) →
                OpGoal P K.el w0 M o i s a w G (s.app o.dst { v := .one (.dat ⟨.sl te, r, [tg']⟩), fzs := [], rb := [] }) := by
              intro tg' hcap hres
              have hrun := run_slicing (P := P) (K := K) (ad := ad) hsl hte (.inl ⟨hlo', rfl⟩) e2' h0 h1 hcap w
              refine opLet h (ids := []) rfl (hex _ w (by rw [hv]; exact hrun)) ?_
              rw [Gh.let_nil]
              exact rep_sl hres
            cases tg with
            | im => obtain ⟨_, hcap, hres⟩ := RepIm.cut hr hcut; exact fin .im hcap hres
            | ni =>
              obtain ⟨hn, rfl⟩ := hr
              have hr' : RepIm w G.im (.sl te) [] [.slice ad ([] : List te.den).length cap] := by
                rw [hn]; simp only [RepIm]; exact ⟨none, 0, rfl, .inl (by simp)⟩
              obtain ⟨_, hcap, hres⟩ := RepIm.cut hr' hcut
              exact fin .im hcap hres
            | ow id => obtain ⟨_, hcap, hres⟩ := OwnAt.cut hr hcut; exact fin (.pa id) hcap hres
            | pa id => obtain ⟨_, hcap, hres⟩ := OwnAt.cut hr hcut; exact fin (.pa id) hcap hres
          · cases hu
      · rename_i lq hlo
        split at hu
        · rename_i l hh hl hh'
          obtain ⟨r, hcut, hu⟩ := bnd_some hu
          obtain ⟨hm, rfl⟩ := letK hu
          have e2 := optInt h hh'
          have e1 : (lo.map a.eval = none ∧ l = 0) ∨ ∃ k, lo.map a.eval = some (.int k l) := by
            refine optInt h (l0 := 0) ?_
            cases lo <;> simp_all
          rw [hv] at hr
          have hr' := hr.letGo
          obtain ⟨_, hcap, hres⟩ := hr'.cut hcut
          obtain ⟨h0, h1, h2, _⟩ := cut_some hcut
          have hrun := run_slicing (P := P) (K := K) (ad := ad) hsl hte e1 e2 h0 h1 hcap w
          exact opLet h hm (hex _ w (by rw [hv]; exact hrun)) (rep_sl (tg := .im) hres)
        · cases hu
    · cases hu
  · rename_i b τ he
    rw [he] at hx
    obtain ⟨k, τb, n, h1, h2, h3⟩ := hx
    split at hu
    · rename_i n' te xs g hlo hhi hb
      have hlo' : lo.map a.eval = none := by cases lo <;> simp_all
      have hhi' : hi.map a.eval = none := by cases hi <;> simp_all
      split at hu
      · rename_i hty
        obtain ⟨_, rfl⟩ := letK hu
        rw [hlo', hhi'] at hex
        obtain ⟨e, har, hte⟩ := (hK _ _ hty).arr
        obtain ⟨x', g', c, e', hb', _⟩ := h.bx b k τb h1
        rw [hb'] at hb
        cases hb
        rw [Ty.off] at h2
        cases h2
        have hb := run_bounds (P := P) (b := false) (n := n') (cap := n') (l := 0) (h := n') (.inl ⟨rfl, rfl⟩) (.inl ⟨rfl, rfl⟩) (by omega) (by omega) (by omega) w
        refine opLet h (ids := []) rfl (hex (.slice (some ⟨k, 0, none⟩) n' n') w ?_) ?_
        · simp [h3, Instr.sliceAt, run_underlying har, Instr.sureAddr, hb, run_sizeOf hte.info w, Addr.add]
        · exact ⟨k, n', te, h1, rfl⟩
      · cases hu
    · cases hu
  · cases hu

end
end Go.Proofs.Ytlehbecajmjgkaa.V
