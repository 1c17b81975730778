/- Part of a proof by a value interpreter: conversions and slice expressions. -/
import Derived.Test.YtlehbecajmjgkaaVk
import Derived.Laws.BytesArg
set_option linter.unusedVariables false
set_option linter.unusedSimpArgs false
namespace Go.Proofs.Ytlehbecajmjgkaa.V

section
variable {P : Program} {K : Cfg} {w0 : World} {M : Hx} {o : Oper} {i : Nat} {s : St} {a : Act} {w : World} {G : Gh} {u : U}

theorem run_bounds {b : Bool} {n cap : Nat} {lo hi : Option Value} {l h : Int} (hlo : (lo = none ∧ l = 0) ∨ ∃ k, lo = some (.int k l)) (hhi : (hi = none ∧ h = n) ∨ ∃ k, hi = some (.int k h))
    (h0 : 0 ≤ l) (h1 : l ≤ h) (h2 : h ≤ cap) (w : World) : (Instr.sliceBounds b n cap lo hi none).run P w = .ok (l.toNat, h.toNat, cap) w := by
  have eh : (h.toNat : Int) = h := Int.toNat_of_nonneg (by omega)
  have g0 : 0 ≤ h := by omega
  rcases hlo with ⟨rfl, rfl⟩ | ⟨k, rfl⟩ <;> rcases hhi with ⟨rfl, rfl⟩ | ⟨k', rfl⟩ <;>
    simp [Instr.sliceBounds, run_sliceBound, h0, h1, h2, eh, g0]

/-- letting go, and one more value -/
theorem opLet (h : Inv K.el w0 M s a w G) {x : W} {v : Value} {ids rb : List Nat} (hm : ids.any s.mv = false) (hr : (execOp a.eval o).run P w = .ok (.value v) w) (hx : RepW w (G.let ids) K.el x v) :
    OpGoal P K.el w0 M o i s a w G (s.app o.dst { v := x, fzs := ids, rb := rb }) := by
  intro next Q hn
  unfold Oper.wp
  rw [hr, Oper.upon_value]
  refine hn _ _ (G.let ids) ?_ (fun id hid => .inl hid)
  rw [app_eq]
  have h1 := h.letGo hm
  exact Inv.put (s := { s with bx := _, mv := _, fz := _ }) (by simpa [setBoxes] using h1) hx

theorem s_convert {ts td : TypeId} {x : Operand} (hK : TysOk P K) (h : Inv K.el w0 M s a w G) (ho : o.op = .convert ts td x) (hu : opC K o i s.base s.ev s.box s.mv s.fz some = some u) : OpGoal P K.el w0 M o i s a w G (s.app o.dst u) := by
  simp only [opC, ho] at hu
  have hx := h.ev x
  split at hu
  · rename_i src dst hs hd
    unfold opConv at hu
    split at hu
    · rename_i k k' n g he
      cases hu
      rw [he] at hx
      have hv := rep_dat_int hx
      have h1 := (hK _ _ hd).int
      have h2 : ∃ d, P.underlying ts = some d := by
        have := (hK _ _ hs)
        cases src <;> rw [TyOk] at this
        case int => exact ⟨_, this.1⟩
        case bool => exact ⟨_, this.1⟩
        case str => exact ⟨_, this.1⟩
        case sl => exact ⟨_, this.1⟩
        case un => obtain ⟨_, h, _⟩ := this; exact ⟨_, h⟩
        case pr => obtain ⟨_, _, _, h, _⟩ := this; exact ⟨_, h⟩
        case arr => obtain ⟨_, h, _⟩ := this; exact ⟨_, h⟩
      obtain ⟨d, h2⟩ := h2
      exact opA h (v := .int k (k.wrap (toI k' n))) (by simp [execOp, ho, hv, convert, run_underlying h1, run_underlying h2, Conv.intToInt]) (rep_num (inK_wrap _ _))
    · rename_i xs g he
      split at hu
      · rename_i hsrc
        cases hu
        subst hsrc
        rw [he] at hx
        obtain ⟨tg, rfl, hr⟩ := rep_dat_sl hx
        obtain ⟨ad, cap, hv⟩ := hr.one
        obtain ⟨hsl, hte⟩ := (hK _ _ hs).sl
        have hd' := (hK _ _ hd).str
        cases ad with
        | none =>
          rw [hv] at hr
          obtain ⟨rfl, _, _⟩ := hr.none_nil
          refine opA h (v := .string ByteArray.empty) ?_ rep_str
          simp only [execOp, ho, hv, Sem.run_bind, run_convert_bytes_nil w ts _ hsl hte.int _ _ td hd', Result.andThen_ok, Sem.run_pure]
        | some ad =>
          obtain ⟨b, off, sp⟩ := ad
          rw [hv] at hr
          obtain ⟨rfl, _, c, e', fz, hheap, hl, hel⟩ := hr.cells
          refine opA h (v := .string ⟨xs.toArray⟩) ?_ rep_str
          have hrun := run_convert_bytes_arg w ts _ hsl hte.int b off xs.length cap (xs.map fun x => (UInt8.toNat x : Int)) (by simp) (fun j hj => by
            have hxj : xs[j]? = some xs[j] := List.getElem?_eq_getElem hj
            have h1 := hel j _ hxj
            simp only [RepIm, seg, Ty.size] at h1
            have h2 : (List.take 1 (List.drop (j * 1) (List.drop off c.toList)))[0]? = some (Value.int .u8 (toI .u8 xs[j])) := by rw [h1]; rfl
            rw [List.getElem?_take, if_pos (by omega), List.getElem?_drop, List.getElem?_drop] at h2
            rw [cell_of_row w b (off + j) c e' fz hheap]
            rw [show off + (j * 1 + 0) = off + j by omega] at h2
            rw [← Array.getElem?_toList, h2]
            simp [List.getD, hxj]
            rfl) td hd'
          simp only [execOp, ho, hv, Sem.run_bind, hrun, Result.andThen_ok, Sem.run_pure]
          congr 3
          unfold strOfNums
          simp [List.map_map, Function.comp_def]
      · cases hu
    · rename_i xs g he
      cases hu
      rw [he] at hx
      have hv := rep_dat_str hx
      have hd' := (hK _ _ hd).str
      have h2 : ∃ d, P.underlying ts = some d := by
        have := (hK _ _ hs)
        cases src <;> rw [TyOk] at this
        case int => exact ⟨_, this.1⟩
        case bool => exact ⟨_, this.1⟩
        case str => exact ⟨_, this.1⟩
        case sl => exact ⟨_, this.1⟩
        case un => obtain ⟨_, h, _⟩ := this; exact ⟨_, h⟩
        case pr => obtain ⟨_, _, _, h, _⟩ := this; exact ⟨_, h⟩
        case arr => obtain ⟨_, h, _⟩ := this; exact ⟨_, h⟩
      obtain ⟨d, h2⟩ := h2
      exact opA h (v := .string ⟨xs.toArray⟩) (by simp [execOp, ho, hv, convert, run_underlying hd', run_underlying h2]) rep_str
    · rename_i he
      split at hu
      · rename_i hsrc
        cases hu
        subst hsrc
        rw [he] at hx
        have hv : a.eval x = .slice none 0 0 := hx
        obtain ⟨hsl, hte⟩ := (hK _ _ hs).sl
        have hd' := (hK _ _ hd).str
        refine opA h (v := .string ByteArray.empty) ?_ rep_str
        simp only [execOp, ho, hv, Sem.run_bind, run_convert_bytes_nil w ts _ hsl hte.int _ _ td hd', Result.andThen_ok, Sem.run_pure]
      · cases hu
    · cases hu
  · cases hu

theorem Addr.add_zero_lit (b off : Nat) (n : Nat) : ((⟨b, off, none⟩ : Addr).add (0 * n)) = ⟨b, off, none⟩ := by
  rw [Nat.zero_mul]; simp [Addr.add]

theorem run_slicing {t e : TypeId} {τ : Ty} {ad : Option Addr} {n cap : Nat} {lo hi : Option Value} {l h : Int} (ht : P.underlying t = some (.slice e)) (hi' : TyOk P K.el τ e) (hlo : (lo = none ∧ l = 0) ∨ ∃ k, lo = some (.int k l))
    (hhi : (hi = none ∧ h = n) ∨ ∃ k, hi = some (.int k h)) (h0 : 0 ≤ l) (h1 : l ≤ h) (h2 : h ≤ cap) (w : World) :
    (Instr.sliceAt t (.slice ad n cap) lo hi none).run P w = .ok (.slice (if cap = l.toNat then ad else ad.map (·.add (l.toNat * τ.size))) (h.toNat - l.toNat) (cap - l.toNat)) w := by
  have hb := run_bounds (P := P) (b := true) hlo hhi h0 h1 h2 w
  simp [Instr.sliceAt, Instr.slice, run_underlying ht, hb, run_sizeOf hi'.info w]

/-- a part of what nobody writes -/
theorem RepIm.cut {im : Nat → Prop} {t : Ty} {xs r : List t.den} {ad : Option Addr} {n cap : Nat} {l h : Int} (hr : RepIm w im (.sl t) xs [.slice ad n cap]) (hc : cut xs l h = some r) :
    n = xs.length ∧ h ≤ cap ∧ RepIm w im (.sl t) r [.slice (if cap = l.toNat then ad else ad.map (·.add (l.toNat * t.size))) (h.toNat - l.toNat) (cap - l.toNat)] := by
  obtain ⟨h0, h1, h2, rfl⟩ := cut_some hc
  have hlen : ((xs.take h.toNat).drop l.toNat).length = h.toNat - l.toNat := by
    rw [List.length_drop, List.length_take]; omega
  simp only [RepIm] at hr ⊢
  obtain ⟨a, c', he, hh⟩ := hr
  simp only [List.cons.injEq, and_true, Value.slice.injEq] at he
  obtain ⟨rfl, rfl, rfl⟩ := he
  rcases hh with ⟨rfl, rfl, rfl⟩ | ⟨b, off, c, e, fz, rfl, hb, hcap, hheap, hfit, hel⟩
  · refine ⟨rfl, by simpa using h2, _, _, by rw [hlen], .inl ?_⟩
    simp
  · refine ⟨rfl, by omega, _, _, by rw [hlen], .inr ⟨b, if cap = l.toNat then off else off + l.toNat * t.size, c, e, fz, ?_, hb, by rw [hlen]; omega, hheap, ?_, fun i x hx => ?_⟩⟩
    · split <;> simp [Addr.add_lit]
    · rw [hlen]
      split
      · have : h.toNat - l.toNat = 0 := by omega
        rw [this]; omega
      · have h3 : l.toNat * t.size + (h.toNat - l.toNat) * t.size ≤ xs.length * t.size := by
          rw [← Nat.add_mul]; exact Nat.mul_le_mul_right _ (by omega)
        omega
    · have hi : i < h.toNat - l.toNat := by
        have := (List.getElem?_eq_some_iff.1 hx).1
        omega
      rw [if_neg (by omega)]
      rw [List.getElem?_drop, List.getElem?_take, if_pos (by omega)] at hx
      have := hel _ _ hx
      unfold seg at this ⊢
      rw [List.drop_drop] at this ⊢
      rw [show off + l.toNat * t.size + i * t.size = off + (l.toNat + i) * t.size by rw [Nat.add_mul]; omega]
      exact this

/-- a first part of an array of the frame's own -/
theorem OwnAt.cut {el : Ty → TypeId} {t : Ty} {xs r : List t.den} {id n cap : Nat} {ad : Option Addr} {full : Bool} {h : Int} (hr : OwnAt w G el t xs id full (.slice ad n cap)) (hc : cut xs 0 h = some r) :
    n = xs.length ∧ h ≤ cap ∧ OwnAt w G el t r id false (.slice (if cap = (0 : Int).toNat then ad else ad.map (·.add ((0 : Int).toNat * t.size))) (h.toNat - (0 : Int).toNat) (cap - (0 : Int).toNat)) := by
  obtain ⟨h0, h1, h2, rfl⟩ := cut_some hc
  simp only [Int.toNat_zero, List.drop_zero, Nat.sub_zero, Nat.zero_mul] at hc ⊢
  unfold OwnAt at hr ⊢
  split at hr
  · exact hr.elim
  · rename_i hq
    obtain ⟨he, rfl⟩ := hr
    cases he
    simp only [List.length_nil] at h2
    refine ⟨rfl, by simpa using h2, ?_⟩
    have : h.toNat = 0 := by omega
    simp [this]
  · rename_i g ext hq
    obtain ⟨hf, hs, hp, c, cap', he, h3, h4, h5, h6, h7⟩ := hr
    simp only [Value.slice.injEq] at he
    obtain ⟨rfl, rfl, rfl⟩ := he
    have hle : xs.length ≤ ext := by split at hf <;> omega
    have hlen : (xs.take h.toNat).length = h.toNat := by rw [List.length_take]; omega
    refine ⟨rfl, by omega, by simp only [Bool.false_eq_true, if_false]; omega, hs, hp, c, cap, ?_, h3, h4, h5, h6, fun i x hx => ?_⟩
    · rw [hlen]
      split <;> simp [Addr.add]
    · rw [List.getElem?_take] at hx
      split at hx
      · exact h7 i x hx
      · cases hx

theorem str_extract (xs : List UInt8) (l h : Nat) : (⟨xs.toArray⟩ : ByteArray).extract l h = ⟨((xs.take h).drop l).toArray⟩ := by
  apply ByteArray.ext
  rw [ByteArray.data_extract]
  simp [List.extract_eq_take_drop, List.drop_take]

theorem optInt {s : St} {a : Act} (h : Inv K.el w0 M s a w G) {lo : Option Operand} {l0 l : Int} (hl : (match lo.map s.ev with | none => some l0 | l => asInt l) = some l) :
    (lo.map a.eval = none ∧ l = l0) ∨ ∃ k, lo.map a.eval = some (.int k l) := by
  cases lo with
  | none => simp at hl; exact .inl ⟨rfl, hl.symm⟩
  | some x =>
    simp only [Option.map_some] at hl ⊢
    obtain ⟨k, hk⟩ := rep_asInt hl (h.ev x)
    exact .inr ⟨k, by rw [hk]⟩

end
end Go.Proofs.Ytlehbecajmjgkaa.V
