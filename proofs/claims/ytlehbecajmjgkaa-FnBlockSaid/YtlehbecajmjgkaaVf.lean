/- Part of a proof by a value interpreter: the operations that only compute. -/
import Derived.Test.YtlehbecajmjgkaaVe
set_option linter.unusedVariables false
set_option linter.unusedSimpArgs false
namespace Go.Proofs.Ytlehbecajmjgkaa.V

/-- what an operation must be shown to do -/
def OpGoal (P : Program) (el : Ty → TypeId) (w0 : World) (M : Hx) (o : Oper) (i : Nat) (s : St) (a : Act) (w : World) (G : Gh) (s' : St) : Prop :=
  ∀ (next : Act → World → Prop) (Q : Exit → Act → World → Prop),
    (∀ a' w' G', Inv el w0 M s' a' w' G' → (∀ id, G'.la id ≠ none → G.la id ≠ none ∨ (s.base + 64 * i ≤ id ∧ id < s.base + 64 * (i + 1))) → next a' w') → o.wp P a w next Q

section
variable {P : Program} {el : Ty → TypeId} {w0 : World} {M : Hx} {o : Oper} {i : Nat} {s : St} {a : Act} {w : World} {G : Gh}

/-- an operation that leaves memory alone -/
theorem opA (h : Inv el w0 M s a w G) {x : W} {v : Value} (hr : (execOp a.eval o).run P w = .ok (.value v) w) (hx : RepW w G el x v) : OpGoal P el w0 M o i s a w G (s.app o.dst { v := x }) := by
  intro next Q hn
  unfold Oper.wp
  rw [hr, Oper.upon_value]
  rw [app_only] at hn
  exact hn _ _ G (h.put hx) (fun id hid => .inl hid)

theorem app_rb (s : St) (dst : Option Tmp) (v : W) (rb : List Nat) : s.app dst { v := v, rb := rb } = s.put dst v := by
  cases dst <;> simp [St.app, St.put, setBoxes]

theorem opA' (h : Inv el w0 M s a w G) {x : W} {v : Value} {rb : List Nat} (hr : (execOp a.eval o).run P w = .ok (.value v) w) (hx : RepW w G el x v) : OpGoal P el w0 M o i s a w G (s.app o.dst { v := x, rb := rb }) := by
  rw [app_rb, ← app_only]
  exact opA h hr hx

theorem rep_bool {b : Bool} : RepW w G el (bool b) (.bool b) := ⟨_, rfl, by simp only [RepT, RepIm]; exact ⟨trivial, rfl⟩⟩
theorem rep_dat_bool {b : Bool} {g : List Tg} {v : Value} (h : RepV w G el (.dat ⟨.bool, b, g⟩) v) : v = .bool b := by
  obtain ⟨cs, he, hr⟩ := h
  simp only [RepT, RepIm] at hr
  obtain ⟨_, rfl⟩ := hr
  exact he
theorem rep_dat_int {k : IntKind} {n : IK k} {g : List Tg} {v : Value} (h : RepV w G el (.dat ⟨.int k, n, g⟩) v) : v = .int k (toI k n) := by
  obtain ⟨cs, he, hr⟩ := h
  simp only [RepT, RepIm] at hr
  obtain ⟨_, rfl⟩ := hr
  exact he
theorem rep_dat_str {l : List UInt8} {g : List Tg} {v : Value} (h : RepV w G el (.dat ⟨.str, l, g⟩) v) : v = .string ⟨l.toArray⟩ := by
  obtain ⟨cs, he, hr⟩ := h
  simp only [RepT, RepIm] at hr
  obtain ⟨_, rfl⟩ := hr
  exact he
theorem rep_dat_sl {t : Ty} {xs : List t.den} {g : List Tg} {v : Value} (h : RepV w G el (.dat ⟨.sl t, xs, g⟩) v) : ∃ tg, g = [tg] ∧ RepS w G el t xs tg v := by
  obtain ⟨cs, he, hr⟩ := h
  simp only [RepT] at hr
  obtain ⟨tg, v', rfl, rfl, hr⟩ := hr
  exact ⟨tg, rfl, by simpa [ofCells, Ty.isAgg] using he ▸ hr⟩
theorem rep_sl {t : Ty} {xs : List t.den} {tg : Tg} {v : Value} (h : RepS w G el t xs tg v) : RepV w G el (.dat ⟨.sl t, xs, [tg]⟩) v :=
  ⟨[v], by simp [ofCells, Ty.isAgg], by simp only [RepT]; exact ⟨tg, v, rfl, rfl, h⟩⟩
theorem rep_str {l : List UInt8} : RepW w G el (.one (.dat ⟨.str, l, []⟩)) (.string ⟨l.toArray⟩) := ⟨_, rfl, by simp only [RepT, RepIm]; exact ⟨trivial, rfl⟩⟩

/-- numbers that are of their kind -/
def InK (k : IntKind) (n : Int) : Prop := toI k (ofI k n) = n

theorem inK_u8 {n : Int} (h0 : 0 ≤ n) (h1 : n < 256) : InK .u8 n := by
  show ((UInt8.ofNat n.toNat).toNat : Int) = n
  rw [UInt8.toNat_ofNat']
  omega
theorem inK_of {k : IntKind} {n : Int} (h : k = .u8 → 0 ≤ n ∧ n < 256) : InK k n := by
  cases k <;> first | rfl | exact inK_u8 (h rfl).1 (h rfl).2
theorem inK_wrap (k : IntKind) (n : Int) : InK k (k.wrap n) := by
  refine inK_of fun hk => ?_
  subst hk
  simp only [IntKind.wrap, IntKind.bits, IntKind.signed]
  simp
  omega
theorem toI_u8 (x : IK .u8) : 0 ≤ toI .u8 x ∧ toI .u8 x < 256 := by
  have := UInt8.toNat_lt x
  show 0 ≤ ((UInt8.toNat x : Nat) : Int) ∧ ((UInt8.toNat x : Nat) : Int) < 256
  omega

theorem rep_num {k : IntKind} {n : Int} (h : InK k n) : RepW w G el (num k n) (.int k n) := by
  refine ⟨[.int k (toI k (ofI k n))], ?_, ?_⟩
  · rw [h]; rfl
  · simp only [RepT, RepIm]; exact ⟨trivial, trivial⟩

theorem asInt_some {x : W} {n : Int} (h : asInt (some x) = some n) : ∃ k m g, x = .one (.dat ⟨.int k, m, g⟩) ∧ n = toI k m := by
  unfold asInt at h
  split at h
  · rename_i k m g he
    cases he
    exact ⟨k, m, g, rfl, (Option.some.inj h).symm⟩
  · cases h

theorem rep_asInt {x : W} {n : Int} {v : Value} (h : asInt (some x) = some n) (hr : RepW w G el x v) : ∃ k, v = .int k n := by
  obtain ⟨k, m, g, rfl, rfl⟩ := asInt_some h
  exact ⟨k, rep_dat_int hr⟩

theorem asInt_run {x : W} {n : Int} {v : Value} (h : asInt (some x) = some n) (hr : RepW w G el x v) (w' : World) : ∃ k, v = .int k n ∧ (asIntOf v).run P w' = .ok (k, n) w' ∧ (Go.asInt v).run P w' = .ok n w' := by
  obtain ⟨k, rfl⟩ := rep_asInt h hr
  exact ⟨k, rfl, rfl, by simp [Go.asInt, asIntOf]⟩

/-! integers -/
theorem binI_run {op : BinOp} {k : IntKind} {x y : Int} {x' : W} (hx : k = .u8 → 0 ≤ x ∧ x < 256) (hop : op ≠ .shl ∧ op ≠ .shr) (h : binI op k x y some = some x') (t : TypeId) (w : World) (G : Gh) :
    ∃ v, (Go.binOp op t (.int k x) (.int k y)).run P w = .ok v w ∧ RepW w G el x' v := by
  cases op <;> simp only [binI, iAnd, iOr, iXor, iAndNot] at h
  case add => cases h; exact ⟨_, by rw [binOp_add]; rfl, rep_num (inK_wrap _ _)⟩
  case sub => cases h; exact ⟨_, by rw [binOp_sub]; rfl, rep_num (inK_wrap _ _)⟩
  case mul => cases h; exact ⟨_, by rw [binOp_mul]; rfl, rep_num (inK_wrap _ _)⟩
  case quo =>
    rcases br_some h with ⟨_, h⟩ | ⟨hb, h⟩
    · cases h
    · cases h
      have : y ≠ 0 := by simpa using hb
      exact ⟨_, by rw [binOp_quo]; simp only [Op.intDiv, this, if_false]; rfl, rep_num (inK_wrap _ _)⟩
  case rem =>
    rcases br_some h with ⟨_, h⟩ | ⟨hb, h⟩
    · cases h
    · cases h
      have hy : y ≠ 0 := by simpa using hb
      refine ⟨_, by rw [binOp_rem]; simp only [Op.intDiv, hy, if_false]; rfl, rep_num (inK_of fun hk => ?_)⟩
      have h0 := hx hk
      have h1 := Int.tmod_nonneg y h0.1
      have h2 : x.tmod y ≤ x := by
        have e := Int.natAbs_tmod x y
        have := Nat.mod_le x.natAbs y.natAbs
        omega
      omega
  case and => cases h; exact ⟨_, by rw [binOp_and]; rfl, rep_num (inK_wrap _ _)⟩
  case or => cases h; exact ⟨_, by rw [binOp_or]; rfl, rep_num (inK_wrap _ _)⟩
  case xor => cases h; exact ⟨_, by rw [binOp_xor]; rfl, rep_num (inK_wrap _ _)⟩
  case andNot => cases h; exact ⟨_, by rw [binOp_andNot]; rfl, rep_num (inK_wrap _ _)⟩
  case eql => cases h; exact ⟨_, by rw [binOp_eql]; rfl, rep_bool⟩
  case neq => cases h; exact ⟨_, by rw [binOp_neq]; rfl, rep_bool⟩
  case lss => cases h; exact ⟨_, by rw [binOp_lss]; rfl, rep_bool⟩
  case leq => cases h; exact ⟨_, by rw [binOp_leq]; rfl, rep_bool⟩
  case gtr => cases h; exact ⟨_, by rw [binOp_gtr]; rfl, rep_bool⟩
  case geq => cases h; exact ⟨_, by rw [binOp_geq]; rfl, rep_bool⟩
  case shl => exact absurd rfl hop.1
  case shr => exact absurd rfl hop.2

theorem shift_run {op : BinOp} {k k' : IntKind} {x y : Int} {x' : W} (hx : k = .u8 → 0 ≤ x ∧ x < 256) (hop : op = .shl ∨ op = .shr) (h : binI op k x y some = some x') (t : TypeId) (w : World) (G : Gh) :
    ∃ v, (Go.binOp op t (.int k x) (.int k' y)).run P w = .ok v w ∧ RepW w G el x' v := by
  rcases hop with rfl | rfl <;> simp only [binI, iShl, iShr] at h
  · rcases br_some h with ⟨_, h⟩ | ⟨hb, h⟩
    · cases h
    · cases h
      have hy : ¬ y < 0 := by simpa using hb
      exact ⟨_, by rw [binOp_shl]; simp only [Op.shift, hy, if_false]; rfl, rep_num (inK_wrap _ _)⟩
  · rcases br_some h with ⟨_, h⟩ | ⟨hb, h⟩
    · cases h
    · cases h
      have hy : ¬ y < 0 := by simpa using hb
      refine ⟨_, by rw [binOp_shr]; simp only [Op.shift, hy, if_false]; rfl, rep_num (inK_of fun hk => ?_)⟩
      have h0 := hx hk
      have hp : (0 : Int) < 2 ^ (min y.toNat k.bits) := Int.pow_pos (by omega)
      rw [Int.fdiv_eq_ediv_of_nonneg _ (by omega)]
      have h1 := Int.ediv_nonneg h0.1 (Int.le_of_lt hp)
      have h2 : x / 2 ^ (min y.toNat k.bits) ≤ x := Int.ediv_le_self _ h0.1
      omega

end
end Go.Proofs.Ytlehbecajmjgkaa.V
