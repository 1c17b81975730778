/- Part of a proof by a value interpreter: operations that only compute, one by one. -/
import Derived.Test.YtlehbecajmjgkaaVf
import Derived.Laws.BytesString
import Derived.Laws.Slices
set_option linter.unusedVariables false
set_option linter.unusedSimpArgs false
namespace Go.Proofs.Ytlehbecajmjgkaa.V

section
variable {P : Program} {K : Cfg} {w0 : World} {M : Hx} {o : Oper} {i : Nat} {s : St} {a : Act} {w : World} {G : Gh} {u : U}

/-- the types of the interpreter are the program's -/
def TysOk (P : Program) (K : Cfg) : Prop := ∀ t τ, K.ty t = some τ → TyOk P K.el τ t

theorem TyOk.sl {el : Ty → TypeId} {t : TypeId} {τ : Ty} (h : TyOk P el (.sl τ) t) : P.underlying t = some (.slice (el τ)) ∧ TyOk P el τ (el τ) := by
  rw [TyOk] at h; exact ⟨h.1, h.2.2⟩
theorem TyOk.int {el : Ty → TypeId} {t : TypeId} {k : IntKind} (h : TyOk P el (.int k) t) : P.underlying t = some (.int k) := by
  rw [TyOk] at h; exact h.1
theorem TyOk.str {el : Ty → TypeId} {t : TypeId} (h : TyOk P el .str t) : P.underlying t = some .string := by
  rw [TyOk] at h; exact h.1
theorem TyOk.bool {el : Ty → TypeId} {t : TypeId} (h : TyOk P el .bool t) : P.underlying t = some .bool := by
  rw [TyOk] at h; exact h.1
theorem TyOk.arr {el : Ty → TypeId} {t : TypeId} {n : Nat} {τ : Ty} (h : TyOk P el (.arr n τ) t) : ∃ e, P.underlying t = some (.array n e) ∧ TyOk P el τ e := by
  rw [TyOk] at h; obtain ⟨e, h1, _, _, h2⟩ := h; exact ⟨e, h1, h2⟩

theorem s_move {x : Operand} (h : Inv K.el w0 M s a w G) (ho : o.op = .move x) (hu : opC K o i s.base s.ev s.box s.mv s.fz some = some u) : OpGoal P K.el w0 M o i s a w G (s.app o.dst u) := by
  simp only [opC, ho] at hu
  cases hu
  exact opA h (by simp [execOp, ho]) (h.ev x)
theorem s_assign {x : Operand} (h : Inv K.el w0 M s a w G) (ho : o.op = .assign x) (hu : opC K o i s.base s.ev s.box s.mv s.fz some = some u) : OpGoal P K.el w0 M o i s a w G (s.app o.dst u) := by
  simp only [opC, ho] at hu
  cases hu
  exact opA h (by simp [execOp, ho]) (h.ev x)

theorem s_pick {b x y : Operand} (h : Inv K.el w0 M s a w G) (ho : o.op = .pick b x y) (hu : opC K o i s.base s.ev s.box s.mv s.fz some = some u) : OpGoal P K.el w0 M o i s a w G (s.app o.dst u) := by
  simp only [opC, ho] at hu
  have hb := h.ev b
  split at hu
  · rename_i t g he
    rw [he] at hb
    have hv := rep_dat_bool hb
    rcases br_some hu with ⟨rfl, hu⟩ | ⟨rfl, hu⟩
    · cases hu; exact opA h (by simp [execOp, ho, hv, asBool]) (h.ev x)
    · cases hu; exact opA h (by simp [execOp, ho, hv, asBool]) (h.ev y)
  · cases hu

theorem s_nilCheck {x : Operand} (h : Inv K.el w0 M s a w G) (ho : o.op = .nilCheck x) (hu : opC K o i s.base s.ev s.box s.mv s.fz some = some u) : OpGoal P K.el w0 M o i s a w G (s.app o.dst u) := by
  simp only [opC, ho] at hu
  have hb := h.ev x
  split at hu
  · rename_i b p τ he
    cases hu
    rw [he] at hb
    obtain ⟨k, τb, n, h1, h2, h3⟩ := hb
    exact opA h (v := a.eval x) (by simp [execOp, ho, h3]) ⟨k, τb, n, h1, h2, h3⟩
  · rename_i d j p e he
    cases hu
    rw [he] at hb
    obtain ⟨t, xs, tg, hd, b, off, len, cap, y, n, h1, h2, h3, h4, h5⟩ := hb
    exact opA h (v := a.eval x) (by simp [execOp, ho, h5]) ⟨t, xs, tg, hd, b, off, len, cap, y, n, h1, h2, h3, h4, h5⟩
  · rename_i f he
    cases hu
    rw [he] at hb
    have hf : a.eval x = .func (.func f) #[] #[] := hb
    exact opA h (v := a.eval x) (by simp [execOp, ho, hf]) hf
  · cases hu

theorem s_extract {x : Operand} {j : Nat} (h : Inv K.el w0 M s a w G) (ho : o.op = .extract x j) (hu : opC K o i s.base s.ev s.box s.mv s.fz some = some u) : OpGoal P K.el w0 M o i s a w G (s.app o.dst u) := by
  simp only [opC, ho] at hu
  have hb := h.ev x
  split at hu
  · rename_i l he
    rw [he] at hb
    obtain ⟨vs, hv, hl, hr⟩ := hb
    split at hu
    · rename_i v hj
      cases hu
      have hjl : j < vs.size := by rw [hl]; exact (List.getElem?_eq_some_iff.1 hj).1
      have hvs : vs[j]? = some vs[j] := Array.getElem?_eq_getElem hjl
      exact opA h (v := vs[j]) (by simp [execOp, ho, hv, Instr.extract, hvs]) (hr j v _ hj hvs)
    · cases hu
  · cases hu

theorem s_unOp {op : UnOp} {t : TypeId} {x : Operand} (h : Inv K.el w0 M s a w G) (ho : o.op = .unOp op t x) (hu : opC K o i s.base s.ev s.box s.mv s.fz some = some u) : OpGoal P K.el w0 M o i s a w G (s.app o.dst u) := by
  simp only [opC, ho, opUn] at hu
  have hb := h.ev x
  split at hu
  · rename_i b g he
    cases hu
    rw [he] at hb
    have hv := rep_dat_bool hb
    exact opA h (v := .bool (!b)) (by simp [execOp, ho, hv, Op.unary]) rep_bool
  · rename_i k n g he
    cases hu
    rw [he] at hb
    have hv := rep_dat_int hb
    exact opA h (v := .int k (k.wrap (0 - toI k n))) (by simp [execOp, ho, hv, Op.unary, Op.intArith]) (rep_num (inK_wrap _ _))
  · cases hu

theorem getK_append {Ω : Type} : (τ : Ty) → (x : τ.den) → (g : List Tg) → (p q : List Step) → (c : D → Option Ω) → τ.getK x g (p ++ q) c = τ.getK x g p fun d => d.ty.getK d.x d.g q c
  | τ, x, g, [], q, c => by simp only [List.nil_append]; conv => rhs; rw [Ty.getK]
  | .pr a b, x, g, .fld 0 :: p, q, c => by
    simp only [List.cons_append]
    conv => lhs; rw [Ty.getK]
    conv => rhs; rw [Ty.getK]
    exact getK_append a x.1 _ p q c
  | .pr a b, x, g, .fld (i + 1) :: p, q, c => by
    simp only [List.cons_append]
    conv => lhs; rw [Ty.getK]
    conv => rhs; rw [Ty.getK]
    exact getK_append b x.2 _ (.fld i :: p) q c
  | .arr n t, xs, g, .idx i :: p, q, c => by
    simp only [List.cons_append]
    conv => lhs; rw [Ty.getK]
    conv => rhs; rw [Ty.getK]
    split
    · congr 1
      funext x
      exact getK_append t x [] p q c
    · rfl
  | .int _, _, _, _ :: _, _, _ => by simp [Ty.getK]
  | .bool, _, _, _ :: _, _, _ => by simp [Ty.getK]
  | .str, _, _, _ :: _, _, _ => by simp [Ty.getK]
  | .sl _, _, _, _ :: _, _, _ => by simp [Ty.getK]
  | .un, _, _, _ :: _, _, _ => by simp [Ty.getK]
  | .pr _ _, _, _, .idx _ :: _, _, _ => by simp [Ty.getK]
  | .arr _ _, _, _, .fld _ :: _, _, _ => by simp [Ty.getK]

/-- what follows a part may be put behind -/
theorem getK_nat {Ω : Type} : (τ : Ty) → (x : τ.den) → (g : List Tg) → (p : List Step) → (c : D → Option Ω) → τ.getK x g p c = (τ.getK x g p (some : D → Option D)).bind c
  | τ, x, g, [], c => by conv => lhs; rw [Ty.getK]
                         conv => rhs; rw [Ty.getK]
                         rfl
  | .pr a b, x, g, .fld 0 :: p, c => by
    conv => lhs; rw [Ty.getK]
    conv => rhs; rw [Ty.getK]
    exact getK_nat a x.1 _ p c
  | .pr a b, x, g, .fld (i + 1) :: p, c => by
    conv => lhs; rw [Ty.getK]
    conv => rhs; rw [Ty.getK]
    exact getK_nat b x.2 _ (.fld i :: p) c
  | .arr n t, xs, g, .idx i :: p, c => by
    conv => lhs; rw [Ty.getK]
    conv => rhs; rw [Ty.getK]
    split
    · unfold bnd
      rw [Option.bind_assoc]
      congr 1
      funext x
      exact getK_nat t x [] p c
    · rfl
  | .int _, _, _, _ :: _, _ => by simp [Ty.getK]
  | .bool, _, _, _ :: _, _ => by simp [Ty.getK]
  | .str, _, _, _ :: _, _ => by simp [Ty.getK]
  | .sl _, _, _, _ :: _, _ => by simp [Ty.getK]
  | .un, _, _, _ :: _, _ => by simp [Ty.getK]
  | .pr _ _, _, _, .idx _ :: _, _ => by simp [Ty.getK]
  | .arr _ _, _, _, .fld _ :: _, _ => by simp [Ty.getK]

theorem getK_fld {Ω : Type} : (τ : Ty) → (x : τ.den) → (g : List Tg) → (f : Nat) → (c : D → Option Ω) → (ω : Ω) → τ.getK x g [.fld f] c = some ω → ∃ τ', τ.fld f = some τ' ∧ ∃ y h, c ⟨τ', y, h⟩ = some ω
  | .pr a b, x, g, 0, c, ω, h => by
    rw [Ty.getK, Ty.getK] at h
    exact ⟨a, rfl, _, _, h⟩
  | .pr a b, x, g, f + 1, c, ω, h => by
    rw [Ty.getK] at h
    obtain ⟨τ', h1, h2⟩ := getK_fld b x.2 _ f c ω h
    exact ⟨τ', h1, h2⟩
  | .int _, _, _, _, _, _, h => by simp [Ty.getK] at h
  | .bool, _, _, _, _, _, h => by simp [Ty.getK] at h
  | .str, _, _, _, _, _, h => by simp [Ty.getK] at h
  | .sl _, _, _, _, _, _, h => by simp [Ty.getK] at h
  | .un, _, _, _, _, _, h => by simp [Ty.getK] at h
  | .arr _ _, _, _, _, _, _, h => by simp [Ty.getK] at h

theorem s_fieldAddr {t : TypeId} {x : Operand} {f : Nat} (hK : TysOk P K) (h : Inv K.el w0 M s a w G) (ho : o.op = .fieldAddr t x f) (hu : opC K o i s.base s.ev s.box s.mv s.fz some = some u) : OpGoal P K.el w0 M o i s a w G (s.app o.dst u) := by
  simp only [opC, ho] at hu
  have hb := h.ev x
  split at hu
  · rename_i b p τ he
    rw [he] at hb
    obtain ⟨k, τb, n, h1, h2, h3⟩ := hb
    split at hu
    · rename_i ht
      split at hu
      · rename_i τ' hf
        cases hu
        obtain ⟨m, hm, hrun⟩ := run_fieldAt (hK _ _ ht) hf w k n
        exact opA h (v := .pointer (some ⟨k, n + m, none⟩)) (by simp [execOp, ho, h3, hrun]) ⟨k, τb, n + m, h1, Ty.off_append h2 hm, rfl⟩
      · cases hu
    · cases hu
  · rename_i d j p e he
    rw [he] at hb
    obtain ⟨te, xs, tg, hd, b, off, len, cap, y, n, h1, h2, h3, h4, h5⟩ := hb
    split at hu
    · rename_i ht
      obtain ⟨τ', hf, y', hg, hc⟩ := getK_fld _ _ _ _ _ _ hu
      cases hc
      obtain ⟨m, hm, hrun⟩ := run_fieldAt (hK _ _ ht) hf w b (off + (j * te.size + n))
      have hap := getK_append te y (List.replicate te.leaves .im) p [.fld f] (some : D → Option D)
      have hin : e.ty.getK e.x e.g [.fld f] (some : D → Option D) = some ⟨τ', y', hg⟩ := by
        have := getK_nat e.ty e.x e.g [.fld f] (fun e' => some ({ v := .one (.el d j (p ++ [.fld f]) e') } : U))
        rw [hu] at this
        cases hq : e.ty.getK e.x e.g [.fld f] (some : D → Option D) with
        | none => rw [hq] at this; cases this
        | some q => rw [hq] at this; simp at this; rw [this]
      have hfull : te.getK y (List.replicate te.leaves .im) (p ++ [.fld f]) (some : D → Option D) = some ⟨τ', y', hg⟩ := by
        rw [hap, getK_nat, h4]
        exact hin
      exact opA h (v := .pointer (some ⟨b, off + (j * te.size + n) + m, none⟩)) (by simp [execOp, ho, h5, hrun])
        ⟨te, xs, tg, hd, b, off, len, cap, y, n + m, h1, h2, Ty.off_append h3 hm, hfull, by simp [Nat.add_assoc]⟩
    · cases hu
  · cases hu

theorem s_load {t : TypeId} {x : Operand} (hK : TysOk P K) (h : Inv K.el w0 M s a w G) (ho : o.op = .load t x) (hu : opC K o i s.base s.ev s.box s.mv s.fz some = some u) : OpGoal P K.el w0 M o i s a w G (s.app o.dst u) := by
  simp only [opC, ho] at hu
  have hb := h.ev x
  split at hu
  · rename_i τ b p τ' ht he
    rw [he] at hb
    obtain ⟨k, τb, n, h1, h2, h3⟩ := hb
    split at hu
    · rename_i hττ
      subst hττ
      obtain ⟨x', g, c, e, hbox, hheap, hrep⟩ := h.bx b k τb h1
      rw [hbox] at hu
      simp only at hu
      obtain ⟨d, m, hoff, hd, hu⟩ := getK_off hu hrep
      split at hu
      · rename_i hdt
        cases hu
        rw [h2] at hoff
        simp only [Option.some.injEq, Prod.mk.injEq] at hoff
        obtain ⟨_, rfl⟩ := hoff
        have hfit := Ty.off_fits h2
        have hlen := hrep.len.1
        have hrun := run_loadVar_at (P := P) (hK _ _ ht) hheap (off := n) (by rw [Array.length_toList] at hlen; omega)
        exact opA' h (v := ofCells τ' (part' c.toList n τ'.size)) (by simp [execOp, ho, h3, Instr.loadAt, Instr.sureAddr, hrun]) ⟨_, by rw [hdt], hd⟩
      · cases hu
    · cases hu
  · rename_i τ d j p e ht he
    rw [he] at hb
    obtain ⟨te, xs, tg, hd, b, off, len, cap, y, n, h1, h2, h3, h4, h5⟩ := hb
    split at hu
    · rename_i hτ
      cases hu
      obtain ⟨_, _, c, e', fz, hheap, hl, hel⟩ := h1.cells
      have hy := hel j y h2
      obtain ⟨e2, n2, ho2, hr2, he2⟩ := getK_off h4 (hy.toT (el := K.el))
      cases he2
      rw [h3] at ho2
      simp only [Option.some.injEq, Prod.mk.injEq, true_and] at ho2
      subst ho2
      have hfit := Ty.off_fits h3
      have hj : j < xs.length := (List.getElem?_eq_some_iff.1 h2).1
      have hm : (j + 1) * te.size ≤ xs.length * te.size := Nat.mul_le_mul_right _ hj
      have hm2 : (j + 1) * te.size = j * te.size + te.size := by rw [Nat.add_mul, Nat.one_mul]
      have hrun := run_loadVar_at (P := P) (hK _ _ ht) hheap (off := off + (j * te.size + n)) (by rw [← hτ]; omega)
      refine opA h (v := ofCells τ (part' c.toList (off + (j * te.size + n)) τ.size)) (by simp [execOp, ho, h5, Instr.loadAt, Instr.sureAddr, hrun]) ⟨_, by rw [hτ], ?_⟩
      have heq : part' c.toList (off + (j * te.size + n)) e.ty.size = part' (seg (c.toList.drop off) j te.size) n e.ty.size := by
        unfold part' seg
        rw [List.drop_take, List.take_take, List.drop_drop, List.drop_drop]
        congr 1
        · omega
      rw [← hτ, heq]
      exact hr2
    · cases hu
  · cases hu

end
end Go.Proofs.Ytlehbecajmjgkaa.V
