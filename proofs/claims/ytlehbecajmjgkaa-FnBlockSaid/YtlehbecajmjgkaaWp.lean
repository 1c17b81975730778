/- Part of a proof by a value interpreter: types checked, contracts made, functions that call themselves. -/
import Derived.Test.YtlehbecajmjgkaaWo
set_option linter.unusedVariables false
set_option linter.unusedSimpArgs false
namespace Go.Proofs.Ytlehbecajmjgkaa.V

/-! ### are types laid out as told -/
def eq1 : Value → Value → Bool
  | .int k n, .int k' m => decide (k = k') && decide (n = m)
  | .bool a, .bool b => a == b
  | .string s, .string t => decide (s.data.toList = t.data.toList)
  | .slice none 0 0, .slice none 0 0 => true
  | _, _ => false

theorem eq1_eq {a b : Value} (h : eq1 a b = true) : a = b := by
  unfold eq1 at h
  split at h
  · simp only [Bool.and_eq_true, decide_eq_true_eq] at h
    obtain ⟨rfl, rfl⟩ := h; rfl
  · have := eq_of_beq h; rw [this]
  · rename_i s t
    have : s.data.toList = t.data.toList := by simpa using h
    obtain ⟨⟨s⟩⟩ := s
    obtain ⟨⟨t⟩⟩ := t
    simp only at this
    rw [this]
  · rfl
  · cases h

def eqL : List Value → List Value → Bool
  | [], [] => true
  | a :: l, b :: m => eq1 a b && eqL l m
  | _, _ => false

theorem eqL_eq : {l m : List Value} → eqL l m = true → l = m
  | [], [], _ => rfl
  | a :: l, b :: m, h => by
    simp only [eqL, Bool.and_eq_true] at h
    rw [eq1_eq h.1, eqL_eq h.2]
  | [], _ :: _, h => by cases h
  | _ :: _, [], h => by cases h

def infB (P : Program) (t : TypeId) (n : Nat) (z : Value) : Bool :=
  match P.info? t with
  | some i => i.size == n && decide (i.bytes ≤ 32768) && (match i.zero with
    | some z' => (match z', z with
      | .agg xs, .agg ys => eqL xs.toList ys.toList
      | x, y => eq1 x y)
    | none => false)
  | none => false

theorem infB_ok {P : Program} {t : TypeId} {n : Nat} {z : Value} (h : infB P t n z = true) : Inf P t n z := by
  unfold infB at h
  split at h
  · rename_i i hi
    simp only [Bool.and_eq_true, beq_iff_eq, decide_eq_true_eq] at h
    obtain ⟨⟨h1, h2⟩, h3⟩ := h
    refine ⟨i, hi, h1, ?_, h2⟩
    split at h3
    · rename_i z' hz
      rw [hz]
      split at h3
      · rename_i xs ys
        have := eqL_eq h3
        congr 2
        exact Array.toList_inj.1 this
      · rw [eq1_eq h3]
    · cases h3
  · cases h

mutual
def tyB (P : Program) (el : Ty → TypeId) : Ty → TypeId → Bool
  | .int k, t => (match P.underlying t with | some (.int k') => decide (k' = k) | _ => false) && infB P t 1 (.int k 0)
  | .bool, t => (match P.underlying t with | some .bool => true | _ => false) && infB P t 1 (.bool false)
  | .str, t => (match P.underlying t with | some .string => true | _ => false) && infB P t 1 (.string ByteArray.empty)
  | .sl a, t => (match P.underlying t with | some (.slice e) => decide (e = el a) | _ => false) && infB P t 1 (.slice none 0 0) && tyB P el a (el a)
  | .un, t => (match P.underlying t with | some (.struct fs) => fs.toList.isEmpty | _ => false) && infB P t 0 (.agg #[])
  | .pr a b, t => (match P.underlying t with
    | some (.struct fs) => (match fs.toList with
      | f :: r => f.offset == 0 && decide (0 < a.size) && tyB P el a f.type && fdB P el b r a.size
      | [] => false)
    | _ => false) && infB P t (a.size + b.size) (.agg (zeroC (.pr a b)).toArray)
  | .arr n a, t => (match P.underlying t with
    | some (.array m e) => decide (m = n) && tyB P el a e
    | _ => false) && infB P t (n * a.size) (.agg (zeroC (.arr n a)).toArray) && decide (0 < a.size)
def fdB (P : Program) (el : Ty → TypeId) : Ty → List Field → Nat → Bool
  | .un, fs, _ => fs.isEmpty
  | .pr a b, fs, n => match fs with
    | f :: r => f.offset == n && decide (0 < a.size) && tyB P el a f.type && fdB P el b r (n + a.size)
    | [] => false
  | .int _, _, _ => false
  | .bool, _, _ => false
  | .str, _, _ => false
  | .sl _, _, _ => false
  | .arr _ _, _, _ => false
end

mutual
theorem tyB_ok {P : Program} {el : Ty → TypeId} : (τ : Ty) → (t : TypeId) → tyB P el τ t = true → TyOk P el τ t
  | .int k, t, h => by
    rw [tyB, Bool.and_eq_true] at h
    rw [TyOk]
    refine ⟨?_, infB_ok h.2⟩
    have h1 := h.1
    split at h1
    · rename_i k' hu; rw [hu, of_decide_eq_true h1]
    · cases h1
  | .bool, t, h => by
    rw [tyB, Bool.and_eq_true] at h
    rw [TyOk]
    refine ⟨?_, infB_ok h.2⟩
    have h1 := h.1
    split at h1
    · assumption
    · cases h1
  | .str, t, h => by
    rw [tyB, Bool.and_eq_true] at h
    rw [TyOk]
    refine ⟨?_, infB_ok h.2⟩
    have h1 := h.1
    split at h1
    · assumption
    · cases h1
  | .sl a, t, h => by
    rw [tyB, Bool.and_eq_true, Bool.and_eq_true] at h
    rw [TyOk]
    refine ⟨?_, infB_ok h.1.2, tyB_ok a _ h.2⟩
    have h1 := h.1.1
    split at h1
    · rename_i e hu; rw [hu, of_decide_eq_true h1]
    · cases h1
  | .un, t, h => by
    rw [tyB, Bool.and_eq_true] at h
    rw [TyOk]
    have h1 := h.1
    split at h1
    · rename_i fs hu
      exact ⟨fs, hu, by simpa using h1, infB_ok h.2⟩
    · cases h1
  | .pr a b, t, h => by
    rw [tyB, Bool.and_eq_true] at h
    rw [TyOk]
    have h1 := h.1
    split at h1
    · rename_i fs hu
      split at h1
      · rename_i f r hl
        simp only [Bool.and_eq_true, beq_iff_eq, decide_eq_true_eq] at h1
        exact ⟨fs, f, r, hu, hl, infB_ok h.2, h1.1.1.1, h1.1.1.2, tyB_ok a _ h1.1.2, fdB_ok b r _ h1.2⟩
      · cases h1
    · cases h1
  | .arr n a, t, h => by
    rw [tyB, Bool.and_eq_true, Bool.and_eq_true] at h
    rw [TyOk]
    have h1 := h.1.1
    split at h1
    · rename_i m e hu
      simp only [Bool.and_eq_true, decide_eq_true_eq] at h1
      exact ⟨e, by rw [hu, h1.1], infB_ok h.1.2, of_decide_eq_true h.2, tyB_ok a e h1.2⟩
    · cases h1
theorem fdB_ok {P : Program} {el : Ty → TypeId} : (τ : Ty) → (fs : List Field) → (n : Nat) → fdB P el τ fs n = true → FOk P el τ fs n
  | .un, fs, n, h => by
    rw [fdB] at h
    rw [FOk]
    simpa using h
  | .pr a b, fs, n, h => by
    rw [fdB.eq_def] at h
    simp only at h
    split at h
    · rename_i f r
      simp only [Bool.and_eq_true, beq_iff_eq, decide_eq_true_eq] at h
      rw [FOk]
      exact ⟨f, r, rfl, h.1.1.1, h.1.1.2, tyB_ok a _ h.1.2, fdB_ok b r _ h.2⟩
    · cases h
  | .int _, _, _, h => by rw [fdB] at h; cases h
  | .bool, _, _, h => by rw [fdB] at h; cases h
  | .str, _, _, h => by rw [fdB] at h; cases h
  | .sl _, _, _, h => by rw [fdB] at h; cases h
  | .arr _ _, _, _, h => by rw [fdB] at h; cases h
end

/-- the types, as a list -/
def tyOf (l : List (TypeId × Ty)) (t : TypeId) : Option Ty := l.lookup t

theorem lookup_mem {α β : Type} [BEq α] [LawfulBEq α] : {l : List (α × β)} → {a : α} → {b : β} → l.lookup a = some b → (a, b) ∈ l
  | [], _, _, h => by simp at h
  | (x, y) :: r, a, b, h => by
    rw [List.lookup_cons] at h
    split at h
    · rename_i hx
      cases h
      have := eq_of_beq hx
      subst this
      exact List.mem_cons_self ..
    · exact List.mem_cons_of_mem _ (lookup_mem h)

theorem tysOk_of {P : Program} {el : Ty → TypeId} {l : List (TypeId × Ty)} (h : (l.all fun p => tyB P el p.2 p.1) = true) {con : FuncId → Option Con} : TysOk P ⟨tyOf l, el, con⟩ := by
  intro t τ ht
  exact tyB_ok τ t (List.all_eq_true.1 h (t, τ) (lookup_mem ht))

/-! ### contracts -/
/-- a contract of a typed function -/
def mkCon (ins : List ATy) (outs : List RTy) (f : InDen ins → Option (RDen outs × BDen ins)) : Con := ⟨ins, outs, f, fun _ a c => bnd (f a) c, fun _ _ _ => rfl⟩

def conOf (l : List (FuncId × Con)) (f : FuncId) : Option Con := l.lookup f

theorem consOk_nil {P : Program} {ty : TypeId → Option Ty} {el : Ty → TypeId} : ConsOk P ⟨ty, el, conOf []⟩ := by
  intro f cn h
  simp [conOf] at h

theorem consOk_cons {P : Program} {ty : TypeId → Option Ty} {el : Ty → TypeId} {f : FuncId} {cn : Con} {l : List (FuncId × Con)} (h : cn.Holds P el f) (hl : ConsOk P ⟨ty, el, conOf l⟩) : ConsOk P ⟨ty, el, conOf ((f, cn) :: l)⟩ := by
  intro g c hg
  have hg : List.lookup g ((f, cn) :: l) = some c := hg
  rw [List.lookup_cons] at hg
  split at hg
  · rename_i hx
    cases hg
    have := eq_of_beq hx
    subst this
    exact h
  · exact hl g c hg

/-- what is asked of a function's number: closed facts -/
structure FnOk (P : Program) (f : FuncId) (fn : Func) (q : Nat) : Prop where
  get : P.funcs[f]? = some fn
  name : (fn.name == "runtime.NumGoroutine") = false
  body : ∃ b, fn.body = some b ∧ dstOk q b = true

def fnB (fn : Func) (q : Nat) : Bool := !(fn.name == "runtime.NumGoroutine") && (match fn.body with
  | some b => dstOk q b
  | none => false)

theorem fnOk_of {P : Program} {f : FuncId} {fn : Func} {q : Nat} (h : P.funcs[f]? = some fn) (hb : fnB fn q = true) : FnOk P f fn q := by
  unfold fnB at hb
  rw [Bool.and_eq_true] at hb
  refine ⟨h, by simpa using hb.1, ?_⟩
  have h2 := hb.2
  split at h2
  · rename_i b hb'; exact ⟨b, hb', h2⟩
  · cases h2

theorem holds_of {P : Program} {K : Cfg} (hm : P.follows .mixedOrders = true) (hK : TysOk P K) (hC : ConsOk P K) {f : FuncId} {fn : Func} {ins : List ATy} (hf : FnOk P f fn ins.length) {hs : Nat → Hint} {outs : List RTy} {g : InDen ins → Option (RDen outs × BDen ins)}
    (he : ∀ y, g y = evF K hs fn ins outs y) : (mkCon ins outs g).Holds P K.el f := by
  obtain ⟨b, hb, hd⟩ := hf.body
  refine ⟨⟨fn, hf.get, hf.name, by rw [hb]; rfl⟩, fun y vs w M G hx hi r b' hr => ?_⟩
  have hr' : evF K hs fn ins outs y = some (r, b') := (he y).symm.trans hr
  exact evF_sound hm hK hC hf.get hb hd hs hx hi hr'

/-- a function that calls itself: 'g n' goes no deeper than 'n' -/
theorem holds_rec {P : Program} {ty : TypeId → Option Ty} {el : Ty → TypeId} {l : List (FuncId × Con)} (hm : P.follows .mixedOrders = true) (hK : ∀ con, TysOk P ⟨ty, el, con⟩) (hC : ConsOk P ⟨ty, el, conOf l⟩) {f : FuncId} {fn : Func} {ins : List ATy} (hf : FnOk P f fn ins.length) {hs : Nat → Hint} {outs : List RTy}
    {g : Nat → InDen ins → Option (RDen outs × BDen ins)} (h0 : ∀ y, g 0 y = none)
    (he : ∀ n y, g (n + 1) y = evF ⟨ty, el, conOf ((f, mkCon ins outs (g n)) :: l)⟩ hs fn ins outs y) : ∀ n, (mkCon ins outs (g n)).Holds P el f := by
  intro n
  induction n with
  | zero =>
    obtain ⟨b, hb, hd⟩ := hf.body
    refine ⟨⟨fn, hf.get, hf.name, by rw [hb]; rfl⟩, fun y vs w M G hx hi r b' hr => ?_⟩
    have hr' := (h0 y).symm.trans hr
    cases hr'
  | succ n ih => exact holds_of (K := ⟨ty, el, conOf ((f, mkCon ins outs (g n)) :: l)⟩) hm (hK _) (consOk_cons ih hC) hf (he n)

theorem holds_fuel {P : Program} {el : Ty → TypeId} {f : FuncId} {ins : List ATy} {outs : List RTy} {g : Nat → InDen ins → Option (RDen outs × BDen ins)} (h : ∀ n, (mkCon ins outs (g n)).Holds P el f) (fuel : InDen ins → Nat) :
    (mkCon ins outs (fun y => g (fuel y) y)).Holds P el f := by
  refine ⟨(h 0).1, fun y vs w M G hx hi r b hr => ?_⟩
  exact (h (fuel y)).2 y vs w M G hx hi r b hr

end Go.Proofs.Ytlehbecajmjgkaa.V
