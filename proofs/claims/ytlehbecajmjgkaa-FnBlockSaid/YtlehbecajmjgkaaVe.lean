/- Part of a proof by a value interpreter: when a frame of the machine is what a state of the interpreter says. -/
import Derived.Test.YtlehbecajmjgkaaVd
set_option linter.unusedVariables false
set_option linter.unusedSimpArgs false
namespace Go.Proofs.Ytlehbecajmjgkaa.V

section
variable {P : Program} {el : Ty → TypeId}

/-- The elements of a slice, where they lie. -/
theorem RepS.cells {w : World} {G : Gh} {t : Ty} {xs : List t.den} {tg : Tg} {b o : Nat} {sp : Option Nat} {len cap : Nat} (h : RepS w G el t xs tg (.slice (some ⟨b, o, sp⟩) len cap)) :
    sp = none ∧ len = xs.length ∧ ∃ c e fz, w.heap[b]? = some (.cells c e fz) ∧ (0 < xs.length → o + xs.length * t.size ≤ c.size) ∧ ∀ i x, xs[i]? = some x → RepIm w G.im t x (seg (c.toList.drop o) i t.size) := by
  have own : ∀ i full, OwnAt w G el t xs i full (.slice (some ⟨b, o, sp⟩) len cap) → sp = none ∧ len = xs.length ∧ ∃ c e fz, w.heap[b]? = some (.cells c e fz) ∧ (0 < xs.length → o + xs.length * t.size ≤ c.size) ∧
      ∀ i x, xs[i]? = some x → RepIm w G.im t x (seg (c.toList.drop o) i t.size) := by
    intro i full h
    unfold OwnAt at h
    split at h
    · exact h.elim
    · simp at h
    · rename_i g ext hla
      obtain ⟨hf, _, _, c, cap', he, h1, _, h2, h3, h4⟩ := h
      simp only [Value.slice.injEq, Option.some.injEq, Addr.mk.injEq] at he
      obtain ⟨⟨rfl, rfl, rfl⟩, rfl, rfl⟩ := he
      have hle : xs.length ≤ ext := by split at hf <;> omega
      refine ⟨rfl, rfl, c, el t, (0, 0), h2, fun _ => ?_, fun j x hx => by simpa using h4 j x hx⟩
      rw [h3, Nat.zero_add]; exact Nat.mul_le_mul_right _ (by omega)
  cases tg with
  | im =>
    simp only [RepS, RepIm] at h
    obtain ⟨a, cap', he, h | ⟨b', off, c, e, fz, rfl, _, _, hh, hl, hx⟩⟩ := h
    · obtain ⟨rfl, _⟩ := h
      simp at he
    · simp only [List.cons.injEq, and_true, Value.slice.injEq, Option.some.injEq, Addr.mk.injEq] at he
      obtain ⟨⟨rfl, rfl, rfl⟩, rfl, rfl⟩ := he
      exact ⟨rfl, rfl, c, e, fz, hh, hl, hx⟩
  | ni => simp [RepS] at h
  | ow i => exact own i true h
  | pa i => exact own i false h

/-- an element's address -/
def ElRep (w : World) (G : Gh) (el : Ty → TypeId) (d : D) (i : Nat) (p : List Step) (e : D) (v : Value) : Prop :=
  ∃ t xs tg, d = ⟨.sl t, xs, [tg]⟩ ∧ ∃ b o len cap x n, RepS w G el t xs tg (.slice (some ⟨b, o, none⟩) len cap) ∧ xs[i]? = some x ∧ t.off p = some (e.ty, n) ∧
    t.getK x (List.replicate t.leaves .im) p some = some e ∧ v = .pointer (some ⟨b, o + (i * t.size + n), none⟩)

def RepV (w : World) (G : Gh) (el : Ty → TypeId) : V → Value → Prop
  | .top, _ => True
  | .dat d, v => ∃ cs, v = ofCells d.ty cs ∧ RepT w G el d.ty d.x d.g cs
  | .nl, v => v = .slice none 0 0
  | .ptr b p τ, v => ∃ k τb n, G.lb b = some (k, τb) ∧ τb.off p = some (τ, n) ∧ v = .pointer (some ⟨k, n, none⟩)
  | .el d i p e, v => ElRep w G el d i p e v
  | .bsl b, v => ∃ k n t, G.lb b = some (k, .arr n t) ∧ v = .slice (some ⟨k, 0, none⟩) n n
  | .fn f, v => v = .func (.func f) #[] #[]

def RepW (w : World) (G : Gh) (el : Ty → TypeId) : W → Value → Prop
  | .one v, x => RepV w G el v x
  | .tup l, x => ∃ vs : Array Value, x = .tuple vs ∧ vs.size = l.length ∧ ∀ (i : Nat) (v : V) (y : Value), l[i]? = some v → vs[i]? = some y → RepV w G el v y
  | .un, x => x = undef

/-- What a step of the machine must keep of memory and names, for what was said to stay true. -/
structure Keeps (w : World) (G : Gh) (w' : World) (G' : Gh) (el : Ty → TypeId) : Prop where
  im : ∀ b, G.im b → w'.heap[b]? = w.heap[b]? ∧ G'.im b
  rs : ∀ t (xs : List t.den) tg v, RepS w G el t xs tg v → RepS w' G' el t xs tg v
  lb : ∀ b k τ, G.lb b = some (k, τ) → G'.lb b = some (k, τ)

theorem Keeps.rim {w w' : World} {G G' : Gh} (h : Keeps w G w' G' el) {τ : Ty} {x : τ.den} {cs : List Value} (hr : RepIm w G.im τ x cs) : RepIm w' G'.im τ x cs :=
  hr.mono (fun b hb => (h.im b hb).1) (fun b hb => (h.im b hb).2)

theorem Keeps.rt {w w' : World} {G G' : Gh} (h : Keeps w G w' G' el) {τ : Ty} {x : τ.den} {g : List Tg} {cs : List Value} (hr : RepT w G el τ x g cs) : RepT w' G' el τ x g cs :=
  hr.same h.rim (fun t xs tg v _ hs => h.rs t xs tg v hs)

theorem Keeps.rv {w w' : World} {G G' : Gh} (h : Keeps w G w' G' el) {v : V} {x : Value} (hr : RepV w G el v x) : RepV w' G' el v x := by
  cases v with
  | top => trivial
  | dat d => obtain ⟨cs, he, hr⟩ := hr; exact ⟨cs, he, h.rt hr⟩
  | nl => exact hr
  | ptr b p τ => obtain ⟨k, τb, n, h1, h2, h3⟩ := hr; exact ⟨k, τb, n, h.lb _ _ _ h1, h2, h3⟩
  | el d i p e =>
    obtain ⟨t, xs, tg, hd, b, o, len, cap, y, n, h1, h2⟩ := hr
    exact ⟨t, xs, tg, hd, b, o, len, cap, y, n, h.rs _ _ _ _ h1, h2⟩
  | bsl b => obtain ⟨k, n, t, h1, h2⟩ := hr; exact ⟨k, n, t, h.lb _ _ _ h1, h2⟩
  | fn f => exact hr

theorem Keeps.rw' {w w' : World} {G G' : Gh} (h : Keeps w G w' G' el) {v : W} {x : Value} (hr : RepW w G el v x) : RepW w' G' el v x := by
  cases v with
  | one v => exact h.rv (v := v) hr
  | tup l => obtain ⟨vs, he, hl, hr⟩ := hr; exact ⟨vs, he, hl, fun i v y hv hy => h.rv (hr i v y hv hy)⟩
  | un => exact hr

theorem Keeps.refl (w : World) (G : Gh) : Keeps w G w G el := ⟨fun _ h => ⟨rfl, h⟩, fun _ _ _ _ h => h, fun _ _ _ h => h⟩
theorem Keeps.trans {w w' w'' : World} {G G' G'' : Gh} (h : Keeps w G w' G' el) (k : Keeps w' G' w'' G'' el) : Keeps w G w'' G'' el :=
  ⟨fun b hb => ⟨((k.im b (h.im b hb).2).1).trans (h.im b hb).1, (k.im b (h.im b hb).2).2⟩, fun t xs tg v hs => k.rs _ _ _ _ (h.rs _ _ _ _ hs), fun b q τ hb => k.lb _ _ _ (h.lb _ _ _ hb)⟩

/-- What is known of the call's beginning: the blocks that may turn, those that nobody writes, the boxes that were handed over (to the first 'q' temporaries). -/
structure Hx where
  m : Nat → Prop
  i0 : Nat → Prop
  lb0 : Nat → Option (Nat × Ty)
  q : Nat

/-- Of the memory that was there when the call began nothing has turned but the blocks 'M'. -/
structure Fr (w0 : World) (M : Hx) (w : World) : Prop where
  os : w.os = w0.os
  tape : w.tape = w0.tape
  output : w.output = w0.output
  size : w0.heap.size ≤ w.heap.size
  block : ∀ k, k < w0.heap.size → ¬ M.m k → w.heap[k]? = w0.heap[k]?

def Mut (w0 : World) (M : Hx) (k : Nat) : Prop := w0.heap.size ≤ k ∨ M.m k

theorem Fr.refl (w0 : World) (M : Hx) : Fr w0 M w0 := ⟨rfl, rfl, rfl, Nat.le_refl _, fun _ _ _ => rfl⟩

/-- A frame is what a state says. -/
structure Inv (el : Ty → TypeId) (w0 : World) (M : Hx) (s : St) (a : Act) (w : World) (G : Gh) : Prop where
  df : a.defers = []
  len : a.tmps.size = s.tm.length
  blen : s.bx.length = s.tm.length
  tm : ∀ (i : Nat) (x : W) (v : Value), s.tm[i]? = some x → a.tmps[i]? = some v → RepW w G el x v
  bx : ∀ b k τ, G.lb b = some (k, τ) → ∃ x g c e, s.box b = some ⟨τ, x, g⟩ ∧ w.heap[k]? = some (.cells c e (0, 0)) ∧ RepT w G el τ x g c.toList
  bn : ∀ b, G.lb b = none → s.box b = none
  lbi : ∀ b b' k τ τ', G.lb b = some (k, τ) → G.lb b' = some (k, τ') → b = b'
  lbm : ∀ b k τ, G.lb b = some (k, τ) → ¬ G.im k ∧ (∀ i n, G.la i ≠ some (some (k, n))) ∧ Mut w0 M k
  lam : ∀ i k n, G.la i = some (some (k, n)) → k < w.heap.size ∧ (s.fz i = false → s.mv i = false → ¬ G.im k) ∧ Mut w0 M k
  las : ∀ i j k n m, G.la i = some (some (k, n)) → G.la j = some (some (k, m)) → i ≠ j → (s.mv i = true ∨ s.mv j = true) ∧ (s.mv i = true → s.mv j = false → n ≤ m)
  imb : ∀ k, G.im k → k < w.heap.size
  him : ∀ k, G.im k → M.i0 k ∨ Mut w0 M k
  hlb : ∀ b, b < M.q → G.lb b = none ∨ G.lb b = M.lb0 b
  hnb : ∀ b k τ, M.q ≤ b → G.lb b = some (k, τ) → w0.heap.size ≤ k
  fr : Fr w0 M w

theorem Inv.ev {w0 : World} {M : Hx} {s : St} {a : Act} {w : World} {G : Gh} (h : Inv el w0 M s a w G) (x : Operand) : RepW w G el (s.ev x) (a.eval x) := by
  cases x with
  | tmp t =>
    simp only [St.ev, Act.eval]
    by_cases ht : t < s.tm.length
    · have h1 : s.tm[t]? = some s.tm[t] := List.getElem?_eq_getElem ht
      have ht' : t < a.tmps.size := by rw [h.len]; exact ht
      have h2 : a.tmps[t]? = some a.tmps[t] := Array.getElem?_eq_getElem ht'
      rw [List.getD_eq_getElem?_getD, h1, Array.getD_eq_getD_getElem?, h2]
      exact h.tm t _ _ h1 h2
    · rw [List.getD_eq_getElem?_getD, List.getElem?_eq_none (Nat.le_of_not_lt ht)]
      exact trivial
  | const v =>
    simp only [St.ev, Act.eval]
    show RepV w G el (constV v) v
    unfold constV
    split
    · rename_i k n
      split
      · rename_i hn
        refine ⟨[.int k (toI k (ofI k n))], ?_, ?_⟩
        · rw [hn]; rfl
        · simp only [RepT, RepIm]; exact ⟨trivial, trivial⟩
      · trivial
    · exact ⟨_, rfl, by simp only [RepT, RepIm]; exact ⟨trivial, rfl⟩⟩
    · rename_i s
      refine ⟨[.string s], rfl, ?_⟩
      simp only [RepT, RepIm, strOf]
      exact ⟨trivial, by simp⟩
    · rfl
    · trivial
  | global g => trivial
  | func f => rfl

theorem app_only (s : St) (dst : Option Tmp) (v : W) : s.app dst { v := v } = s.put dst v := by
  cases dst <;> simp [St.app, St.put, setBoxes]

theorem Inv.put {w0 : World} {M : Hx} {s : St} {a : Act} {w : World} {G : Gh} (h : Inv el w0 M s a w G) {dst : Option Tmp} {x : W} {v : Value} (hr : RepW w G el x v) : Inv el w0 M (s.put dst x) (a.put dst v) w G := by
  cases dst with
  | none => exact h
  | some d =>
    exact { df := h.df
            len := by simp [St.put, Act.put, h.len]
            blen := by simp [St.put, h.blen]
            tm := by
              intro i y u hy hu
              simp only [St.put, Act.put] at hy hu
              rw [List.getElem?_set] at hy
              rw [Array.getElem?_setIfInBounds] at hu
              by_cases hdi : d = i
              · subst hdi
                simp only [if_true] at hy hu
                split at hy
                · split at hu
                  · cases hy; cases hu; exact hr
                  · cases hu
                · cases hy
              · simp only [hdi, if_false] at hy hu
                exact h.tm i y u hy hu
            bx := h.bx
            bn := h.bn
            lbi := h.lbi
            lbm := h.lbm
            lam := h.lam
            las := h.las
            imb := h.imb
            him := h.him
            hlb := h.hlb
            hnb := h.hnb
            fr := h.fr }

end
end Go.Proofs.Ytlehbecajmjgkaa.V
