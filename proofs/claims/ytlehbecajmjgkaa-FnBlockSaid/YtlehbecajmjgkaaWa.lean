/- Part of a proof by a value interpreter: stores into elements. -/
import Derived.Test.YtlehbecajmjgkaaVz
set_option linter.unusedVariables false
set_option linter.unusedSimpArgs false
namespace Go.Proofs.Ytlehbecajmjgkaa.V

section
variable {P : Program} {K : Cfg} {w0 : World} {M : Hx} {o : Oper} {i : Nat} {s : St} {a : Act} {w w' : World} {G : Gh} {u : U}

theorem ownId_some {mv fz : Nat → Bool} {g : List Tg} {id : Nat} (h : ownId mv fz g = some id) : mv id = false ∧ fz id = false ∧ ∃ tg, g = [tg] ∧ tgIds [tg] = [id] := by
  unfold ownId at h
  split at h
  · split at h
    · cases h
    · rename_i hh; cases h; simp only [Bool.or_eq_true, not_or, Bool.not_eq_true] at hh; exact ⟨hh.1, hh.2, _, rfl, rfl⟩
  · split at h
    · cases h
    · rename_i hh; cases h; simp only [Bool.or_eq_true, not_or, Bool.not_eq_true] at hh; exact ⟨hh.1, hh.2, _, rfl, rfl⟩
  · cases h

/-- an array of the frame's own that is there -/
theorem RepS.ownCells {el : Ty → TypeId} {t : Ty} {xs : List t.den} {tg : Tg} {id b o len cap : Nat} {sp : Option Nat} (hid : tgIds [tg] = [id]) (h : RepS w G el t xs tg (.slice (some ⟨b, o, sp⟩) len cap)) :
    o = 0 ∧ sp = none ∧ len = xs.length ∧ ∃ ext c, G.la id = some (some (b, ext)) ∧ xs.length ≤ ext ∧ G.sz b = t.size ∧ 0 < t.size ∧ ext ≤ cap ∧ w.heap[b]? = some (.cells c (el t) (0, 0)) ∧ c.size = cap * t.size ∧ ∀ j x, xs[j]? = some x → RepIm w G.im t x (seg c.toList j t.size) := by
  have own : ∀ full, OwnAt w G el t xs id full (.slice (some ⟨b, o, sp⟩) len cap) → o = 0 ∧ sp = none ∧ len = xs.length ∧ ∃ ext c, G.la id = some (some (b, ext)) ∧ xs.length ≤ ext ∧ G.sz b = t.size ∧ 0 < t.size ∧ ext ≤ cap ∧ w.heap[b]? = some (.cells c (el t) (0, 0)) ∧ c.size = cap * t.size ∧ ∀ j x, xs[j]? = some x → RepIm w G.im t x (seg c.toList j t.size) := by
    intro full h
    unfold OwnAt at h
    split at h
    · exact h.elim
    · simp at h
    · rename_i g ext hq
      obtain ⟨hf, hs, hp, c, cap', hv, b1, b2, b3, b4, b5⟩ := h
      simp only [Value.slice.injEq, Option.some.injEq, Addr.mk.injEq] at hv
      obtain ⟨⟨rfl, rfl, rfl⟩, rfl, rfl⟩ := hv
      exact ⟨rfl, rfl, rfl, ext, c, hq, by split at hf <;> omega, hs, hp, b1, b3, b4, b5⟩
  cases tg with
  | im => simp [tgIds] at hid
  | ni => simp [tgIds] at hid
  | ow j => have : j = id := by simpa [tgIds] using hid
            subst this; exact own true h
  | pa j => have : j = id := by simpa [tgIds] using hid
            subst this; exact own false h

theorem tgIds_app (a b : List Tg) (j : Nat) : j ∈ tgIds (a ++ b) ↔ j ∈ tgIds a ∨ j ∈ tgIds b := by
  rw [mem_tgIds, mem_tgIds, mem_tgIds]
  simp only [List.mem_append]
  constructor
  · rintro ((h | h) | (h | h))
    · exact .inl (.inl h)
    · exact .inr (.inl h)
    · exact .inl (.inr h)
    · exact .inr (.inr h)
  · rintro ((h | h) | (h | h))
    · exact .inl (.inl h)
    · exact .inr (.inl h)
    · exact .inl (.inr h)
    · exact .inr (.inr h)

theorem tgIds_take {g : List Tg} {n j : Nat} (h : j ∈ tgIds (g.take n)) : j ∈ tgIds g := mem_tgIds.2 ((mem_tgIds.1 h).imp List.mem_of_mem_take List.mem_of_mem_take)
theorem tgIds_drop {g : List Tg} {n j : Nat} (h : j ∈ tgIds (g.drop n)) : j ∈ tgIds g := mem_tgIds.2 ((mem_tgIds.1 h).imp List.mem_of_mem_drop List.mem_of_mem_drop)

theorem putK_ids {Ω : Type} : (τ : Ty) → (x : τ.den) → (g : List Tg) → (p : List Step) → (d : D) → (c : τ.den → List Tg → Option Ω) → (ω : Ω) → τ.putK x g p d c = some ω →
    ∃ y h, c y h = some ω ∧ ∀ j ∈ tgIds h, j ∈ tgIds g ∨ j ∈ tgIds d.g
  | τ, x, g, [], d, c, ω, h => by
    rw [Ty.putK] at h
    split at h
    · rename_i y _; exact ⟨y, d.g, h, fun j hj => .inr hj⟩
    · cases h
  | .pr a b, x, g, .fld 0 :: p, d, c, ω, h => by
    rw [Ty.putK] at h
    obtain ⟨y, h', h1, h2⟩ := putK_ids a x.1 _ p d _ ω h
    refine ⟨_, _, h1, fun j hj => ?_⟩
    rcases (tgIds_app _ _ _).1 hj with hj | hj
    · exact (h2 j hj).imp tgIds_take id
    · exact .inl (tgIds_drop hj)
  | .pr a b, x, g, .fld (i + 1) :: p, d, c, ω, h => by
    rw [Ty.putK] at h
    obtain ⟨y, h', h1, h2⟩ := putK_ids b x.2 _ (.fld i :: p) d _ ω h
    refine ⟨_, _, h1, fun j hj => ?_⟩
    rcases (tgIds_app _ _ _).1 hj with hj | hj
    · exact .inl (tgIds_take hj)
    · exact (h2 j hj).imp tgIds_drop id
  | .arr n t, xs, g, .idx i :: p, d, c, ω, h => by
    rw [Ty.putK] at h
    split at h
    · obtain ⟨x, _, h⟩ := bnd_some h
      obtain ⟨y, h', h1, h2⟩ := putK_ids t x [] p d _ ω h
      exact ⟨_, _, h1, fun j hj => .inl hj⟩
    · cases h
  | .int _, _, _, _ :: _, _, _, _, h => by simp [Ty.putK] at h
  | .bool, _, _, _ :: _, _, _, _, h => by simp [Ty.putK] at h
  | .str, _, _, _ :: _, _, _, _, h => by simp [Ty.putK] at h
  | .sl _, _, _, _ :: _, _, _, _, h => by simp [Ty.putK] at h
  | .un, _, _, _ :: _, _, _, _, h => by simp [Ty.putK] at h
  | .pr _ _, _, _, .idx _ :: _, _, _, _, h => by simp [Ty.putK] at h
  | .arr _ _, _, _, .fld _ :: _, _, _, _, h => by simp [Ty.putK] at h

/-- an element, or a part of it, is written -/
theorem g_store (hK : TysOk P K) (h : Inv K.el w0 M s a w G) {t : TypeId} {ad x : Operand} {τ te : Ty} {xs : List te.den} {g : List Tg} {j id : Nat} {p : List Step} {e0 e : D} {v : V} {s' : St} {y x0 : te.den} (ho : o.op = .store t ad x) (ht : K.ty t = some τ)
    (hev : s.ev ad = .one (.el ⟨.sl te, xs, g⟩ j p e0)) (hx : s.ev x = .one v) (hown : ownId s.mv s.fz g = some id) (hto : v.to τ = some e) (hty : e0.ty = τ) (hids : (tgIds e.g).any (fun j => s.mv j || j == id) = false)
    (hx0 : xs[j]? = some x0) (hy : ∃ h', te.putK x0 (List.replicate te.leaves .im) p e (fun y g => some (y, g)) = some (y, h')) (hu : s.upd id te (fun zs => zs.set j y) (tgIds e.g) = some s') :
    ∀ (next : Act → World → Prop) (Q : Exit → Act → World → Prop), (∀ a' w' G', Inv K.el w0 M (s'.put o.dst .un) a' w' G' → (∀ id, G'.la id ≠ none → G.la id ≠ none) → next a' w') → o.wp P a w next Q := by
  have had := h.ev ad
  have hxx := h.ev x
  rw [hev] at had
  rw [hx] at hxx
  obtain ⟨t', xs', tg, hd, b, o', len, cap, x1, n, hr, hx1, hoff, hgk, hval⟩ := had
  cases hd
  rw [hx0] at hx1
  cases hx1
  obtain ⟨hmv, hfz, tg', hg', htg⟩ := ownId_some hown
  cases hg'
  obtain ⟨rfl, _, rfl, ext, c, hla, hle, hsz, hpos, hcap, hheap, hcs, hel⟩ := hr.ownCells htg
  obtain ⟨hety, ds, hdv, hdr⟩ := rep_to hto hxx
  subst hety
  have hmv' : (tgIds e.g).any s.mv = false := List.any_eq_false.2 fun q hq => by
    have := List.any_eq_false.1 hids q hq
    simp only [Bool.or_eq_true, not_or] at this
    exact this.1
  have hnid : id ∉ tgIds e.g := fun hq => by
    have := List.any_eq_false.1 hids id hq
    simp at this
  have h1 := h.letGo hmv'
  have hk1 := Inv.keepsLet (el := K.el) G w (tgIds e.g)
  have hfz1 : (s.fz id || (tgIds e.g).contains id) = false := by
    rw [hfz]; simpa using hnid
  have hj : j < xs.length := (List.getElem?_eq_some_iff.1 hx0).1
  have hfit0 := Ty.off_fits hoff
  have hjs : (j + 1) * te.size ≤ c.toList.length := by
    rw [Array.length_toList (xs := c), hcs]
    exact Nat.mul_le_mul_right _ (by omega)
  have hjs' : j * te.size + te.size ≤ c.toList.length := by rwa [Nat.add_mul, Nat.one_mul] at hjs
  have hlend : ds.length = e.ty.size := hdr.len.1
  have hτe : e.ty = e0.ty := hty.symm
  -- the element's cells
  have helx : RepT w (G.let (tgIds e.g)) K.el te x0 (List.replicate te.leaves .im) (seg c.toList j te.size) := (hk1.rim (hel j x0 hx0)).toT
  have hdr1 : RepT w (G.let (tgIds e.g)) K.el e.ty e.x e.g ds := hk1.rt hdr
  obtain ⟨h', hy⟩ := hy
  obtain ⟨y', hh, n', hoff', hyr, hyeq⟩ := putK_off hy helx hdr1
  simp only [Option.some.injEq, Prod.mk.injEq] at hyeq
  obtain ⟨rfl, rfl⟩ := hyeq
  rw [hoff, hτe] at hoff'
  simp only [Option.some.injEq, Prod.mk.injEq, true_and] at hoff'
  subst hoff'
  have hnfit : n + ds.length ≤ te.size := by rw [hlend, hτe]; exact hfit0
  have hyim : RepIm w (G.let (tgIds e.g)).im te y' (putC (seg c.toList j te.size) n ds) := by
    obtain ⟨y2, h2, e2, e3⟩ := putK_ids _ _ _ _ _ _ _ hy
    simp only [Option.some.injEq, Prod.mk.injEq] at e2
    obtain ⟨rfl, rfl⟩ := e2
    refine hyr.toIm (fun _ hb => hb) (fun q b' m hq hla' => ?_)
    rcases e3 q hq with hq | hq
    · rw [mem_tgIds] at hq
      rcases hq with hq | hq <;> (have := List.eq_of_mem_replicate hq; cases this)
    · exact .inr ⟨q, hq, m, hla'⟩
  have hlput : (putC c.toList (j * te.size + n) ds).length = c.toList.length := putC_length (by omega)
  have hupd : UpdOk K.el w (w.setRow b (putC c.toList (j * te.size + n) ds).toArray) (G.let (tgIds e.g)) id b ext te (fun zs => zs.set j y') c (putC c.toList (j * te.size + n) ds).toArray := by
    refine ⟨hla, hheap, Wrote.of_setRow hheap, by rw [List.size_toArray, hlput, Array.length_toList], fun zs hzl hz => ⟨List.length_set .., fun q x hq => ?_⟩⟩
    by_cases hqj : j = q
    · subst hqj
      have hlt : j < zs.length := by
        have := (List.getElem?_eq_some_iff.1 hq).1
        simpa using this
      rw [List.getElem?_set_self hlt] at hq
      cases hq
      show RepIm _ _ _ _ (seg (putC c.toList (j * te.size + n) ds) j te.size)
      rw [seg_putC_same hnfit hjs]
      exact hyim
    · rw [List.getElem?_set_ne hqj] at hq
      show RepIm _ _ _ _ (seg (putC c.toList (j * te.size + n) ds) q te.size)
      rw [seg_putC_other hqj hnfit hjs]
      exact hz q x hq
  have h2 := Inv.upd h1 (hupd.abs h1 hmv hfz1) (upd_let hu)
  have hrun := run_storeVar_at (P := P) (hK _ _ ht) hdr hheap (off := 0 + (j * te.size + n)) (by
    rw [← hlend]
    rw [Array.length_toList (xs := c)] at hjs'
    omega)
  intro next Q hn
  have hrun2 : (execOp a.eval o).run P w = .ok .skip (w.setRow b (putC c.toList (j * te.size + n) ds).toArray) := by
    rw [Nat.zero_add] at hrun
    simp [execOp, ho, hval, hdv, Instr.storeAt, Instr.sureAddr, hrun]
  unfold Oper.wp
  rw [hrun2]
  simp only [Oper.upon]
  exact hn _ _ _ (h2.put (x := .un) (v := undef) rfl) (fun id hid => hid)

end
end Go.Proofs.Ytlehbecajmjgkaa.V
