/- Part of a proof by a value interpreter: operations whose order Go leaves open: what each of them does to a state. -/
import Derived.Test.YtlehbecajmjgkaaWf
import Derived.Orders
set_option linter.unusedVariables false
set_option linter.unusedSimpArgs false
namespace Go.Proofs.Ytlehbecajmjgkaa.V

/-- does an operation run here -/
def wantsAt (ops : List Oper) (o : Oper) (s : St) : Option Bool :=
  match o.guard with
  | none => some true
  | some (j, want) => match dstOf ops j with
    | none => none
    | some t => match s.tm.getD t (.one .top) with
      | .one (.dat ⟨.bool, b, []⟩) => some (b == want)
      | .un => some false
      | _ => none

/-- what an operation did to the state -/
inductive Did (K : Cfg) (ops : List Oper) (o : Oper) (i : Nat) (s : St) : (St → St) → Tr → Prop
  | skip : wantsAt ops o s = some false → Did K ops o i s (fun s => s.put o.dst .un) noTr
  | loc (u : U) : wantsAt ops o s = some true → opG K o s some = none → opC K o i s.base s.ev s.box s.mv s.fz some = some u → Did K ops o i s (fun s => s.app o.dst u) u.tr
  | glob (s' : St) : wantsAt ops o s = some true → opG K o s some = some (some s') → Did K ops o i s (fun _ => s') allTr

def accum (fs : List (St → St)) (A : Nat → Bool) (s : St) : Nat → St
  | 0 => s
  | n + 1 => if A n then (fs.getD n id) (accum fs A s n) else accum fs A s n

theorem accum_cons (f : St → St) (fs : List (St → St)) (s : St) : (n : Nat) → accum (f :: fs) (fun _ => true) s (n + 1) = accum fs (fun _ => true) (f s) n
  | 0 => rfl
  | n + 1 => by
    have ih := accum_cons f fs s n
    show (if true = true then ((f :: fs).getD (n + 1) id) (accum (f :: fs) (fun _ => true) s (n + 1)) else _) = _
    rw [ih]
    rfl

section
variable {K : Cfg} {Ω : Type} {ω : Ω}

theorem evOps_did {ops : List Oper} {c : St → List Tr → Option Ω} : (r : List Oper) → (i : Nat) → (s : St) → (tr : List Tr) → evOps K ops r i s tr c = some ω →
    ∃ (fs : List (St → St)) (ts : List Tr), fs.length = r.length ∧ ts.length = r.length ∧
      (∀ (k : Nat) (o : Oper), r[k]? = some o → Did K ops o (i + k) (accum fs (fun _ => true) s k) (fs.getD k id) (ts.getD k noTr)) ∧ c (accum fs (fun _ => true) s r.length) (ts.reverse ++ tr) = some ω
  | [], i, s, tr, he => ⟨[], [], rfl, rfl, fun k o hk => by simp at hk, by rw [evOps] at he; exact he⟩
  | o :: r, i, s, tr, he => by
    rw [evOps] at he
    have step : ∀ (f : St → St) (t : Tr), Did K ops o i s f t → evOps K ops r (i + 1) (f s) (t :: tr) c = some ω → ∃ (fs : List (St → St)) (ts : List Tr), fs.length = (o :: r).length ∧ ts.length = (o :: r).length ∧
      (∀ (k : Nat) (o' : Oper), (o :: r)[k]? = some o' → Did K ops o' (i + k) (accum fs (fun _ => true) s k) (fs.getD k id) (ts.getD k noTr)) ∧ c (accum fs (fun _ => true) s (o :: r).length) (ts.reverse ++ tr) = some ω := by
      intro f t hd he
      obtain ⟨fs, ts, h1, h2, h3, h4⟩ := evOps_did r (i + 1) (f s) (t :: tr) he
      refine ⟨f :: fs, t :: ts, by simp [h1], by simp [h2], fun k o' hk => ?_, ?_⟩
      · cases k with
        | zero =>
          simp only [List.getElem?_cons_zero, Option.some.injEq] at hk
          subst hk
          exact hd
        | succ k =>
          have := h3 k o' (by simpa using hk)
          rw [accum_cons, show i + (k + 1) = i + 1 + k by omega]
          exact this
      · rw [List.length_cons, accum_cons]
        simpa using h4
    have hgo : wantsAt ops o s = some true →
        (match (opG K o s fun s' => evOps K ops r (i + 1) s' (allTr :: tr) c) with
          | some x => x
          | none => opC K o i s.base s.ev s.box s.mv s.fz fun u => evOps K ops r (i + 1) (s.app o.dst u) (u.tr :: tr) c) = some ω → ∃ (fs : List (St → St)) (ts : List Tr), fs.length = (o :: r).length ∧ ts.length = (o :: r).length ∧
      (∀ (k : Nat) (o' : Oper), (o :: r)[k]? = some o' → Did K ops o' (i + k) (accum fs (fun _ => true) s k) (fs.getD k id) (ts.getD k noTr)) ∧ c (accum fs (fun _ => true) s (o :: r).length) (ts.reverse ++ tr) = some ω := by
      intro hw he
      rw [opG_bind] at he
      cases hg : opG K o s some with
      | some x =>
        rw [hg] at he
        simp only [Option.map_some] at he
        obtain ⟨s', rfl, he⟩ := Option.bind_eq_some_iff.1 he
        exact step _ _ (.glob s' hw hg) he
      | none =>
        rw [hg] at he
        simp only [Option.map_none] at he
        rw [opC_bind] at he
        obtain ⟨u, hu, he⟩ := Option.bind_eq_some_iff.1 he
        exact step _ _ (.loc u hw hg hu) he
    split at he
    · rename_i hgd
      exact hgo (by simp [wantsAt, hgd]) he
    · rename_i j want hgd
      split at he
      · cases he
      · rename_i t ht
        split at he
        · rename_i b hb
          have hps := put_same hb (by simp)
          split at he
          · rcases br_some he with ⟨rfl, he⟩ | ⟨rfl, he⟩
            · have e : s.put (some t) (bool true) = s := hps
              rw [e] at he
              exact hgo (by simp only [wantsAt, hgd, ht, hb]; rfl) he
            · have e : s.put (some t) (bool false) = s := hps
              rw [e] at he
              exact step _ _ (.skip (by simp only [wantsAt, hgd, ht, hb]; rfl)) he
          · rcases br_some he with ⟨rfl, he⟩ | ⟨rfl, he⟩
            · have e : s.put (some t) (bool true) = s := hps
              rw [e] at he
              exact step _ _ (.skip (by simp only [wantsAt, hgd, ht, hb]; rfl)) he
            · have e : s.put (some t) (bool false) = s := hps
              rw [e] at he
              exact hgo (by simp only [wantsAt, hgd, ht, hb]; rfl) he
        · rename_i hb
          exact step _ _ (.skip (by simp only [wantsAt, hgd, ht, hb])) he
        · cases he

/-! ### what they touch -/
variable {ops : List Oper} {o o' : Oper} {i i' : Nat} {s s' : St} {f f' : St → St} {t t' : Tr}

theorem Did.app (h : Did K ops o i s f t) (ha : t.all = false) : ∃ u : U, f = (fun s => s.app o.dst u) ∧ t = u.tr := by
  cases h with
  | skip _ => exact ⟨{ v := .un }, by funext s; rw [app_only], rfl⟩
  | loc u _ _ _ => exact ⟨u, rfl, rfl⟩
  | glob s' _ _ => simp [allTr] at ha

theorem Did.cases' (h : Did K ops o i s f t) : (∃ u : U, f = (fun s => s.app o.dst u) ∧ t = u.tr) ∨ ((∃ s', f = fun _ => s') ∧ t.all = true) := by
  cases h with
  | skip hw => exact .inl (Did.app (.skip (K := K) (i := i) hw) rfl)
  | loc u hw hg hu => exact .inl ⟨u, rfl, rfl⟩
  | glob s' _ _ => exact .inr ⟨⟨s', rfl⟩, rfl⟩

theorem app_tm (x : St) (dst : Option Tmp) (u : U) (j : Nat) : (x.app dst u).tm[j]? = if dst = some j then (x.tm[j]?).map (fun _ => u.v) else x.tm[j]? := by
  cases dst with
  | none => simp [St.app]
  | some d =>
    simp only [St.app, List.getElem?_set, Option.some.injEq]
    by_cases hd : d = j
    · subst hd
      simp only [if_true]
      split
      · rename_i hl; rw [List.getElem?_eq_getElem hl]; rfl
      · rename_i hl; rw [List.getElem?_eq_none (by omega)]; rfl
    · simp [hd]

theorem setBoxes_cong (l : List (Nat × D)) : (bx bx' : List (Option D)) → (b : Nat) → bx[b]? = bx'[b]? → (setBoxes bx l)[b]? = (setBoxes bx' l)[b]? := by
  induction l with
  | nil => intro bx bx' b h; exact h
  | cons p r ih =>
    intro bx bx' b h
    simp only [setBoxes]
    refine ih _ _ b ?_
    rw [List.getElem?_set, List.getElem?_set]
    have hl : p.1 = b → (p.1 < bx.length ↔ p.1 < bx'.length) := by
      rintro rfl
      constructor
      · intro h1
        rw [List.getElem?_eq_getElem h1] at h
        exact (List.getElem?_eq_some_iff.1 h.symm).1
      · intro h1
        rw [List.getElem?_eq_getElem h1] at h
        exact (List.getElem?_eq_some_iff.1 h).1
    by_cases hp : p.1 = b
    · simp only [hp, if_true]
      have := hl hp
      rw [hp] at this
      by_cases h1 : b < bx.length
      · simp [h1, this.1 h1]
      · simp [h1, show ¬ b < bx'.length from fun h2 => h1 (this.2 h2)]
    · simp [hp, h]

theorem Did.cong_tm (h : Did K ops o i s f t) (j : Nat) (x y : St) (hx : x.tm[j]? = y.tm[j]?) : (f x).tm[j]? = (f y).tm[j]? := by
  rcases h.cases' with ⟨u, rfl, _⟩ | ⟨⟨s', rfl⟩, _⟩
  · simp only [app_tm, hx]
  · rfl
theorem Did.cong_bx (h : Did K ops o i s f t) (j : Nat) (x y : St) (hx : x.bx[j]? = y.bx[j]?) : (f x).bx[j]? = (f y).bx[j]? := by
  rcases h.cases' with ⟨u, rfl, _⟩ | ⟨⟨s', rfl⟩, _⟩
  · exact setBoxes_cong _ _ _ _ hx
  · rfl
theorem Did.cong_mv (h : Did K ops o i s f t) (j : Nat) (x y : St) (hx : x.mv j = y.mv j) : (f x).mv j = (f y).mv j := by
  rcases h.cases' with ⟨u, rfl, _⟩ | ⟨⟨s', rfl⟩, _⟩
  · simp only [St.app, hx]
  · rfl
theorem Did.cong_fz (h : Did K ops o i s f t) (j : Nat) (x y : St) (hx : x.fz j = y.fz j) : (f x).fz j = (f y).fz j := by
  rcases h.cases' with ⟨u, rfl, _⟩ | ⟨⟨s', rfl⟩, _⟩
  · simp only [St.app, hx]
  · rfl

theorem Did.keep_tm (h : Did K ops o i s f t) (ha : t.all = false) (j : Nat) (hd : o.dst ≠ some j) (x : St) : (f x).tm[j]? = x.tm[j]? := by
  obtain ⟨u, rfl, _⟩ := h.app ha
  simp only [app_tm, hd, if_false]
theorem Did.keep_bx (h : Did K ops o i s f t) (ha : t.all = false) (j : Nat) (hd : j ∉ t.wb) (x : St) : (f x).bx[j]? = x.bx[j]? := by
  obtain ⟨u, rfl, rfl⟩ := h.app ha
  refine setBoxes_other _ _ _ fun d hd' => hd (List.mem_map.2 ⟨_, hd', rfl⟩)
theorem Did.keep_mv (h : Did K ops o i s f t) (ha : t.all = false) (j : Nat) (hd : j ∉ t.wf) (x : St) : (f x).mv j = x.mv j := by
  obtain ⟨u, rfl, rfl⟩ := h.app ha
  have : j ∉ u.mvs := fun hh => hd (List.mem_append_left _ hh)
  simp [St.app, this]
theorem Did.keep_fz (h : Did K ops o i s f t) (ha : t.all = false) (j : Nat) (hd : j ∉ t.wf) (x : St) : (f x).fz j = x.fz j := by
  obtain ⟨u, rfl, rfl⟩ := h.app ha
  have : j ∉ u.fzs := fun hh => hd (List.mem_append_right _ hh)
  simp [St.app, this]

theorem opG_base (hg : opG K o s some = some (some s')) : s'.base = s.base := by
  unfold opG at hg
  split at hg
  · split at hg
    · rename_i τ te xs g j p e0 v ht hev hx
      simp only [Option.some.injEq] at hg
      split at hg
      · rename_i id e hown hto
        split at hg
        · split at hg
          · split at hg
            · split at hg
              · rename_i s1 hs1
                cases hg
                rw [put_base, upd_base hs1]
              · cases hg
            · cases hg
          · obtain ⟨x0, hx0, hg⟩ := bnd_some hg
            have hq := putK_nat te x0 (List.replicate te.leaves .im) p e (fun y g => some (y, g)) (fun (q : te.den × List Tg) => match s.upd id te (fun zs => zs.set j q.1) (tgIds e.g) with
              | some s' => some (s'.put o.dst .un)
              | none => none)
            have hg := hq.symm.trans hg
            obtain ⟨⟨y, h'⟩, hy, hg⟩ := Option.bind_eq_some_iff.1 hg
            simp only at hg
            split at hg
            · rename_i s1 hs1
              cases hg
              rw [put_base, upd_base hs1]
            · cases hg
        · cases hg
      · cases hg
    · cases hg
  · split at hg
    · split at hg
      · simp only [Option.some.injEq] at hg
        split at hg
        · split at hg
          · split at hg
            · split at hg
              · rename_i s1 hs1
                cases hg
                rw [put_base, upd_base hs1]
              · cases hg
            · cases hg
          · cases hg
        · cases hg
      · simp only [Option.some.injEq] at hg
        split at hg
        · split at hg
          · split at hg
            · split at hg
              · cases hg
                rw [put_base]
              · cases hg
            · cases hg
          · cases hg
        · cases hg
      · cases hg
    · cases hg
  · cases hg

theorem Did.base (h : Did K ops o i s f t) {x : St} (hx : x.base = s.base) : (f x).base = s.base := by
  cases h with
  | skip _ => rw [put_base]; exact hx
  | loc u _ _ _ => exact hx
  | glob s' _ hg => exact opG_base hg

theorem opG_none_ev (h : ∀ x ∈ o.op.operands, s'.ev x = s.ev x) (hg : opG K o s some = none) : opG K o s' some = none := by
  obtain ⟨dst, op, type, pos, after, guard⟩ := o
  cases op <;> simp only [Op.operands] at h <;> simp only [opG] at hg ⊢
  case store t a x =>
    rw [h a (by simp), h x (by simp)]
    split at hg
    · cases hg
    · rfl
  case call cl =>
    split at hg
    · rename_i x y dT sT hc ha hat
      have hx : s'.ev x = s.ev x := h x (by simp only [Call.operands, Array.mem_append]; right; rw [← Array.mem_toList_iff, ha]; simp)
      have hy : s'.ev y = s.ev y := h y (by simp only [Call.operands, Array.mem_append]; right; rw [← Array.mem_toList_iff, ha]; simp)
      rw [hx, hy]
      split at hg
      · cases hg
      · cases hg
      · rfl
    · rfl

end
end Go.Proofs.Ytlehbecajmjgkaa.V
