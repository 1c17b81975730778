/- Part of a proof by a value interpreter: regions. -/
import Derived.Test.YtlehbecajmjgkaaWh
set_option linter.unusedVariables false
set_option linter.unusedSimpArgs false
namespace Go.Proofs.Ytlehbecajmjgkaa.V

/-- how many are still to come -/
def cntF (listed : Array Bool) : Nat → Nat
  | 0 => 0
  | n + 1 => cntF listed n + if listed.getD n false then 0 else 1

theorem cntF_set (listed : Array Bool) (i : Nat) (hi : i < listed.size) (h0 : listed.getD i false = false) : (n : Nat) → cntF (listed.setIfInBounds i true) n + (if i < n then 1 else 0) = cntF listed n
  | 0 => rfl
  | n + 1 => by
    have ih := cntF_set listed i hi h0 n
    simp only [cntF]
    by_cases hin : i = n
    · subst hin
      simp only [Nat.lt_irrefl, if_false, Nat.add_zero] at ih
      rw [ih, h0]
      have : (listed.setIfInBounds i true).getD i false = true := by simp [hi]
      simp [this]
    · rw [getD_set_ne false hin]
      by_cases h : i < n
      · rw [if_pos h] at ih
        rw [if_pos (show i < n + 1 by omega)]
        omega
      · rw [if_neg h] at ih
        rw [if_neg (show ¬ i < n + 1 by omega)]
        omega

theorem cntF_zero (listed : Array Bool) : (n : Nat) → cntF listed n = 0 → ∀ k, k < n → listed.getD k false = true
  | 0, _, k, hk => by omega
  | n + 1, h, k, hk => by
    simp only [cntF] at h
    by_cases hkn : k = n
    · subst hkn
      cases hl : listed.getD k false with
      | true => rfl
      | false => simp [hl] at h
    · exact cntF_zero listed n (by omega) k (by omega)

section
variable {P : Program} {K : Cfg} {w0 : World} {M : Hx} {s0 : St} {a : Act} {w : World} {G : Gh} {Ω : Type} {ω : Ω}

theorem ev_of_tm {s s' : St} {x : Operand} {ops : List Oper} {o : Oper} (h : ∀ t ∈ opTmps ops o, s'.tm[t]? = s.tm[t]?) (hx : x ∈ o.op.operands) : s'.ev x = s.ev x := by
  cases x with
  | tmp t =>
    have := h t (List.mem_append_left _ (List.mem_filterMap.2 ⟨.tmp t, by simpa using hx, rfl⟩))
    simp only [St.ev, List.getD_eq_getElem?_getD, this]
  | const v => rfl
  | global g => rfl
  | func f => rfl

theorem wants_of_tm {s s' : St} {ops : List Oper} {o : Oper} (h : ∀ t ∈ opTmps ops o, s'.tm[t]? = s.tm[t]?) : wantsAt ops o s' = wantsAt ops o s := by
  unfold wantsAt
  split
  · rfl
  · rename_i j want hg
    split
    · rfl
    · rename_i t ht
      have := h t (List.mem_append_right _ (by rw [hg]; simp [ht]))
      rw [List.getD_eq_getElem?_getD, List.getD_eq_getElem?_getD, this]

theorem wanted_of (h : Inv K.el w0 M s0 a w G) {ops : Array Oper} {o : Oper} {b : Bool} (hw : wantsAt ops.toList o s0 = some b) : Region.wanted o (yielded ops a.tmps) = b := by
  unfold wantsAt at hw
  split at hw
  · rename_i hgd
    cases hw
    simp [Region.wanted, hgd]
  · rename_i j want hgd
    split at hw
    · cases hw
    · rename_i t ht
      obtain ⟨hy1, hy2⟩ := yielded_of h ht
      split at hw
      · rename_i c hb
        have hy := hy1 c _ hb
        cases hw
        simp [Region.wanted, hgd, hy]
      · rename_i hb
        have hy := hy2 hb
        cases hw
        simp [Region.wanted, hgd, hy]
      · cases hw

theorem accum_base {ops : List Oper} {fs : List (St → St)} {ts : List Tr} {n : Nat} (hdid : ∀ (k : Nat) (o : Oper), ops[k]? = some o → Did K ops o k (accum fs (fun _ => true) s0 k) (fs.getD k id) (ts.getD k noTr)) (hn : n ≤ ops.length) (A : Nat → Bool) : (accum fs A s0 n).base = s0.base := by
  have hlex : ∀ n, n ≤ ops.length → (accum fs (fun _ => true) s0 n).base = s0.base := by
    intro n
    induction n with
    | zero => intro _; rfl
    | succ n ih =>
      intro hn
      have := (hdid n _ (List.getElem?_eq_getElem (by omega))).base (x := accum fs (fun _ => true) s0 n) rfl
      simp only [accum, if_true]
      rw [this]
      exact ih (by omega)
  induction n with
  | zero => rfl
  | succ n ih =>
    simp only [accum]
    split
    · have h1 := ih (by omega)
      have := (hdid n _ (List.getElem?_eq_getElem (by omega))).base (x := accum fs A s0 n) (by rw [h1, hlex n (by omega)])
      rw [this, hlex n (by omega)]
    · exact ih (by omega)

theorem any_go (hK : TysOk P K) (hC : ConsOk P K) (hG : GSound P K) {ops : Array Oper} {Q : Exit → Act → World → Prop} {fs : List (St → St)} {ts : List Tr}
    (hdid : ∀ (k : Nat) (o : Oper), ops.toList[k]? = some o → Did K ops.toList o k (accum fs (fun _ => true) s0 k) (fs.getD k id) (ts.getD k noTr)) (hrf : raceFree ops.toList ts = true) (hqd : ∀ o ∈ ops.toList, ∀ d, o.dst = some d → M.q ≤ d)
    (hQ : ∀ a w G, Inv K.el w0 M (accum fs (fun _ => true) s0 ops.size) a w G → Q .normal a w) : ∀ (fuel : Nat) (listed : Array Bool) (a : Act) (w : World) (G : Gh), listed.size = ops.size →
    DoneOk ops.toList (fun k => listed.getD k false) → cntF listed ops.size ≤ fuel → Inv K.el w0 M (accum fs (fun k => listed.getD k false) s0 ops.size) a w G →
    (∀ k, k < ops.size → listed.getD k false = false → ∀ id, s0.base + 64 * k ≤ id → id < s0.base + 64 * (k + 1) → G.la id = none) → wpAny P .any ops Q fuel listed a w := by
  obtain ⟨hafter, hrace⟩ := raceFree_spec hrf
  have hlen : ops.toList.length = ops.size := by simp
  have hall : ∀ (listed : Array Bool) (a : Act) (w : World) (G : Gh), (∀ k, k < ops.size → listed.getD k false = true) → Inv K.el w0 M (accum fs (fun k => listed.getD k false) s0 ops.size) a w G → Q .normal a w := by
    intro listed a w G hl h
    refine hQ a w G ?_
    rw [accum_cong fs (fun _ => true) (fun k => listed.getD k false) s0 ops.size (fun k hk => (hl k hk).symm)]
    exact h
  have hgetD : ∀ (listed : Array Bool) k, listed.size = ops.size → k < ops.size → listed.getD k true = listed.getD k false := by
    intro listed k hs hk
    simp [hs, hk]
  have hnil : ∀ (listed : Array Bool), listed.size = ops.size → Region.ready .any ops listed = [] → ∀ k, k < ops.size → listed.getD k false = true := by
    intro listed hs hr k
    induction k using Nat.strongRecOn with
    | _ k ih =>
      intro hk
      cases hl : listed.getD k false with
      | true => rfl
      | false =>
        exfalso
        have : k ∈ Region.ready .any ops listed := by
          rw [mem_ready]
          refine ⟨by rw [hgetD listed k hs hk]; exact hl, ops[k], Array.getElem?_eq_getElem hk, fun e he hb => ?_⟩
          have := afterOk_get ops.toList 0 hafter k ops[k] (by simp [hk]) e he hb
          exact ih e.on (by omega) (by omega)
        rw [hr] at this
        simp at this
  intro fuel
  induction fuel with
  | zero =>
    intro listed a w G hs hD hcnt h hf
    have hl := cntF_zero listed ops.size (by omega)
    refine ⟨?_, hall listed a w G hl h⟩
    cases hr : Region.ready .any ops listed with
    | nil => rfl
    | cons i r =>
      have hi : i ∈ Region.ready .any ops listed := by rw [hr]; simp
      rw [mem_ready] at hi
      obtain ⟨h0, o, ho, _⟩ := hi
      have hlt : i < ops.size := (Array.getElem?_eq_some_iff.1 ho).1
      rw [hgetD listed i hs hlt, hl i hlt] at h0
      cases h0
  | succ fuel ih =>
    intro listed a w G hs hD hcnt h hf
    refine ⟨fun hr => hall listed a w G (hnil listed hs hr) h, fun i hi => ?_⟩
    rw [mem_ready] at hi
    obtain ⟨h0, o, ho, hedges⟩ := hi
    have hlt : i < ops.size := (Array.getElem?_eq_some_iff.1 ho).1
    rw [hgetD listed i hs hlt] at h0
    have hol : ops.toList[i]? = some o := by rw [Array.getElem?_toList]; exact ho
    have hdi := hdid i o hol
    have hget : ops.toList.getD i default = o := by rw [List.getD_eq_getElem?_getD, hol]; rfl
    -- who may change places with 'i'
    have hap : ∀ k ok, ops.toList[k]? = some ok → k ≠ i → (decide (k < i)) ≠ listed.getD k false → apartT ops.toList o ok = true ∧ ApartR (ts.getD i noTr) (ts.getD k noTr) := by
      intro k ok hok hne hdiff
      have hklt : k < ops.size := by rw [← hlen]; exact (List.getElem?_eq_some_iff.1 hok).1
      have hgk : ops.toList.getD k default = ok := by rw [List.getD_eq_getElem?_getD, hok]; rfl
      by_cases hki : k < i
      · have hDk : listed.getD k false = false := by
          cases hh : listed.getD k false with
          | false => rfl
          | true => rw [hh] at hdiff; simp [hki] at hdiff
        rcases hrace i k (by rw [hlen]; exact hlt) hki with hb | ⟨h1, h2⟩
        · have := befores_ok hD ops.toList [] (fun k => by simp) (fun k _ hk => by simp at hk) i o hol (fun e he hb => hedges e he hb) k hb
          rw [hDk] at this
          cases this
        · rw [hget, hgk] at h1
          exact ⟨h1, apartR_spec h2⟩
      · have hDk : listed.getD k false = true := by
          cases hh : listed.getD k false with
          | true => rfl
          | false => rw [hh] at hdiff; simp [hki] at hdiff
        rcases hrace k i (by rw [hlen]; exact hklt) (by omega) with hb | ⟨h1, h2⟩
        · have := befores_ok hD ops.toList [] (fun k => by simp) (fun k _ hk => by simp at hk) k ok hok (fun e he hb => hD k ok hok hDk e he hb) i hb
          rw [h0] at this
          cases this
        · rw [hget, hgk] at h1
          exact ⟨apartT_symm h1, (apartR_spec h2).symm⟩
    -- the two states agree on what 'i' looks at
    have hagree : ∀ {α : Type} (π : St → α), (∀ k ok, ops.toList[k]? = some ok → ∀ x y, π x = π y → π (fs.getD k id x) = π (fs.getD k id y)) →
        (∀ k ok, ops.toList[k]? = some ok → apartT ops.toList o ok = true → ApartR (ts.getD i noTr) (ts.getD k noTr) → ∀ x, π (fs.getD k id x) = π x) →
        π (accum fs (fun k => listed.getD k false) s0 ops.size) = π (accum fs (fun _ => true) s0 i) := by
      intro α π hcong hkeep
      rw [← accum_prefix fs s0 i ops.size (by omega)]
      refine (accum_agree π fs _ _ s0 ops.size (fun k hk _ _ => ?_) (fun k hk hdiff => ?_)).symm
      · exact hcong k _ (List.getElem?_eq_getElem (by simpa using hk))
      · have hok : ops.toList[k]? = some (ops.toList[k]'(by simpa using hk)) := List.getElem?_eq_getElem (by simpa using hk)
        by_cases hki : k = i
        · subst hki
          rw [h0] at hdiff
          simp at hdiff
        · obtain ⟨h1, h2⟩ := hap k _ hok hki hdiff
          exact hkeep k _ hok h1 h2
    have htm : ∀ t ∈ opTmps ops.toList o, (accum fs (fun k => listed.getD k false) s0 ops.size).tm[t]? = (accum fs (fun _ => true) s0 i).tm[t]? := by
      intro t ht
      refine hagree (fun s => s.tm[t]?) (fun k ok hok x y => (hdid k ok hok).cong_tm t x y) (fun k ok hok hT hR x => (hdid k ok hok).keep_tm hR.a2 t ?_ x)
      intro hd
      exact (apartT_spec hT).2.2 t hd ht
    have hbx : ∀ b, b ∈ (ts.getD i noTr).rb ∨ b ∈ (ts.getD i noTr).wb → (accum fs (fun k => listed.getD k false) s0 ops.size).box b = (accum fs (fun _ => true) s0 i).box b := by
      intro b hb
      have := hagree (fun s => s.bx[b]?) (fun k ok hok x y => (hdid k ok hok).cong_bx b x y) (fun k ok hok hT hR x => (hdid k ok hok).keep_bx hR.a2 b (by
        rcases hb with hb | hb
        · exact meet_false hR.rw b hb
        · exact meet_false hR.ww b hb) x)
      unfold St.box
      rw [this]
    have hmf : ∀ id, id ∈ (ts.getD i noTr).rf ∨ id ∈ (ts.getD i noTr).wf → (accum fs (fun k => listed.getD k false) s0 ops.size).mv id = (accum fs (fun _ => true) s0 i).mv id ∧ (accum fs (fun k => listed.getD k false) s0 ops.size).fz id = (accum fs (fun _ => true) s0 i).fz id := by
      intro j hj
      have hn : ∀ k, ApartR (ts.getD i noTr) (ts.getD k noTr) → j ∉ (ts.getD k noTr).wf := by
        intro k hR
        rcases hj with hj | hj
        · exact meet_false hR.frw j hj
        · exact meet_false hR.fww j hj
      exact ⟨hagree (fun s => s.mv j) (fun k ok hok x y => (hdid k ok hok).cong_mv j x y) (fun k ok hok hT hR x => (hdid k ok hok).keep_mv hR.a2 j (hn k hR) x),
        hagree (fun s => s.fz j) (fun k ok hok x y => (hdid k ok hok).cong_fz j x y) (fun k ok hok hT hR x => (hdid k ok hok).keep_fz hR.a2 j (hn k hR) x)⟩
    have hbase : (accum fs (fun k => listed.getD k false) s0 ops.size).base = s0.base := accum_base hdid (by simp) _
    have hbasei : (accum fs (fun _ => true) s0 i).base = s0.base := accum_base hdid (by simp; omega) _
    -- what comes behind it
    have hset : ∀ k, k ≠ i → (listed.setIfInBounds i true).getD k false = listed.getD k false := fun k hk => getD_set_ne false (Ne.symm hk)
    have hseti : (listed.setIfInBounds i true).getD i false = true := by simp [hs, hlt]
    have hins : accum fs (fun k => (listed.setIfInBounds i true).getD k false) s0 ops.size = fs.getD i id (accum fs (fun k => listed.getD k false) s0 ops.size) := by
      refine accum_insert fs _ _ s0 i h0 hseti hset ops.size hlt (fun k hik hk hDk x => ?_)
      have hok : ops.toList[k]? = some (ops.toList[k]'(by simpa using hk)) := List.getElem?_eq_getElem (by simpa using hk)
      obtain ⟨h1, h2⟩ := hap k _ hok (by omega) (by rw [hDk]; simp; omega)
      exact hdi.comm (hdid k _ hok) h1 h2 x
    have hnext : ∀ a' w' G', Inv K.el w0 M (fs.getD i id (accum fs (fun k => listed.getD k false) s0 ops.size)) a' w' G' → (∀ id, G'.la id ≠ none → G.la id ≠ none ∨ (s0.base + 64 * i ≤ id ∧ id < s0.base + 64 * (i + 1))) →
        wpAny P .any ops Q fuel (listed.setIfInBounds i true) a' w' := by
      intro a' w' G' h' hla
      refine ih _ a' w' G' (by simp [hs]) ?_ ?_ (by rw [hins]; exact h') ?_
      · intro k ok hok hDk e he hb
        simp only at hDk ⊢
        by_cases hki : k = i
        · subst hki
          rw [hol] at hok
          cases hok
          exact getD_set_true (hedges e he hb)
        · rw [hset k hki] at hDk
          exact getD_set_true (hD k ok hok hDk e he hb)
      · have := cntF_set listed i (by omega) h0 ops.size
        rw [if_pos hlt] at this
        omega
      · intro k hk hDk id hid1 hid2
        by_cases hki : k = i
        · subst hki
          rw [hseti] at hDk
          cases hDk
        · rw [hset k hki] at hDk
          by_cases hn : G'.la id = none
          · exact hn
          · rcases hla id hn with hh | hh
            · exact absurd (hf k hk hDk id hid1 hid2) hh
            · have : k < i ∨ i < k := by omega
              rcases this with h1 | h1
              · have := Nat.mul_le_mul_left 64 (show k + 1 ≤ i by omega)
                omega
              · have := Nat.mul_le_mul_left 64 (show i + 1 ≤ k by omega)
                omega
    have hfree : Free (accum fs (fun k => listed.getD k false) s0 ops.size) G i := by
      intro id h1 h2
      rw [hbase] at h1 h2
      exact hf i hlt h0 id h1 h2
    unfold wpOp
    rw [ho]
    simp only
    have hwants : wantsAt ops.toList o (accum fs (fun k => listed.getD k false) s0 ops.size) = wantsAt ops.toList o (accum fs (fun _ => true) s0 i) := wants_of_tm htm
    generalize hfi : fs.getD i id = fi at *
    generalize hti : ts.getD i noTr = ti at *
    generalize hsD : accum fs (fun k => listed.getD k false) s0 ops.size = sD at *
    generalize hsi : accum fs (fun _ => true) s0 i = si at *
    cases hdi with
    | skip hw =>
      rw [wanted_of h (hwants.trans hw)]
      simp only [Bool.false_eq_true, if_false]
      exact hnext _ w G (h.put (x := .un) (v := undef) rfl) (fun id hid => .inl hid)
    | loc u hw hg hu =>
      rw [wanted_of h (hwants.trans hw)]
      simp only [if_true]
      left
      have hev : ∀ x ∈ o.op.operands, sD.ev x = si.ev x := fun x hx => ev_of_tm htm hx
      have hu1 : opC K o i sD.base sD.ev sD.box sD.mv sD.fz some = some u := by
        rw [opC_ev o hev, hbase, ← hbasei]
        refine opC_loc o hu (fun b hb => hbx b hb) (fun id hid => hmf id ?_)
        rcases hid with hid | hid | hid
        · exact .inl hid
        · exact .inr (List.mem_append_left _ hid)
        · exact .inr (List.mem_append_right _ hid)
      refine opC_sound hK hC (hqd o (List.mem_of_getElem? hol)) h hfree hu1 _ _ (fun a' w' G' h' hla => hnext a' w' G' h' (fun id hid => ?_))
      have := hla id hid
      rw [hbase] at this
      exact this
    | glob s' hw hg =>
      -- nothing may change places with it
      have hsame : sD = si := by
        rw [← hsD, ← hsi, ← accum_prefix fs s0 i ops.size (by omega)]
        refine accum_cong _ _ _ _ _ (fun k hk => ?_)
        by_cases hd : decide (k < i) = listed.getD k false
        · exact hd.symm
        · have hok : ops.toList[k]? = some (ops.toList[k]'(by simpa using hk)) := List.getElem?_eq_getElem (by simpa using hk)
          by_cases hki : k = i
          · subst hki
            rw [h0] at hd
            simp at hd
          · have := (hap k _ hok hki hd).2.a1
            simp [allTr] at this
      rw [wanted_of h (hwants.trans hw)]
      simp only [if_true]
      left
      rw [← hsame] at hg
      obtain ⟨_, hgs⟩ := hG w0 M o _ s' a w G h hg
      exact hgs _ _ (fun a' w' G' h' hla => hnext a' w' G' h' (fun id hid => .inl (hla id hid)))

/-- the world's count of drawn answers is nobody's business -/
theorem Inv.drawn (h : Inv K.el w0 M s0 a w G) : Inv K.el w0 M s0 a { w with drawn := w.drawn + 1 } G := by
  have hk : Keeps w G { w with drawn := w.drawn + 1 } G K.el := keeps_of (fun k hk => ⟨rfl, hk⟩) (fun _ _ hq => hq) (fun id g n hq => ⟨rfl, rfl⟩) (fun _ _ _ hq => hq)
  exact
  { df := h.df
    len := h.len
    blen := h.blen
    tm := fun i x v h1 h2 => hk.rw' (h.tm i x v h1 h2)
    bx := by
      intro b' k' τ' hq
      obtain ⟨x', g', c', e', h1, h2, h3⟩ := h.bx b' k' τ' hq
      exact ⟨x', g', c', e', h1, h2, hk.rt h3⟩
    bn := h.bn
    lbi := h.lbi
    lbm := h.lbm
    lam := h.lam
    las := h.las
    imb := h.imb
    him := h.him
    hlb := h.hlb
    hnb := h.hnb
    fr := ⟨h.fr.os, h.fr.tape, h.fr.output, h.fr.size, h.fr.block⟩ }

/-- a region -/
theorem region_sound (hm : P.follows .mixedOrders = true) (hK : TysOk P K) (hC : ConsOk P K) (hG : GSound P K) {id : Nat} {ops : Array Oper} {draw : Bool} {Q : Exit → Act → World → Prop} {c : St → Option Ω}
    (h : Inv K.el w0 M s0 a w G) (hf : ∀ id, s0.base ≤ id → G.la id = none)
    (he : evOps K ops.toList ops.toList 0 s0 [] (fun s' tr => if draw then (if raceFree ops.toList tr.reverse then c s' else none) else c s') = some ω)
    (hqd : ∀ o ∈ ops.toList, ∀ d, o.dst = some d → M.q ≤ d) (hQ : ∀ s' a' w' G', Inv K.el w0 M s' a' w' G' → c s' = some ω → Q .normal a' w') : (Code.region id ops draw).wp P Q a w := by
  cases draw with
  | false =>
    refine wp_region_list (evOps_lex hK hC hG ops.toList 0 s0 a w G [] hqd h (fun id hid => hf id (by omega)) he (fun s' tr' a' w' G' h' hc => hQ s' a' w' G' h' hc))
  | true =>
    refine wp_region_any hm ?_
    obtain ⟨fs, ts, h1, h2, h3, h4⟩ := evOps_did _ _ _ _ he
    simp only [if_true] at h4
    split at h4
    · rename_i hrf
      simp only [List.append_nil, List.reverse_reverse] at hrf
      refine any_go hK hC hG (s0 := s0) (fs := fs) (ts := ts) (fun k o hk => by simpa using h3 k o hk) hrf hqd (fun a' w' G' h' => hQ _ a' w' G' h' (by simpa using h4)) ops.size _ a _ G (by simp) ?_ ?_ ?_ ?_
      · intro k o hk hD
        simp only [Array.getD_eq_getD_getElem?] at hD
        rw [Array.getElem?_replicate] at hD
        split at hD <;> simp at hD
      · have : ∀ (l : Array Bool) n, cntF l n ≤ n := by
          intro l n
          induction n with
          | zero => exact Nat.le_refl _
          | succ n ih => simp only [cntF]; split <;> omega
        exact this _ _
      · have hz : ∀ n, accum fs (fun k => (Array.replicate ops.size false).getD k false) s0 n = s0 := by
          intro n
          induction n with
          | zero => rfl
          | succ n ih =>
            simp only [accum]
            rw [if_neg, ih]
            simp only [Array.getD_eq_getD_getElem?]
            rw [Array.getElem?_replicate]
            split <;> simp
        rw [hz]
        exact h.drawn
      · intro k hk _ id h1 _
        exact hf id (by omega)
    · cases h4

end
end Go.Proofs.Ytlehbecajmjgkaa.V
