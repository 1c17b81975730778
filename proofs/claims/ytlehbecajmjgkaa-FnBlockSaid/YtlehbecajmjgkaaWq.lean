/- Part of a proof by a value interpreter: a law, a function of bytes that answers one bool, called from outside. -/
import Derived.Test.YtlehbecajmjgkaaWp
import Derived.Below
set_option linter.unusedVariables false
set_option linter.unusedSimpArgs false
namespace Go.Proofs.Ytlehbecajmjgkaa.V
open Go.RowKit (Below)

/-- a row of bytes in memory -/
def IsRow (k : IntKind) (w : World) (a : Option Addr) (len cap : Nat) (zs : List Int) : Prop :=
  (a = none ∧ len = 0 ∧ cap = 0 ∧ zs = []) ∨
  ∃ x, a = some x ∧ len ≤ cap ∧ cap ≤ maxLen ∧ zs.length = cap ∧ (∀ i, i < zs.length → w.cell? (x.add i) = some (.int k (zs.getD i 0))) ∧ ∀ n ∈ zs, (Lit.int k n).wf = true

theorem law_rep {w : World} {a : Option Addr} {len cap : Nat} {z : List Int} (h : IsRow .u8 w a len cap z) (hb : ∀ x, a = some x → x.spot = none ∧ ∃ c e fz, w.heap[x.block]? = some (.cells c e fz)) :
    RepIm w (fun k => ∃ x, a = some x ∧ x.block = k) (.sl (.int .u8)) ((z.take len).map fun n => UInt8.ofNat n.toNat) [.slice a len cap] := by
  simp only [RepIm]
  rcases h with ⟨rfl, rfl, rfl, rfl⟩ | ⟨x, rfl, h1, h2, h3, h4, h5⟩
  · exact ⟨none, 0, by simp, .inl ⟨rfl, by simp, rfl⟩⟩
  · obtain ⟨hs, c, e, fz, hc⟩ := hb x rfl
    obtain ⟨b, off, sp⟩ := x
    simp only at hs
    subst hs
    have hl : ((z.take len).map fun n => UInt8.ofNat n.toNat).length = len := by simp; omega
    have hcell : ∀ i, i < z.length → c[off + i]? = some (.int .u8 (z.getD i 0)) := by
      intro i hi
      have := h4 i hi
      rw [Addr.add_lit, cell_of_row w b (off + i) c e fz hc] at this
      exact this
    refine ⟨some ⟨b, off, none⟩, cap, by rw [hl], .inr ⟨b, off, c, e, fz, rfl, ⟨_, rfl, rfl⟩, by rw [hl]; exact h1, hc, fun h0 => ?_, fun i y hy => ?_⟩⟩
    · rw [hl] at h0 ⊢
      have := hcell (len - 1) (by omega)
      have := (Array.getElem?_eq_some_iff.1 this).1
      simp only [Ty.size]
      omega
    · have hi : i < len := by have := (List.getElem?_eq_some_iff.1 hy).1; omega
      rw [List.getElem?_map, List.getElem?_take, if_pos hi] at hy
      obtain ⟨n, hn, rfl⟩ := Option.map_eq_some_iff.1 hy
      have hz : z.getD i 0 = n := by rw [List.getD_eq_getElem?_getD, hn]; rfl
      have hwf := h5 n (List.mem_of_getElem? hn)
      have hr : 0 ≤ n ∧ n < 256 := by
        simp [Lit.wf, IntKind.min, IntKind.max, IntKind.signed, IntKind.bits] at hwf
        omega
      have hk : toI .u8 (UInt8.ofNat n.toNat) = n := by
        show ((UInt8.ofNat n.toNat).toNat : Int) = n
        rw [UInt8.toNat_ofNat']
        omega
      have hci := hcell i (by omega)
      simp only [Ty.size]
      rw [hk]
      unfold seg
      have hlt : off + i < c.toList.length := by have := (Array.getElem?_eq_some_iff.1 hci).1; simpa using this
      rw [List.drop_drop, Nat.mul_one, List.drop_eq_getElem_cons hlt]
      simp only [List.take_succ_cons, List.take_zero, List.cons.injEq, and_true]
      rw [hz] at hci
      have := (Array.getElem?_eq_some_iff.1 hci).2
      simpa using this

theorem law_walk {P : Program} {el : Ty → TypeId} {f : FuncId} {g : List UInt8 → Option (RDen [.val .bool []] × BDen [.val (.sl (.int .u8))])}
    (h : (mkCon [.val (.sl (.int .u8))] [.val .bool []] (fun a => g a.1)).Holds P el f) (hg : ∀ l, g l = some ((true, ()), ())) {a : Option Addr} {len cap : Nat} {z : List Int} {w : World} (hrow : IsRow .u8 w a len cap z)
    (hb : ∀ x, a = some x → x.spot = none ∧ ∃ c e fz, w.heap[x.block]? = some (.cells c e fz)) : Calls P f #[.slice a len cap] w fun e w' => e = .returned (.bool true) ∧ Below w.heap.size w w' := by
  have hrep := law_rep hrow hb
  generalize hl : (z.take len).map (fun n => UInt8.ofNat n.toNat) = l at hrep
  let G : Gh := { lb := fun _ => none, la := fun _ => none, sz := fun _ => 0, im := fun k => ∃ x, a = some x ∧ x.block = k }
  let M : Hx := { m := fun _ => False, i0 := G.im, lb0 := fun _ => none, q := 1 }
  have hinv : Inv el w M (St0 [.val (.sl (.int .u8))] (l, ())) ⟨#[.slice a len cap], []⟩ w G :=
    { df := rfl
      len := rfl
      blen := rfl
      tm := by
        intro i x v hx hv
        cases i with
        | zero =>
          simp [St0, inTm] at hx hv
          subst hx
          subst hv
          exact ⟨[.slice a len cap], by simp [ofCells, Ty.isAgg], RepIm.toT (G := G) hrep⟩
        | succ i => simp [St0, inTm] at hx
      bx := fun b k τ hq => by cases hq
      bn := by
        intro b _
        cases b with
        | zero => rfl
        | succ b => simp [St0, St.box, inBx]
      lbi := fun b b' k τ τ' h1 => by cases h1
      lbm := fun b k τ h1 => by cases h1
      lam := fun i k n h1 => by cases h1
      las := fun i j k n m h1 => by cases h1
      imb := by
        rintro k ⟨x, hx, rfl⟩
        obtain ⟨_, c, e, fz, hc⟩ := hb x hx
        exact (Array.getElem?_eq_some_iff.1 hc).1
      him := fun k hk => .inl hk
      hlb := fun b _ => .inl rfl
      hnb := fun b k τ _ hq => by cases hq
      fr := Fr.refl w _ }
  have hx : HxOk M G [.val (.sl (.int .u8))] := ⟨rfl, fun _ hk => hk, fun _ hk => hk.elim⟩
  refine (h.2 (l, ()) _ w M G hx hinv (true, ()) () (hg l)).mono ?_
  rintro e w' ⟨rs, G', hrs, rfl, hp⟩
  have hrs1 : rs.size = 1 := hrs
  have h0 := hp.inv.tm 1 (.one (.dat ⟨.bool, true, []⟩)) rs[0] rfl (by
    rw [Array.getElem?_append_right (by simp)]
    simp [hrs1])
  have h0 := rep_dat_bool h0
  have hf := hp.inv.fr
  refine ⟨by unfold packR; rw [dif_pos hrs1, h0], hf.os, hf.tape, hf.output, hf.size, fun k hk => hf.block k hk (fun hh => hh)⟩

end Go.Proofs.Ytlehbecajmjgkaa.V
