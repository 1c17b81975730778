/- Part of a proof by a value interpreter: the operations of the whole frame, joined. -/
import Derived.Test.YtlehbecajmjgkaaWc
set_option linter.unusedVariables false
set_option linter.unusedSimpArgs false
namespace Go.Proofs.Ytlehbecajmjgkaa.V

theorem gsound {P : Program} {K : Cfg} (hK : TysOk P K) : GSound P K := by
  intro w0 M o s s' a w G h hg
  unfold opG at hg
  split at hg
  · rename_i t ad x ho
    split at hg
    · rename_i τ te xs g j p e0 v ht hev hx
      simp only [Option.some.injEq] at hg
      split at hg
      · rename_i id e hown hto
        split at hg
        · rename_i hc
          obtain ⟨hty, hids⟩ := hc
          have hel : ∃ x0, xs[j]? = some x0 := by
            have := h.ev ad
            rw [hev] at this
            obtain ⟨t', xs', tg, hd, b, o', len, cap, x1, n, hr, hx1, _⟩ := this
            cases hd
            exact ⟨x1, hx1⟩
          split at hg
          · split at hg
            · rename_i y hy
              split at hg
              · rename_i s1 hs1
                cases hg
                obtain ⟨x0, hx0⟩ := hel
                refine ⟨by rw [put_base, upd_base hs1], g_store hK h ho ht hev hx hown hto hty hids hx0 ⟨e.g, ?_⟩ hs1⟩
                rw [Ty.putK, hy]
              · cases hg
            · cases hg
          · obtain ⟨x0, hx0, hg⟩ := bnd_some hg
            have hq := putK_nat te x0 (List.replicate te.leaves .im) p e (fun y g => some (y, g)) (fun (q : te.den × List Tg) => match s.upd id te (fun zs => zs.set j q.1) (tgIds e.g) with
              | some s' => some (s'.put o.dst .un)
              | none => none)
            have hg := hq.symm.trans hg
            obtain ⟨⟨y, h'⟩, hy, hg⟩ := Option.bind_eq_some_iff.1 hg
            simp only at hg
            split at hg
            · rename_i s1 hs1
              cases hg
              exact ⟨by rw [put_base, upd_base hs1], g_store hK h ho ht hev hx hown hto hty hids hx0 ⟨h', hy⟩ hs1⟩
            · cases hg
        · cases hg
      · cases hg
    · cases hg
  · rename_i cl ho
    split at hg
    · rename_i x y dT sT hc ha hat
      split at hg
      · rename_i t xs g wv hx hy
        simp only [Option.some.injEq] at hg
        split at hg
        · rename_i hty
          split at hg
          · rename_i id d2 hown hto
            split at hg
            · rename_i ys has
              split at hg
              · rename_i s1 hs1
                cases hg
                exact ⟨by rw [put_base, upd_base hs1], g_copy hK h ho hc ha hat hty hx hy hown hto has hs1⟩
              · cases hg
            · cases hg
          · cases hg
        · cases hg
      · rename_i b wv hx hy
        simp only [Option.some.injEq] at hg
        split at hg
        · rename_i n t xs g hbox
          split at hg
          · rename_i hty
            split at hg
            · rename_i d2 hto
              split at hg
              · rename_i ys has
                cases hg
                exact ⟨by rw [put_base], g_copyBox hK h ho hc ha hat hty hx hy hbox hto has⟩
              · cases hg
            · cases hg
          · cases hg
        · cases hg
      · cases hg
    · cases hg
  · cases hg

end Go.Proofs.Ytlehbecajmjgkaa.V
