/- Plain law: a block has the root of its transactions, and is read as it was. -/
import Derived.Test.YtlehbecajmjgkaaPi
set_option linter.unusedVariables false
set_option linter.unusedSimpArgs false
namespace Go.Proofs.Ytlehbecajmjgkaa.Pure
open Go Go.Proofs.Ytlehbecajmjgkaa.V Go.Proofs.Ytlehbecajmjgkaa.F Go.Proofs.Ytlehbecajmjgkaa.P

theorem FnBlock (l : List UInt8) : F.laws_FnBlock l = some ((true, ()), ()) := by
  unfold laws_FnBlock
  by_cases h0 : (1048576 : Int) < (l.length : Int)
  · rw [lt_t h0]; rfl
  rw [lt_f h0, br_false]
  have hl : l.length ≤ 1048576 := by omega
  obtain ⟨lim, e1, k1⟩ := makeLimits_ok l hl
  obtain ⟨txs, e2, t1, t2, t3⟩ := makeList_ok l hl
  obtain ⟨l0, tab, e3, k3⟩ := makeTable_ok l hl
  obtain ⟨hash, e4, hh⟩ := makeHash_ok l hl 1
  rw [e1, e2, e3, e4]
  simp only [P.bnd_some]
  have hT := k3.n
  have hn5 := k3.n5
  have hn1 := k3.lim.n
  have hb : belB ((tab.1.length : Int), (40, (8, lim.2.2.2))) tab = true := by
    unfold belB
    rw [Bool.and_eq_true, Bool.and_eq_true]
    refine ⟨(limB_iff _).2 ⟨by simp only; omega, by simp only; omega, by simp only; omega, by have := k1.frame; simp only; omega, k1.heads⟩, ?_, by simp⟩
    unfold tabB
    rw [Bool.and_eq_true, List.all_eq_true, Bool.and_eq_true, leB_iff, leB_iff]
    refine ⟨fun r hr => ?_, by omega, by omega⟩
    have := k3.rows r hr
    unfold RowOk at this
    unfold rowB
    simp only [Bool.and_eq_true, leB_iff]
    omega
  have hsm : Sm tab.1 := by unfold Sm; omega
  rw [first_eq _ tab 5 hash hsm hb (by decide) hh]
  simp only [P.bnd_some, Bool.not_true, br_false]
  have hlim : limB ((tab.1.length : Int), (40, (8, lim.2.2.2))) = true := by unfold belB at hb; rw [Bool.and_eq_true] at hb; exact hb.1
  have hls : LeafSm txs := fun x hx => by have := t3 x hx; omega
  have hHs : HeadSm (firstHead 5 hash (tab.1.length : Int)) := firstHead_sm 5 hash _ (by omega) (by unfold Sm; omega)
  by_cases h8 : txs.length ≤ 8
  · have hok : blockB ((tab.1.length : Int), (40, (8, lim.2.2.2))) (withRoot (firstHead 5 hash (tab.1.length : Int)) (treeRoot txs), (txs, ())) = true := by
      unfold blockB
      simp only [Bool.and_eq_true, List.all_eq_true, leB_iff]
      refine ⟨fun x hx => by have := t3 x hx; omega, ?_, by omega, eq_t rfl⟩
      exact firstHead_ok _ 5 (treeRoot txs) hlim (by decide) (tree_len txs hls)
    rw [blockOf_few _ _ txs hHs hls h8, hok]
    simp only [P.bnd_some, if_true]
    rw [le_t (show (txs.length : Int) ≤ 8 by omega)]
    simp only [beq_self_eq_true, Bool.not_true, br_false]
    obtain ⟨s, e5, hst⟩ := stackOf_ok txs (by omega) hls
    rw [e5]
    simp only [P.bnd_some]
    have hbo := blockOk_eq ((tab.1.length : Int), (40, (8, lim.2.2.2))) (withRoot (firstHead 5 hash (tab.1.length : Int)) (treeRoot txs), (txs, ())) (withRoot_sm hHs (by unfold Sm; rw [tree_len txs hls]; decide)) (show Sm txs by unfold Sm; omega) hls
    rw [hok] at hbo
    unfold impl_BlockPath
    rw [hbo]
    simp only [P.bnd_some, Bool.not_true, br_false, br_true]
    have hp := path_eq txs 0 (by omega) hls (by omega)
    have hp' : impl_PathOf txs 0 = some ((path txs 0, (true, ())), ()) := hp
    rw [hp']
    simp only [P.bnd_some, br_true]
    rw [stackRoot_ok s txs hst (by omega) hls (by omega)]
    simp only [P.bnd_some, same_eq]
    rw [eq_t (show (withRoot (firstHead 5 hash (tab.1.length : Int)) (treeRoot txs)).2.2.2.2.1 = treeRoot txs from rfl), br_true]
    have hx0 : txs[0]? = some (txs.getD 0 []) := by rw [List.getD_eq_getElem?_getD, List.getElem?_eq_getElem (by omega)]; rfl
    rw [bIdx_ok (by decide) hx0]
    simp only [P.bnd_some]
    have hk := pathOk_eq txs 0 (by omega) hls (by omega)
    have hk' : impl_PathOk (txs.getD 0 []) 0 (txs.length : Int) (path txs 0) (withRoot (firstHead 5 hash (tab.1.length : Int)) (treeRoot txs)).2.2.2.2.1 = some ((true, ()), ()) := hk
    rw [hk']
    rfl
  · rw [blockOf_many _ _ txs hHs hls (by omega) (by unfold Sm; omega) (by simp)]
    simp only [P.bnd_some]
    rw [le_f (show ¬ (txs.length : Int) ≤ 8 by omega)]
    rfl

end Go.Proofs.Ytlehbecajmjgkaa.Pure
