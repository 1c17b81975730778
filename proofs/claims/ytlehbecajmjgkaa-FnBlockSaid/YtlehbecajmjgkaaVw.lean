/- Part of a proof by a value interpreter: calls, joined; all operations that are not of the whole frame. -/
import Derived.Test.YtlehbecajmjgkaaVu
set_option linter.unusedVariables false
set_option linter.unusedSimpArgs false
namespace Go.Proofs.Ytlehbecajmjgkaa.V

section
variable {P : Program} {K : Cfg} {w0 : World} {M : Hx} {o : Oper} {i : Nat} {s : St} {a : Act} {w w' : World} {G : Gh} {u : U}

/-- every contract is kept -/
def ConsOk (P : Program) (K : Cfg) : Prop := ∀ f cn, K.con f = some cn → cn.Holds P K.el f

theorem s_call {cl : Call} {fo : Operand} (hqd : ∀ d, o.dst = some d → M.q ≤ d) (hC : ConsOk P K) (h : Inv K.el w0 M s a w G) (hf : Free s G i) (ho : o.op = .call cl) (hc : cl.callee = .value fo) (hu : opC K o i s.base s.ev s.box s.mv s.fz some = some u) : OpGoal P K.el w0 M o i s a w G (s.app o.dst u) := by
  simp only [opC, ho, hc] at hu
  have hfo := h.ev fo
  split at hu
  · rename_i f hev
    rw [hev] at hfo
    have hfv : a.eval fo = .func (.func f) #[] #[] := hfo
    split at hu
    · rename_i cn hcn
      obtain ⟨⟨fn, hfn, hname, hbody⟩, hholds⟩ := hC f cn hcn
      unfold callK at hu
      split at hu
      · cases hu
      · rename_i y hy
        simp only at hu
        split at hu
        · rename_i hcond
          simp only [Bool.and_eq_true, decide_eq_true_eq] at hcond
          obtain ⟨⟨⟨⟨⟨hgave, h64⟩, hmv⟩, hno⟩, hsim⟩, hnb⟩ := hcond
          rw [cn.ok] at hu
          obtain ⟨r, hr, hu⟩ := Option.bind_eq_some_iff.1 hu
          simp only [Option.some.injEq] at hu
          subst hu
          have hl : (cl.args.toList.map s.ev).length = (cl.args.toList.map a.eval).length := by simp
          have hrep : ∀ (j : Nat) (x : W) (v : Value), (cl.args.toList.map s.ev)[j]? = some x → (cl.args.toList.map a.eval)[j]? = some v → RepW w G K.el x v := by
            intro j x v h1 h2
            rw [List.getElem?_map] at h1 h2
            obtain ⟨z, hz, rfl⟩ := Option.map_eq_some_iff.1 h1
            rw [hz] at h2
            cases h2
            exact h.ev z
          obtain ⟨hpre, _⟩ := call_pre h hy hno hl hrep
          have hx : HxOk (lentM G cn.ins y.lent y.bxs) (calleeG G (lentIm G y.lent) (lentLb G cn.ins y.bxs)) cn.ins := by
            refine ⟨rfl, fun k hk => hk, fun k hk => .inl ?_⟩
            obtain ⟨b, hb, τ, hq⟩ := hk
            obtain ⟨n, hn⟩ := posBox_surj cn.ins y.bxs (argsOf_cnt cn.ins _ y hy) b hb
            refine ⟨n, τ, ?_⟩
            show lentLb G cn.ins y.bxs n = _
            unfold lentLb
            rw [hn]
            exact hq
          have hcalls := hholds y.a _ w _ _ hx hpre r.1 r.2 hr
          intro next Q hn
          have hrun : (execOp a.eval o).run P w = .ok (.enter f (cl.args.toList.map a.eval).toArray) w := by
            have e : (cl.args.toList.map a.eval).toArray = cl.args.map a.eval := by rw [← Array.toList_map]
            rw [e]
            have hn2 : ¬ fn.name = "runtime.NumGoroutine" := by simpa using hname
            have hb2 : ¬ fn.body = none := by
              intro hh; rw [hh] at hbody; cases hbody
            simp [execOp, ho, resolve, hc, hfv, Deferred.ofValue, invoke, callFunc, hfn, hn2, hb2]
          unfold Oper.wp
          rw [hrun]
          simp only [Oper.upon]
          refine hcalls.mono fun e w' hpost => ?_
          obtain ⟨rs, G1, hrs, rfl, hp⟩ := hpost
          have hcame := came h hy hl hno hrep hp
          have hpure : (cn.outs.all RTy.pure && cn.ins.all ATy.pure) = true → cn.outs.all RTy.pure = true ∧ cn.ins.all ATy.pure = true := by
            intro hh; rw [Bool.and_eq_true] at hh; exact hh
          have hmv' : (cn.outs.all RTy.pure && cn.ins.all ATy.pure) = true ∨ y.lent.any s.mv = false := by
            simp only [Bool.or_eq_true] at hmv
            rcases hmv with hh | hh
            · exact .inl hh
            · exact .inr (by simpa using hh)
          obtain ⟨G', hi', hfresh⟩ := call_post (pure := cn.outs.all RTy.pure && cn.ins.all ATy.pure) hqd h hf hy hl hno hrep hrs hpure hmv' h64 hsim hnb hcame
          exact hn _ _ G' hi' hfresh
        · cases hu
    · cases hu
  · cases hu

/-- an operation with nothing to do with others -/
theorem opC_sound (hK : TysOk P K) (hC : ConsOk P K) (hqd : ∀ d, o.dst = some d → M.q ≤ d) (h : Inv K.el w0 M s a w G) (hf : Free s G i) (hu : opC K o i s.base s.ev s.box s.mv s.fz some = some u) : OpGoal P K.el w0 M o i s a w G (s.app o.dst u) := by
  have hu' := hu
  unfold opC at hu'
  split at hu'
  · exact s_move h (by assumption) hu
  · exact s_assign h (by assumption) hu
  · exact s_pick h (by assumption) hu
  · exact s_alloc hK hqd h (by assumption) hu
  · exact s_box hqd h (by assumption) hu
  · exact s_build hK h (by assumption) hu
  · exact s_buildSlice hK h hf (by assumption) hu
  · exact s_load hK h (by assumption) hu
  · exact s_store hK h (by assumption) hu
  · exact s_nilCheck h (by assumption) hu
  · exact s_binOp hK h (by assumption) hu
  · exact s_unOp h (by assumption) hu
  · exact s_convert hK h (by assumption) hu
  · exact s_makeSlice hK h hf (by assumption) hu
  · exact s_slice hK h (by assumption) hu
  · exact s_fieldAddr hK h (by assumption) hu
  · exact s_field hK h (by assumption) hu
  · exact s_indexAddr hK h (by assumption) hu
  · exact s_index hK h (by assumption) hu
  · exact s_extract h (by assumption) hu
  · rename_i cl ho
    split at hu'
    · exact s_len hK h ho (by assumption) hu
    · exact s_min h ho (by assumption) hu
    · exact s_append hK h hf ho (by assumption) hu
    · exact s_call hqd hC h hf ho (by assumption) hu
    · cases hu'
  · cases hu'

end
end Go.Proofs.Ytlehbecajmjgkaa.V
