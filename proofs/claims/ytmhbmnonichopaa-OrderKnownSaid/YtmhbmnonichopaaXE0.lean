/-
  A function's run, told by the abstract machine, for a row.
-/
import Derived.Test.YtmhbmnonichopaaXD4
open Go.RowKit
namespace Go.Ax
variable {P : Program} {tbl : Nat → Option AFn}

/-- what is given with a call: rows that are not the callee's to write -/
structure Given (P : Program) (ι : Io) (h : H) (w : World) : Prop where
  s : RelS P w.heap.size ι h w
  mine : ∀ b x, h.get b = some x → x.mine = false

def H.nil : H := ⟨0, 0, .nil⟩
theorem Given.none (P : Program) (w : World) : Given P (fun _ => Option.none) H.nil w :=
  ⟨⟨(fun b x h => by cases h), (fun _ _ => rfl), (fun b b' x x' p p' h => by cases h), (fun b x h => by cases h)⟩, (fun b x h => by cases h)⟩

theorem ax_calls (hT : TblOk P tbl) (hm : P.follows .mixedOrders = true) {n : Nat} {g : FuncId} {args : List AV} {argsv : List Value} {ι : Io} {h : H} {w : World} {x : AV} {v : Value} (hx : ∀ (ι : Io) (u : Value), RelV ι x u → u = v) (hG : Given P ι h w) (ha : RelL ι args argsv)
    (hr : (callF tbl (exec tbl n) (.fn (.func g) [] []) args h).all fun r => r.1 = x) :
    Calls P g argsv.toArray w fun e w' => e = .returned v ∧ Below w.heap.size w w' := by
  obtain ⟨d, nx, h1, h2, h3, _⟩ := callSim hT (simC (base := w.heap.size) hT hm n) (.fn (.func g) [] []) args h (.func (.func g) #[] #[]) argsv ι w (fun v _ => v = x) hr hG.s (Nat.le_refl _) (.fn (.func g) rfl (by simp) rfl (by simp)) ha
  simp only [Deferred.ofValue, Array.empty_append, Sem.run_pure, Result.ok.injEq] at h1
  obtain ⟨rfl, _⟩ := h1
  -- what is invoked is the function itself
  have hnx : ∃ as, nx = .enter g as ∧ as = argsv.toArray := by
    simp only [invoke, Array.append_empty] at h2
    unfold callF at hr
    simp only at hr
    split at hr
    · exact hr.elim
    · rename_i fn hfn
      obtain ⟨fd, hfd, hcf⟩ := hT g fn hfn
      obtain ⟨c, rs, hbody, _, hname, _⟩ := compF_inv hcf
      rw [run_callFunc hfd hbody hname] at h2
      simp only [Result.ok.injEq] at h2
      exact ⟨_, h2.1.symm, rfl⟩
  obtain ⟨as, rfl, rfl⟩ := hnx
  have h4 : CallsIn Fence.wide 0 P g argsv.toArray w _ := h3 Option.none 0
  refine (callsIn_wide.1 h4).mono ?_
  rintro (u | ch | _) w' hR
  · obtain ⟨av, h', ι', rfl, hv, hS, st⟩ := hR
    refine ⟨by rw [hx _ _ hv], st.os.1, st.os.2.1, st.os.2.2, st.size, fun k hk => (st.fr k hk ?_).1⟩
    rintro ⟨b, x, p, hb, hmine, _, _⟩
    rw [hG.mine b x hb] at hmine
    cases hmine
  · exact hR.elim
  · exact hR.elim

theorem ax_true (hT : TblOk P tbl) (hm : P.follows .mixedOrders = true) {n : Nat} {g : FuncId} {args : List AV} {argsv : List Value} {ι : Io} {h : H} {w : World} (hG : Given P ι h w) (ha : RelL ι args argsv)
    (hr : (callF tbl (exec tbl n) (.fn (.func g) [] []) args h).all fun r => r.1 = .bool true) :
    Calls P g argsv.toArray w fun e w' => e = .returned (.bool true) ∧ Below w.heap.size w w' :=
  ax_calls hT hm (fun _ _ h => rel_boolV h) hG ha hr
end Go.Ax
