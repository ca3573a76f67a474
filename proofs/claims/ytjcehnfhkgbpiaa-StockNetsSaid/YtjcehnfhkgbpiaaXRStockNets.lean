/-
  The law StockNets: its walk, and its row. It returns true, whatever it is given, and leaves what it is given as it was.
-/
import Derived.Test.YtjcehnfhkgbpiaaXRG
import Derived.Test.YtjcehnfhkgbpiaaXRM
import Derived.Test.YtjcehnfhkgbpiaaRows
import Derived.WalkKit
import Derived.ProofKit
import Derived.OpenShut
import Derived.ShutString
import Derived.ChangeOld
import Derived.Below
import Derived.SizedLaws
import Derived.Carry
namespace Go.Proofs.Ytjcehnfhkgbpiaa.stockNets
open Go.ChangeShapes Go.WideShapes Go.ChangeAt Go.RowKit
set_option linter.unusedVariables false
set_option maxRecDepth 100000 in
theorem walk {H' : Type} {enc : TypeId × Value → H'} {W : World} {base : Nat} {v0 : Value} {d0 : DataW H'} {p0 : List MemPlace} (hv0 : Value.okWide Try.prog W .any base 24 v0) (h0 : DataW.Trod enc Try.prog W 0 (fun _ => true) true 24 v0 d0 p0) {v1 : Value} {d1 : DataW H'} {p1 : List MemPlace} (hv1 : Value.okWide Try.prog W .any base 25 v1) (h1 : DataW.Trod enc Try.prog W 0 (fun _ => true) true 25 v1 d1 p1) {v2 : Value} {d2 : DataW H'} {p2 : List MemPlace} (hv2 : Value.okWide Try.prog W .any base 26 v2) (h2 : DataW.Trod enc Try.prog W 0 (fun _ => true) true 26 v2 d2 p2) :
    Calls Try.prog 3 #[v0, v1, v2] W fun e w' => e = .returned (.bool true) ∧ Below W.heap.size W w' := by
  obtain ⟨T, sv, fs, rfl, hs, l1⟩ := Go.Ax.net_open hv0 h0
  obtain ⟨xs, hx, l2⟩ := Go.Ax.slice_open Try.underlying25 Try.underlying2 Go.Ax.one2 hv1 h1
  obtain ⟨l, hl, l3⟩ := Go.Ax.slice_open Try.underlying26 Try.underlying3 Go.Ax.one3 hv2 h2
  obtain ⟨ι, h, F, nv, G, _, x1, b1, c1, d1, _⟩ := (Go.Ax.GivenF.none Try.prog W).flows hs
  obtain ⟨ι2, h2', F2, xv, G2, s2, x2, b2, _, d2⟩ := G.ints hx
  obtain ⟨ι3, h3', F3, yv, G3, s3, x3, b3, _, d3⟩ := G2.ints hl
  exact Go.Ax.law_calls G3 (argsv := [_, _, _]) (.cons (((Go.Ax.net_rel b1 c1).ext x2).ext x3) (.cons (b2.ext x3) (.cons b3 .nil))) (Go.Ax.f3_ok ((d1.mono s2).mono s3) (Go.Ax.maxLen_lt l1) (d2.mono s3) (Go.Ax.maxLen_lt l2) d3 (Go.Ax.maxLen_lt l3))
theorem own : ownKnob Try.prog.godebug = none := by kernel_rfl
theorem laidOut : laidOutB Try.prog = true := by kernel_rfl
set_option maxRecDepth 100000 in
theorem lifted (os : Os) (started : os.Started) (H : Type) (enc : TypeId × Value → H) :
    ReturnsInHanded {} Try.checked os 3 .any (Rows.stockNetsSpec.pre6 enc Try.prog Try.f3 Rows.stockNetsRow.domain false) (Rows.stockNetsSpec.post enc Try.prog Try.f3 false true false false) := by
  refine returnsInHanded_of_change_sized (C := Try.checked) own started (by kernel_rfl) Try.func3
    (ChangeSpec.witness6 (enc := enc) (C := Try.checked) false ⟨#[], #[.agg #[.int .i64 0, .slice none 0 0], .slice none 0 0, .slice none 0 0], []⟩ 8 (by kernel_rfl) (by kernel_rfl) (by kernel_rfl) (by kernel_rfl)) ?_
  intro W base args ds gs before hval0 hW hcnd hsz0 _
  have hval : ∀ (j : Nat) t v, Try.f3.params[j]? = some t → args[j]? = some v → Value.okWide Try.prog W .any base t v := hval0
  have hW' := hW
  obtain ⟨p, q, hA0, hV, rfl, hfz, hnd⟩ := hW
  have hA : DataW.TrodAll enc Try.prog W 0 (fun _ => true) true Try.f3.params.toList args.toList ds p := hA0
  rw [Try.params3] at hA hval
  obtain ⟨v0, vs0, d0, ds0, p0, q0, hargs, rfl, rfl, h0, r0⟩ := trodAll_cons hA
  obtain ⟨v1, vs1, d1, ds1, p1, q1, rfl, rfl, rfl, h1, r1⟩ := trodAll_cons r0
  obtain ⟨v2, vs2, d2, ds2, p2, q2, rfl, rfl, rfl, h2, r2⟩ := trodAll_cons r1
  obtain ⟨rfl, rfl, rfl⟩ := trodAll_nil r2
  obtain rfl : args = #[v0, v1, v2] := by cases args; simp_all
  obtain ⟨rfl, rfl⟩ := trodVars_none hV
  have lt0 : ∀ x ∈ p0, x.block < W.heap.size := by obtain ⟨m, hm⟩ := h0; exact DataW.trod_lt m _ _ _ hm
  have lt1 : ∀ x ∈ p1, x.block < W.heap.size := by obtain ⟨m, hm⟩ := h1; exact DataW.trod_lt m _ _ _ hm
  have lt2 : ∀ x ∈ p2, x.block < W.heap.size := by obtain ⟨m, hm⟩ := h2; exact DataW.trod_lt m _ _ _ hm
  clear hA0 hval0 hsz0
  refine (walk (hval 0 24 v0 rfl rfl) h0 (hval 1 25 v1 rfl rfl) h1 (hval 2 26 v2 rfl rfl) h2).mono fun e W' ⟨he, bel⟩ => ?_
  subst he
  exact ⟨_, rfl, _, _, _, [], _, [], hW', trodAll_mk1 (shut_bool Try.underlying4 _), (trodAll_cons_mk (Below.trod laidOut (by kernel_rfl) (of_decide_eq_true (by kernel_rfl)) h0 bel lt0) (trodAll_cons_mk (Below.trod laidOut (by kernel_rfl) (of_decide_eq_true (by kernel_rfl)) h1 bel lt1) (trodAll_cons_mk (Below.trod laidOut (by kernel_rfl) (of_decide_eq_true (by kernel_rfl)) h2 bel lt2) trodAll_mk0))), rfl, bel.frame _, fun h => by cases h⟩
theorem over : Rows.stockNetsRow.holds Try.pinned (OpenSpec.ofChange Rows.stockNetsSpec) :=
  OpenClaim.holds_of_wide 3 Try.f3 rfl rfl rfl rfl rfl rfl rfl ⟨rfl, rfl, rfl, rfl, rfl⟩ rfl rfl rfl rfl rfl (by kernel_rfl) Try.func3 (by kernel_rfl)
    (of_decide_eq_true (by kernel_rfl)) (by unfold Func.isWrapper; first | (rw [if_pos (by decide +kernel)]; kernel_rfl) | (rw [if_neg (by decide +kernel)]; exact ⟨rfl, rfl⟩))
    (fun os started H enc _ => lifted os started H enc)
theorem proved : Rows.StockNetsSaid := over
end Go.Proofs.Ytjcehnfhkgbpiaa.stockNets
namespace Go.Proofs.Ytjcehnfhkgbpiaa
theorem stockNets_holds : Rows.StockNetsSaid := stockNets.proved
end Go.Proofs.Ytjcehnfhkgbpiaa
