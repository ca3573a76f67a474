/-
  The law OrderKept: its walk, and its row. It returns true, whatever it is given, and leaves what it is given as it was.
-/
import Derived.Test.YtmhbmnonichopaaXG4
import Derived.Test.YtmhbmnonichopaaXP7d
import Derived.Test.YtmhbmnonichopaaRows
import Derived.WalkKit
import Derived.ProofKit
import Derived.OpenShut
import Derived.ShutString
import Derived.ChangeOld
import Derived.Below
import Derived.SizedLaws
import Derived.Carry
namespace Go.Proofs.Ytmhbmnonichopaa.orderKept
open Go.ChangeShapes Go.WideShapes Go.ChangeAt Go.RowKit
set_option linter.unusedVariables false
set_option maxRecDepth 100000 in
theorem walk {H' : Type} {enc : TypeId × Value → H'} {W : World} {base : Nat} {v0 : Value} {d0 : DataW H'} {p0 : List MemPlace} (hv0 : Value.okWide Try.prog W .any base 27 v0) (h0 : DataW.Trod enc Try.prog W 0 (fun _ => true) true 27 v0 d0 p0) {v1 : Value} {d1 : DataW H'} {p1 : List MemPlace} (hv1 : Value.okWide Try.prog W .any base 51 v1) (h1 : DataW.Trod enc Try.prog W 0 (fun _ => true) true 51 v1 d1 p1) {v2 : Value} {d2 : DataW H'} {p2 : List MemPlace} (hv2 : Value.okWide Try.prog W .any base 52 v2) (h2 : DataW.Trod enc Try.prog W 0 (fun _ => true) true 52 v2 d2 p2) {v3 : Value} {d3 : DataW H'} {p3 : List MemPlace} (hv3 : Value.okWide Try.prog W .any base 28 v3) (h3 : DataW.Trod enc Try.prog W 0 (fun _ => true) true 28 v3 d3 p3) :
    Calls Try.prog 7 #[v0, v1, v2, v3] W fun e w' => e = .returned (.bool true) ∧ Below W.heap.size W w' := by
  obtain ⟨k, sv', cv', rfl, hs, hc, l1, l2⟩ := Go.Ax.kind_open hv0 h0
  obtain ⟨xs, hx, l3, hn⟩ := Go.Ax.nums_open (by decide) (fun _ => Go.Ax.u8_wf) Try.underlying51 Try.underlying5 Go.Ax.one5 hv1 h1
  obtain ⟨zs, hz, l5, hn2⟩ := Go.Ax.nums_open (by decide) (fun _ => Go.Ax.u32_wf) Try.underlying52 Try.underlying58 Go.Ax.one58 hv2 h2
  obtain ⟨ys, hy, l4⟩ := Go.Ax.slice_open Try.underlying28 Try.underlying3 Go.Ax.one3 hv3 h3
  obtain ⟨ι, h, F, sv, cv, G, hk, hr⟩ := Go.Ax.kind_given hs hc l1 l2
  obtain ⟨ι2, h2', F2, pv, G2, s2, x2, b2, _, d2⟩ := G.nums hx
  obtain ⟨ι3, h3', F3, wv, G3, s3, x3, b3, _, d3⟩ := G2.nums hz
  obtain ⟨ι4, h4', F4, gv, G4, s4, x4, b4, _, d4⟩ := G3.ints hy
  exact Go.Ax.law_calls G4 (argsv := [_, _, _, _]) (.cons (((hr.ext x2).ext x3).ext x4) (.cons ((b2.ext x3).ext x4) (.cons (b3.ext x4) (.cons b4 .nil)))) (Go.Ax.f7_ok (((hk.mono s2).mono s3).mono s4) ⟨(d2.mono s3).mono s4, Go.Ax.maxLen_lt l3, hn⟩ ⟨d3.mono s4, Go.Ax.maxLen_lt l5, hn2⟩ d4 (Go.Ax.maxLen_lt l4))
theorem own : ownKnob Try.prog.godebug = none := by kernel_rfl
theorem laidOut : laidOutB Try.prog = true := by kernel_rfl
set_option maxRecDepth 100000 in
theorem lifted (os : Os) (started : os.Started) (H : Type) (enc : TypeId × Value → H) :
    ReturnsInHanded {} Try.checked os 7 .any (Rows.orderKeptSpec.pre6 enc Try.prog Try.f7 Rows.orderKeptRow.domain false) (Rows.orderKeptSpec.post enc Try.prog Try.f7 false true false false) := by
  refine returnsInHanded_of_change_sized (C := Try.checked) own started (by kernel_rfl) Try.func7
    (ChangeSpec.witness6 (enc := enc) (C := Try.checked) false ⟨#[], #[.agg #[.int .i64 0, .int .i64 0, .int .i64 0, .int .i64 0, .int .i64 0, .slice none 0 0, .slice none 0 0], .slice none 0 0, .slice none 0 0, .slice none 0 0], []⟩ 8 (by kernel_rfl) (by kernel_rfl) (by kernel_rfl) (by kernel_rfl)) ?_
  intro W base args ds gs before hval0 hW hcnd hsz0 _
  have hval : ∀ (j : Nat) t v, Try.f7.params[j]? = some t → args[j]? = some v → Value.okWide Try.prog W .any base t v := hval0
  have hW' := hW
  obtain ⟨p, q, hA0, hV, rfl, hfz, hnd⟩ := hW
  have hA : DataW.TrodAll enc Try.prog W 0 (fun _ => true) true Try.f7.params.toList args.toList ds p := hA0
  rw [Try.params7] at hA hval
  obtain ⟨v0, vs0, d0, ds0, p0, q0, hargs, rfl, rfl, h0, r0⟩ := trodAll_cons hA
  obtain ⟨v1, vs1, d1, ds1, p1, q1, rfl, rfl, rfl, h1, r1⟩ := trodAll_cons r0
  obtain ⟨v2, vs2, d2, ds2, p2, q2, rfl, rfl, rfl, h2, r2⟩ := trodAll_cons r1
  obtain ⟨v3, vs3, d3, ds3, p3, q3, rfl, rfl, rfl, h3, r3⟩ := trodAll_cons r2
  obtain ⟨rfl, rfl, rfl⟩ := trodAll_nil r3
  obtain rfl : args = #[v0, v1, v2, v3] := by cases args; simp_all
  obtain ⟨rfl, rfl⟩ := trodVars_none hV
  have lt0 : ∀ x ∈ p0, x.block < W.heap.size := by obtain ⟨m, hm⟩ := h0; exact DataW.trod_lt m _ _ _ hm
  have lt1 : ∀ x ∈ p1, x.block < W.heap.size := by obtain ⟨m, hm⟩ := h1; exact DataW.trod_lt m _ _ _ hm
  have lt2 : ∀ x ∈ p2, x.block < W.heap.size := by obtain ⟨m, hm⟩ := h2; exact DataW.trod_lt m _ _ _ hm
  have lt3 : ∀ x ∈ p3, x.block < W.heap.size := by obtain ⟨m, hm⟩ := h3; exact DataW.trod_lt m _ _ _ hm
  clear hA0 hval0 hsz0
  refine (walk (hval 0 27 v0 rfl rfl) h0 (hval 1 51 v1 rfl rfl) h1 (hval 2 52 v2 rfl rfl) h2 (hval 3 28 v3 rfl rfl) h3).mono fun e W' ⟨he, bel⟩ => ?_
  subst he
  exact ⟨_, rfl, _, _, _, [], _, [], hW', trodAll_mk1 (shut_bool Try.underlying4 _), (trodAll_cons_mk (Below.trod laidOut (by kernel_rfl) (of_decide_eq_true (by kernel_rfl)) h0 bel lt0) (trodAll_cons_mk (Below.trod laidOut (by kernel_rfl) (of_decide_eq_true (by kernel_rfl)) h1 bel lt1) (trodAll_cons_mk (Below.trod laidOut (by kernel_rfl) (of_decide_eq_true (by kernel_rfl)) h2 bel lt2) (trodAll_cons_mk (Below.trod laidOut (by kernel_rfl) (of_decide_eq_true (by kernel_rfl)) h3 bel lt3) trodAll_mk0)))), rfl, bel.frame _, fun h => by cases h⟩
theorem over : Rows.orderKeptRow.holds Try.pinned (OpenSpec.ofChange Rows.orderKeptSpec) :=
  OpenClaim.holds_of_wide 7 Try.f7 rfl rfl rfl rfl rfl rfl rfl ⟨rfl, rfl, rfl, rfl, rfl⟩ rfl rfl rfl rfl rfl (by kernel_rfl) Try.func7 (by kernel_rfl)
    (of_decide_eq_true (by kernel_rfl)) (by unfold Func.isWrapper; first | (rw [if_pos (by decide +kernel)]; kernel_rfl) | (rw [if_neg (by decide +kernel)]; exact ⟨rfl, rfl⟩))
    (fun os started H enc _ => lifted os started H enc)
theorem proved : Rows.OrderKeptSaid := over
end Go.Proofs.Ytmhbmnonichopaa.orderKept
namespace Go.Proofs.Ytmhbmnonichopaa
theorem orderKept_holds : Rows.OrderKeptSaid := orderKept.proved
end Go.Proofs.Ytmhbmnonichopaa
