/-
  The law StockCans: its walk, and its row. It returns true, whatever it is given, and leaves what it is given as it was.
-/
import Derived.Test.YtjcehnfhkgbpiaaXHI
import Derived.Test.YtjcehnfhkgbpiaaXHO
import Derived.Test.YtjcehnfhkgbpiaaRows
import Derived.WalkKit
import Derived.ProofKit
import Derived.OpenShut
import Derived.ShutString
import Derived.ChangeOld
import Derived.Below
import Derived.SizedLaws
import Derived.Carry
namespace Go.Proofs.Ytjcehnfhkgbpiaa.stockCans
open Go.ChangeShapes Go.WideShapes Go.ChangeAt Go.RowKit
set_option linter.unusedVariables false
set_option maxRecDepth 100000 in
theorem walk {H' : Type} {enc : TypeId × Value → H'} {W : World} {base : Nat} {v0 : Value} {d0 : DataW H'} {p0 : List MemPlace} (hv0 : Value.okWide Try.prog W .any base 51 v0) (h0 : DataW.Trod enc Try.prog W 0 (fun _ => true) true 51 v0 d0 p0) {v1 : Value} {d1 : DataW H'} {p1 : List MemPlace} (hv1 : Value.okWide Try.prog W .any base 64 v1) (h1 : DataW.Trod enc Try.prog W 0 (fun _ => true) true 64 v1 d1 p1) {v2 : Value} {d2 : DataW H'} {p2 : List MemPlace} (hv2 : Value.okWide Try.prog W .any base 64 v2) (h2 : DataW.Trod enc Try.prog W 0 (fun _ => true) true 64 v2 d2 p2) {v3 : Value} {d3 : DataW H'} {p3 : List MemPlace} (hv3 : Value.okWide Try.prog W .any base 71 v3) (h3 : DataW.Trod enc Try.prog W 0 (fun _ => true) true 71 v3 d3 p3) {v4 : Value} {d4 : DataW H'} {p4 : List MemPlace} (hv4 : Value.okWide Try.prog W .any base 71 v4) (h4 : DataW.Trod enc Try.prog W 0 (fun _ => true) true 71 v4 d4 p4) :
    Calls Try.prog 13 #[v0, v1, v2, v3, v4] W fun e w' => e = .returned (.bool true) ∧ Below W.heap.size W w' := by
  obtain ⟨cs, hc, l1⟩ := Go.Ax.cans_open hv0 h0
  obtain ⟨sh, rfl, _, _, w1⟩ := open_int Try.underlying64 hv1 h1
  obtain ⟨mo, rfl, _, _, w2⟩ := open_int Try.underlying64 hv2 h2
  obtain ⟨o0, o1, rfl, w3, w4⟩ := Go.Ax.duo_open Try.underlying71 Try.underlying5 Go.Ax.cells71 Go.Ax.one5 hv3 h3
  obtain ⟨q0, q1, rfl, w5, w6⟩ := Go.Ax.duo_open Try.underlying71 Try.underlying5 Go.Ax.cells71 Go.Ax.one5 hv4 h4
  obtain ⟨ι, h, F, cv, G, _, _, b2, _, d2, hsl⟩ := (Go.Ax.GivenF.none Try.prog W).pairsS hc
  exact Go.Ax.law_calls G (argsv := [_, _, _, _, _]) (.cons b2 (.cons (.int _ _) (.cons (.int _ _) (.cons Go.Ax.duo_rel (.cons Go.Ax.duo_rel .nil))))) (Go.Ax.f13_ok d2 (hsl 2) (Go.Ax.maxLen_lt l1) (Go.Ax.u32_wf w1) (Go.Ax.u32_wf w2) (Go.Ax.u8_wf w3) (Go.Ax.u8_wf w4) (Go.Ax.u8_wf w5) (Go.Ax.u8_wf w6))
theorem own : ownKnob Try.prog.godebug = none := by kernel_rfl
theorem laidOut : laidOutB Try.prog = true := by kernel_rfl
set_option maxRecDepth 100000 in
theorem lifted (os : Os) (started : os.Started) (H : Type) (enc : TypeId × Value → H) :
    ReturnsInHanded {} Try.checked os 13 .any (Rows.stockCansSpec.pre6 enc Try.prog Try.f13 Rows.stockCansRow.domain false) (Rows.stockCansSpec.post enc Try.prog Try.f13 false true false false) := by
  refine returnsInHanded_of_change_sized (C := Try.checked) own started (by kernel_rfl) Try.func13
    (ChangeSpec.witness6 (enc := enc) (C := Try.checked) false ⟨#[], #[.slice none 0 0, .int .u32 0, .int .u32 0, .agg #[.int .u8 0, .int .u8 0], .agg #[.int .u8 0, .int .u8 0]], []⟩ 8 (by kernel_rfl) (by kernel_rfl) (by kernel_rfl) (by kernel_rfl)) ?_
  intro W base args ds gs before hval0 hW hcnd hsz0 _
  have hval : ∀ (j : Nat) t v, Try.f13.params[j]? = some t → args[j]? = some v → Value.okWide Try.prog W .any base t v := hval0
  have hW' := hW
  obtain ⟨p, q, hA0, hV, rfl, hfz, hnd⟩ := hW
  have hA : DataW.TrodAll enc Try.prog W 0 (fun _ => true) true Try.f13.params.toList args.toList ds p := hA0
  rw [Try.params13] at hA hval
  obtain ⟨v0, vs0, d0, ds0, p0, q0, hargs, rfl, rfl, h0, r0⟩ := trodAll_cons hA
  obtain ⟨v1, vs1, d1, ds1, p1, q1, rfl, rfl, rfl, h1, r1⟩ := trodAll_cons r0
  obtain ⟨v2, vs2, d2, ds2, p2, q2, rfl, rfl, rfl, h2, r2⟩ := trodAll_cons r1
  obtain ⟨v3, vs3, d3, ds3, p3, q3, rfl, rfl, rfl, h3, r3⟩ := trodAll_cons r2
  obtain ⟨v4, vs4, d4, ds4, p4, q4, rfl, rfl, rfl, h4, r4⟩ := trodAll_cons r3
  obtain ⟨rfl, rfl, rfl⟩ := trodAll_nil r4
  obtain rfl : args = #[v0, v1, v2, v3, v4] := by cases args; simp_all
  obtain ⟨rfl, rfl⟩ := trodVars_none hV
  have lt0 : ∀ x ∈ p0, x.block < W.heap.size := by obtain ⟨m, hm⟩ := h0; exact DataW.trod_lt m _ _ _ hm
  have lt1 : ∀ x ∈ p1, x.block < W.heap.size := by obtain ⟨m, hm⟩ := h1; exact DataW.trod_lt m _ _ _ hm
  have lt2 : ∀ x ∈ p2, x.block < W.heap.size := by obtain ⟨m, hm⟩ := h2; exact DataW.trod_lt m _ _ _ hm
  have lt3 : ∀ x ∈ p3, x.block < W.heap.size := by obtain ⟨m, hm⟩ := h3; exact DataW.trod_lt m _ _ _ hm
  have lt4 : ∀ x ∈ p4, x.block < W.heap.size := by obtain ⟨m, hm⟩ := h4; exact DataW.trod_lt m _ _ _ hm
  clear hA0 hval0 hsz0
  refine (walk (hval 0 51 v0 rfl rfl) h0 (hval 1 64 v1 rfl rfl) h1 (hval 2 64 v2 rfl rfl) h2 (hval 3 71 v3 rfl rfl) h3 (hval 4 71 v4 rfl rfl) h4).mono fun e W' ⟨he, bel⟩ => ?_
  subst he
  exact ⟨_, rfl, _, _, _, [], _, [], hW', trodAll_mk1 (shut_bool Try.underlying4 _), (trodAll_cons_mk (Below.trod laidOut (by kernel_rfl) (of_decide_eq_true (by kernel_rfl)) h0 bel lt0) (trodAll_cons_mk (Below.trod laidOut (by kernel_rfl) (of_decide_eq_true (by kernel_rfl)) h1 bel lt1) (trodAll_cons_mk (Below.trod laidOut (by kernel_rfl) (of_decide_eq_true (by kernel_rfl)) h2 bel lt2) (trodAll_cons_mk (Below.trod laidOut (by kernel_rfl) (of_decide_eq_true (by kernel_rfl)) h3 bel lt3) (trodAll_cons_mk (Below.trod laidOut (by kernel_rfl) (of_decide_eq_true (by kernel_rfl)) h4 bel lt4) trodAll_mk0))))), rfl, bel.frame _, fun h => by cases h⟩
theorem over : Rows.stockCansRow.holds Try.pinned (OpenSpec.ofChange Rows.stockCansSpec) :=
  OpenClaim.holds_of_wide 13 Try.f13 rfl rfl rfl rfl rfl rfl rfl ⟨rfl, rfl, rfl, rfl, rfl⟩ rfl rfl rfl rfl rfl (by kernel_rfl) Try.func13 (by kernel_rfl)
    (of_decide_eq_true (by kernel_rfl)) (by unfold Func.isWrapper; first | (rw [if_pos (by decide +kernel)]; kernel_rfl) | (rw [if_neg (by decide +kernel)]; exact ⟨rfl, rfl⟩))
    (fun os started H enc _ => lifted os started H enc)
theorem proved : Rows.StockCansSaid := over
end Go.Proofs.Ytjcehnfhkgbpiaa.stockCans
namespace Go.Proofs.Ytjcehnfhkgbpiaa
theorem stockCans_holds : Rows.StockCansSaid := stockCans.proved
end Go.Proofs.Ytjcehnfhkgbpiaa
