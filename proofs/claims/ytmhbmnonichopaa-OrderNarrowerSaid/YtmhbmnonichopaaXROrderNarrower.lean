/-
  The law OrderNarrower: its walk, and its row. It returns true, whatever it is given, and leaves what it is given as it was.
-/
import Derived.Test.YtmhbmnonichopaaXG4
import Derived.Test.YtmhbmnonichopaaXP10b
import Derived.Test.YtmhbmnonichopaaRows
import Derived.WalkKit
import Derived.ProofKit
import Derived.OpenShut
import Derived.ShutString
import Derived.ChangeOld
import Derived.Below
import Derived.SizedLaws
import Derived.Carry
namespace Go.Proofs.Ytmhbmnonichopaa.orderNarrower
open Go.ChangeShapes Go.WideShapes Go.ChangeAt Go.RowKit
set_option linter.unusedVariables false
set_option maxRecDepth 100000 in
theorem walk {H' : Type} {enc : TypeId × Value → H'} {W : World} {base : Nat} {v0 : Value} {d0 : DataW H'} {p0 : List MemPlace} (hv0 : Value.okWide Try.prog W .any base 27 v0) (h0 : DataW.Trod enc Try.prog W 0 (fun _ => true) true 27 v0 d0 p0) {v1 : Value} {d1 : DataW H'} {p1 : List MemPlace} (hv1 : Value.okWide Try.prog W .any base 61 v1) (h1 : DataW.Trod enc Try.prog W 0 (fun _ => true) true 61 v1 d1 p1) {v2 : Value} {d2 : DataW H'} {p2 : List MemPlace} (hv2 : Value.okWide Try.prog W .any base 5 v2) (h2 : DataW.Trod enc Try.prog W 0 (fun _ => true) true 5 v2 d2 p2) {v3 : Value} {d3 : DataW H'} {p3 : List MemPlace} (hv3 : Value.okWide Try.prog W .any base 58 v3) (h3 : DataW.Trod enc Try.prog W 0 (fun _ => true) true 58 v3 d3 p3) {v4 : Value} {d4 : DataW H'} {p4 : List MemPlace} (hv4 : Value.okWide Try.prog W .any base 5 v4) (h4 : DataW.Trod enc Try.prog W 0 (fun _ => true) true 5 v4 d4 p4) {v5 : Value} {d5 : DataW H'} {p5 : List MemPlace} (hv5 : Value.okWide Try.prog W .any base 51 v5) (h5 : DataW.Trod enc Try.prog W 0 (fun _ => true) true 51 v5 d5 p5) :
    Calls Try.prog 10 #[v0, v1, v2, v3, v4, v5] W fun e w' => e = .returned (.bool true) ∧ Below W.heap.size W w' := by
  obtain ⟨k, sv', cv', rfl, hs, hc, l1, l2⟩ := Go.Ax.kind_open hv0 h0
  obtain ⟨a0, a1, a2, a3, rfl, r0, r1, r2, r3⟩ := Go.Ax.four_open hv1 h1
  obtain ⟨day, rfl, _, _, w2⟩ := open_int Try.underlying5 hv2 h2
  obtain ⟨cap, rfl, _, _, w3⟩ := open_int Try.underlying58 hv3 h3
  obtain ⟨most, rfl, _, _, w4⟩ := open_int Try.underlying5 hv4 h4
  obtain ⟨xs, hx, l3, hn⟩ := Go.Ax.nums_open (by decide) (fun _ => Go.Ax.u8_wf) Try.underlying51 Try.underlying5 Go.Ax.one5 hv5 h5
  have b2 := Go.Ax.u8_wf w2
  have b3 := Go.Ax.u32_wf w3
  have b4 := Go.Ax.u8_wf w4
  obtain ⟨m, rfl⟩ : ∃ m : Nat, day = m := ⟨day.toNat, by omega⟩
  obtain ⟨ι, h, F, sv, cv, G, hk, hr⟩ := Go.Ax.kind_given hs hc l1 l2
  obtain ⟨ι2, h2', F2, pv, G2, s2, x2, b5, _, d2⟩ := G.nums hx
  exact Go.Ax.law_calls G2 (argsv := [_, _, _, _, _, _]) (.cons (hr.ext x2) (.cons Go.Ax.four_rel (.cons (.int _ _) (.cons (.int _ _) (.cons (.int _ _) (.cons b5 .nil)))))) (Go.Ax.f10_ok (hk.mono s2) ⟨d2, Go.Ax.maxLen_lt l3, hn⟩ r0 r1 r2 r3 (by omega) b3 b4)
theorem own : ownKnob Try.prog.godebug = none := by kernel_rfl
theorem laidOut : laidOutB Try.prog = true := by kernel_rfl
set_option maxRecDepth 100000 in
theorem lifted (os : Os) (started : os.Started) (H : Type) (enc : TypeId × Value → H) :
    ReturnsInHanded {} Try.checked os 10 .any (Rows.orderNarrowerSpec.pre6 enc Try.prog Try.f10 Rows.orderNarrowerRow.domain false) (Rows.orderNarrowerSpec.post enc Try.prog Try.f10 false true false false) := by
  refine returnsInHanded_of_change_sized (C := Try.checked) own started (by kernel_rfl) Try.func10
    (ChangeSpec.witness6 (enc := enc) (C := Try.checked) false ⟨#[], #[.agg #[.int .i64 0, .int .i64 0, .int .i64 0, .int .i64 0, .int .i64 0, .slice none 0 0, .slice none 0 0], .agg #[.int .u32 0, .int .u32 0, .int .u32 0, .int .u32 0], .int .u8 0, .int .u32 0, .int .u8 0, .slice none 0 0], []⟩ 8 (by kernel_rfl) (by kernel_rfl) (by kernel_rfl) (by kernel_rfl)) ?_
  intro W base args ds gs before hval0 hW hcnd hsz0 _
  have hval : ∀ (j : Nat) t v, Try.f10.params[j]? = some t → args[j]? = some v → Value.okWide Try.prog W .any base t v := hval0
  have hW' := hW
  obtain ⟨p, q, hA0, hV, rfl, hfz, hnd⟩ := hW
  have hA : DataW.TrodAll enc Try.prog W 0 (fun _ => true) true Try.f10.params.toList args.toList ds p := hA0
  rw [Try.params10] at hA hval
  obtain ⟨v0, vs0, d0, ds0, p0, q0, hargs, rfl, rfl, h0, r0⟩ := trodAll_cons hA
  obtain ⟨v1, vs1, d1, ds1, p1, q1, rfl, rfl, rfl, h1, r1⟩ := trodAll_cons r0
  obtain ⟨v2, vs2, d2, ds2, p2, q2, rfl, rfl, rfl, h2, r2⟩ := trodAll_cons r1
  obtain ⟨v3, vs3, d3, ds3, p3, q3, rfl, rfl, rfl, h3, r3⟩ := trodAll_cons r2
  obtain ⟨v4, vs4, d4, ds4, p4, q4, rfl, rfl, rfl, h4, r4⟩ := trodAll_cons r3
  obtain ⟨v5, vs5, d5, ds5, p5, q5, rfl, rfl, rfl, h5, r5⟩ := trodAll_cons r4
  obtain ⟨rfl, rfl, rfl⟩ := trodAll_nil r5
  obtain rfl : args = #[v0, v1, v2, v3, v4, v5] := by cases args; simp_all
  obtain ⟨rfl, rfl⟩ := trodVars_none hV
  have lt0 : ∀ x ∈ p0, x.block < W.heap.size := by obtain ⟨m, hm⟩ := h0; exact DataW.trod_lt m _ _ _ hm
  have lt1 : ∀ x ∈ p1, x.block < W.heap.size := by obtain ⟨m, hm⟩ := h1; exact DataW.trod_lt m _ _ _ hm
  have lt2 : ∀ x ∈ p2, x.block < W.heap.size := by obtain ⟨m, hm⟩ := h2; exact DataW.trod_lt m _ _ _ hm
  have lt3 : ∀ x ∈ p3, x.block < W.heap.size := by obtain ⟨m, hm⟩ := h3; exact DataW.trod_lt m _ _ _ hm
  have lt4 : ∀ x ∈ p4, x.block < W.heap.size := by obtain ⟨m, hm⟩ := h4; exact DataW.trod_lt m _ _ _ hm
  have lt5 : ∀ x ∈ p5, x.block < W.heap.size := by obtain ⟨m, hm⟩ := h5; exact DataW.trod_lt m _ _ _ hm
  clear hA0 hval0 hsz0
  refine (walk (hval 0 27 v0 rfl rfl) h0 (hval 1 61 v1 rfl rfl) h1 (hval 2 5 v2 rfl rfl) h2 (hval 3 58 v3 rfl rfl) h3 (hval 4 5 v4 rfl rfl) h4 (hval 5 51 v5 rfl rfl) h5).mono fun e W' ⟨he, bel⟩ => ?_
  subst he
  exact ⟨_, rfl, _, _, _, [], _, [], hW', trodAll_mk1 (shut_bool Try.underlying4 _), (trodAll_cons_mk (Below.trod laidOut (by kernel_rfl) (of_decide_eq_true (by kernel_rfl)) h0 bel lt0) (trodAll_cons_mk (Below.trod laidOut (by kernel_rfl) (of_decide_eq_true (by kernel_rfl)) h1 bel lt1) (trodAll_cons_mk (Below.trod laidOut (by kernel_rfl) (of_decide_eq_true (by kernel_rfl)) h2 bel lt2) (trodAll_cons_mk (Below.trod laidOut (by kernel_rfl) (of_decide_eq_true (by kernel_rfl)) h3 bel lt3) (trodAll_cons_mk (Below.trod laidOut (by kernel_rfl) (of_decide_eq_true (by kernel_rfl)) h4 bel lt4) (trodAll_cons_mk (Below.trod laidOut (by kernel_rfl) (of_decide_eq_true (by kernel_rfl)) h5 bel lt5) trodAll_mk0)))))), rfl, bel.frame _, fun h => by cases h⟩
theorem over : Rows.orderNarrowerRow.holds Try.pinned (OpenSpec.ofChange Rows.orderNarrowerSpec) :=
  OpenClaim.holds_of_wide 10 Try.f10 rfl rfl rfl rfl rfl rfl rfl ⟨rfl, rfl, rfl, rfl, rfl⟩ rfl rfl rfl rfl rfl (by kernel_rfl) Try.func10 (by kernel_rfl)
    (of_decide_eq_true (by kernel_rfl)) (by unfold Func.isWrapper; first | (rw [if_pos (by decide +kernel)]; kernel_rfl) | (rw [if_neg (by decide +kernel)]; exact ⟨rfl, rfl⟩))
    (fun os started H enc _ => lifted os started H enc)
theorem proved : Rows.OrderNarrowerSaid := over
end Go.Proofs.Ytmhbmnonichopaa.orderNarrower
namespace Go.Proofs.Ytmhbmnonichopaa
theorem orderNarrower_holds : Rows.OrderNarrowerSaid := orderNarrower.proved
end Go.Proofs.Ytmhbmnonichopaa
