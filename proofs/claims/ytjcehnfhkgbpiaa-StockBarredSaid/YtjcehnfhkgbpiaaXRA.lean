/-
  Contracts: a truth, a set that is short, a book for a flow.
-/
import Derived.Test.YtjcehnfhkgbpiaaXNY
namespace Go.Ax
set_option maxHeartbeats 1000000
set_option maxRecDepth 6000
set_option linter.unusedSimpArgs false
set_option linter.unusedVariables false
attribute [-simp] List.getD_eq_getElem?_getD
variable {lo : Nat} {F : Hp}
theorem lo_inRg {T : Int} {fs : List Fl} (hN : Net T fs) : inRg fs (fs.map (·.lo)) := ⟨by simp, fun i hi => by
  have hu := hN.u i hi
  have : (fs.map (·.lo)).getD i 0 = (gF fs i).lo := by simp [gF, List.getD, List.getElem?_eq_getElem hi]
  rw [this]; omega⟩
inductive LitB (lo : Nat) (fs : List Fl) : AV → Hp → List Int → Prop
  | nil (h : fs = []) : LitB lo fs (AV.slc none 0 0 true 0) [] []
  | row {bx : Nat} {x : List Int} (hb : lo ≤ bx) (hx : x.length = fs.length) (h0 : fs ≠ []) : LitB lo fs (.slc (some (bx, 0)) fs.length fs.length false 1) [(bx, .cells (ints x) true)] x
theorem LitB.lit {fs : List Fl} {xv : AV} {Fo : Hp} {x : List Int} (h : LitB lo fs xv Fo x) {F : Hp} (hs : Fo ⊆ F) : Lit' F xv x := by
  cases h with
  | nil => exact ⟨RowI.nil _ _ _ _ _, fun _ => rfl⟩
  | row hb hx h0 => exact ⟨RowI.lit (hs (List.mem_cons_self ..)) hx.symm, fun he => by subst he; exact absurd (List.length_eq_zero_iff.1 hx.symm) h0⟩
inductive TruR (lo : Nat) (T : Int) (fs : List Fl) : AV → Hp → Prop
  | bad (h : chkN T fs ≠ 0) : TruR lo T fs (.tup [(AV.slc none 0 0 true 0), .int .i64 (chkN T fs)]) []
  | yes {x : List Int} {rv : AV} {Fo : Hp} (hN : Net T fs) (h : IsT T fs x) (ho : OwnI lo false rv Fo x) : TruR lo T fs (.tup [rv, .int .i64 0]) Fo
  | no (hN : Net T fs) (h : ¬ ∃ x, IsT T fs x) : TruR lo T fs (.tup [(AV.slc none 0 0 true 0), .int .i64 21]) []
theorem SetR.lenR {T : Int} {fs : List Fl} {x : List Int} {r : AV} {Fo : Hp} (hN : Net T fs) (h : SetR lo T fs x r Fo) : (∃ p cap ex es, r = .slc p 0 cap ex es ∧ IsT T fs x ∧ Fo = []) ∨ (∃ (p : Int → Bool) (q : Option (Nat × Nat)) (n cap : Nat) (ex : Bool) (es : Nat), r = .slc q n cap ex es ∧ 0 < n ∧ OwnI lo false r Fo (pickL T p) ∧ 0 < shB fs p) := by
  cases h with
  | yes h => exact .inl ⟨_, _, _, _, rfl, h, rfl⟩
  | @no r Fo p ho h =>
    obtain ⟨_, hne⟩ := shortR_of hN h
    refine .inr ⟨p, ?_⟩
    have ho' := ho
    generalize pickL T p = l at *
    cases ho with
    | nil => exact absurd rfl hne
    | @row b xs hb => exact ⟨_, _, _, _, _, rfl, List.length_pos_iff.2 hne, ho', h⟩
theorem f15_ok {T : Int} {fs : List Fl} {v : AV} (hr : FRow F v fs) : Pure tblW (fnv 15) [netV T v] F (.bool (decide (50 < fs.length))) := by
  intro lo
  refine Fn.func (fn := af15) rfl rfl ?_
  (repeat' (first | (first | refine Wo.nil ?_ | refine Wd.nil ?_ | ((first | refine Wo.cons ?_ | refine Wd.cons ?_); (try refine W1.go rfl rfl ?_); ((first | refine k1 ?_ | refine k2 ?_ | (refine isDst 1 ?_; refine W1.boxA rfl (fun b1 hb1 => ?_)) | (refine isLen ?_; refine W1.lenZ hr.cons rfl ?_) | refine W1.auto ?_ | ((first | refine kA ?_ | refine kB ?_ | refine kC ?_ | refine kD ?_ | refine kE ?_ | refine kF ?_ | refine kG ?_); refine ⟨fun _ => ?_, fun _ => ?_⟩)) <;> (try refine ⟨fun _ => rfl, ?_⟩)))) | (first | refine Ws.seq ?_ | refine Ws.region ?_ | refine Ws.draw (fun bd hbd => ?_) | refine Ws.cond rfl ?_ | refine Ws.skip ?_ | refine Ws.scope ?_ | refine Ws.block ?_ | refine Ws.exit ?_ | refine Ws.ret ?_)))
  all_goals (refine FnEnd.ret (F' := F) (vs := [_]) (by (first | refine ResF.tmp inW ?_ | refine ResF.cell rfl inF inP ?_); exact ResF.nil) inS ⟨?_, rfl⟩)
  all_goals (simp only [tupOf, AV.bool.injEq]; symm; first | (apply decide_eq_true; omega) | (apply decide_eq_false; omega))
def fineB (T : Int) (fs : List Fl) : Bool := decide (fs.length ≤ 50 ∧ chkN T fs = 0)
theorem f37_ok {T : Int} {fs : List Fl} {v : AV} (hr : FRow F v fs) (hl : fs.length ≤ 9223372036854775807) : Pure tblW (fnv 37) [netV T v] F (.bool (fineB T fs)) := by
  intro lo
  refine Fn.func (fn := af37) rfl rfl ?_
  (repeat' (first | (first | refine Wo.nil ?_ | refine Wd.nil ?_ | ((first | refine Wo.cons ?_ | refine Wd.cons ?_); (try refine W1.go rfl rfl ?_); ((first | refine k1 ?_ | refine k2 ?_ | (refine isDst 1 ?_; refine W1.boxA rfl (fun b1 hb1 => ?_)) | (refine isCall ?_; first | refine W1.pureB rfl rfl (f15_ok hr.cons) (fun h => ?_) (fun h => ?_) | refine W1.pure rfl rfl (f20_ok hr.cons hl) ?_) | refine W1.auto ?_ | ((first | refine kA ?_ | refine kB ?_ | refine kC ?_ | refine kD ?_ | refine kE ?_ | refine kF ?_ | refine kG ?_); refine ⟨fun _ => ?_, fun _ => ?_⟩)) <;> (try refine ⟨fun _ => rfl, ?_⟩)))) | (first | refine Ws.seq ?_ | refine Ws.region ?_ | refine Ws.draw (fun bd hbd => ?_) | refine Ws.cond rfl ?_ | refine Ws.skip ?_ | refine Ws.scope ?_ | refine Ws.block ?_ | refine Ws.exit ?_ | refine Ws.ret ?_)))
  all_goals (refine FnEnd.ret (F' := F) (vs := [_]) (by (first | refine ResF.tmp inW ?_ | refine ResF.cell rfl inF inP ?_); exact ResF.nil) inS ⟨?_, rfl⟩)
  all_goals (try simp only [decide_eq_true_eq, decide_eq_false_iff_not] at h)
  all_goals (simp only [fineB]; (simp only [tupOf, AV.bool.injEq]; symm; first | (apply decide_eq_true; omega) | (apply decide_eq_false; omega)))
theorem fineB_net {T : Int} {fs : List Fl} : fineB T fs = true ↔ Net T fs := by
  unfold fineB
  rw [decide_eq_true_eq, chkN_net]
  exact ⟨fun h => h.2, fun h => ⟨by have := h.n; omega, h⟩⟩
end Go.Ax
