/-
  Contracts: a set that is short; a book for a flow; the span, an end, its bound.
-/
import Derived.Test.YtjcehnfhkgbpiaaXRA
namespace Go.Ax
set_option maxHeartbeats 1000000
set_option maxRecDepth 6000
set_option linter.unusedSimpArgs false
set_option linter.unusedVariables false
attribute [-simp] List.getD_eq_getElem?_getD
variable {lo : Nat} {F : Hp}
inductive ShoR (lo : Nat) (T : Int) (fs : List Fl) : AV → Hp → Prop
  | bad (h : chkN T fs ≠ 0) : ShoR lo T fs (.tup [(AV.slc none 0 0 true 0), .int .i64 (chkN T fs)]) []
  | none (hN : Net T fs) (h : ∃ x, IsT T fs x) : ShoR lo T fs (.tup [(AV.slc none 0 0 true 0), .int .i64 5]) []
  | yes {rv : AV} {Fo : Hp} {p : Int → Bool} (hN : Net T fs) (ho : OwnI lo false rv Fo (pickL T p)) (h : 0 < shB fs p) : ShoR lo T fs (.tup [rv, .int .i64 0]) Fo
open Classical in
noncomputable def errN (T : Int) (fs : List Fl) (k : Int) : Int := if chkN T fs ≠ 0 then chkN T fs else if k < 0 ∨ (fs.length : Int) ≤ k then 3 else if ∃ x, IsT T fs x then 0 else 21
theorem errN_bad {T k : Int} {fs : List Fl} (h : chkN T fs ≠ 0) : errN T fs k = chkN T fs := by unfold errN; rw [if_pos h]
theorem errN_range {T k : Int} {fs : List Fl} (h : chkN T fs = 0) (hk : k < 0 ∨ (fs.length : Int) ≤ k) : errN T fs k = 3 := by unfold errN; rw [if_neg (by omega), if_pos hk]
theorem errN_ok {T k : Int} {fs : List Fl} (h : chkN T fs = 0) (hk : ¬ (k < 0 ∨ (fs.length : Int) ≤ k)) (hx : ∃ x, IsT T fs x) : errN T fs k = 0 := by unfold errN; rw [if_neg (by omega), if_neg hk, if_pos hx]
theorem errN_no {T k : Int} {fs : List Fl} (h : chkN T fs = 0) (hk : ¬ (k < 0 ∨ (fs.length : Int) ≤ k)) (hx : ¬ ∃ x, IsT T fs x) : errN T fs k = 21 := by unfold errN; rw [if_neg (by omega), if_neg hk, if_neg hx]
theorem errN_zero {T k : Int} {fs : List Fl} (h : errN T fs k = 0) : Net T fs ∧ 0 ≤ k ∧ k < fs.length ∧ ∃ x, IsT T fs x := by
  by_cases h0 : chkN T fs = 0
  · by_cases hk : k < 0 ∨ (fs.length : Int) ≤ k
    · rw [errN_range h0 hk] at h; cases h
    · by_cases hx : ∃ x, IsT T fs x
      · exact ⟨chkN_net.1 h0, by omega, by omega, hx⟩
      · rw [errN_no h0 hk hx] at h; cases h
  · rw [errN_bad h0] at h; exact absurd h h0
inductive OpnR (lo : Nat) (T : Int) (fs : List Fl) (k : Int) (v : AV) (F : Hp) : AV → Hp → Prop
  | err (h : errN T fs k ≠ 0) : OpnR lo T fs k v F (.tup [.ptr none, .int .i64 (errN T fs k)]) F
  | ok {x S : List Int} {bk bx : Nat} (h : errN T fs k = 0) (hT : IsT T fs x) (hS : S.length = 13) (hbk : lo ≤ bk) (hbx : lo ≤ bx) : OpnR lo T fs k v F (.tup [.ptr (some (bk, 0)), .int .i64 0]) ((bk, .cells (bookC T v (AV.slc (some (bx, 0)) fs.length fs.length false 1) S) true) :: (bx, .cells (ints x) true) :: F)
theorem f59_ok {T k : Int} {fs : List Fl} {v : AV} (hr : FRow F v fs) (hl : fs.length ≤ 9223372036854775807) : Fn tblW lo (fnv 59) [netV T v, .int .i64 k] F (OpnR lo T fs k v F) := by
  refine Fn.func (fn := af59) rfl rfl ?_
  by_cases h0 : chkN T fs = 0
  rotate_left
  · have he : errN T fs k = chkN T fs := errN_bad h0
    (repeat' (first | (first | refine Wo.nil ?_ | refine Wd.nil ?_ | ((first | refine Wo.cons ?_ | refine Wd.cons ?_); (try refine W1.go rfl rfl ?_); ((first | refine k1 ?_ | refine k2 ?_ | (refine isDst 2 ?_; refine W1.boxA rfl (fun b2 hb2 => ?_)) | (refine isDst 9 ?_; refine W1.pure rfl rfl (f19_ok hr.cons hl) ?_) | (refine isDst 21 ?_; refine W1.lenZ hr.cons rfl ?_) | refine W1.cO ?_ | refine W1.auto ?_) <;> (try refine ⟨fun _ => rfl, ?_⟩)))) | (first | refine Ws.seq ?_ | refine Ws.region ?_ | refine Ws.draw (fun bd hbd => ?_) | refine Ws.cond rfl ?_ | refine Ws.skip ?_ | refine Ws.scope ?_ | refine Ws.block ?_ | refine Ws.exit ?_ | refine Ws.ret ?_)))
    refine FnEnd.ret (F' := F) (vs := [_, _]) (.tmp rfl (.tmp rfl .nil)) (.cons _ (List.Sublist.refl _)) ?_
    have := OpnR.err (lo := lo) (v := v) (F := F) (show errN T fs k ≠ 0 by rw [he]; exact h0)
    rw [he] at this; exact this
  have hN := chkN_net.1 h0
  have hn := hN.n
  by_cases hk : k < 0 ∨ (fs.length : Int) ≤ k
  · have he := errN_range h0 hk
    have hop := OpnR.err (lo := lo) (v := v) (F := F) (show errN T fs k ≠ 0 by rw [he]; decide)
    rw [he] at hop
    by_cases hk0 : k < 0
    · (repeat' (first | (first | refine Wo.nil ?_ | refine Wd.nil ?_ | ((first | refine Wo.cons ?_ | refine Wd.cons ?_); (try refine W1.go rfl rfl ?_); ((first | refine k1 ?_ | refine k2 ?_ | (refine isDst 2 ?_; refine W1.boxA rfl (fun b2 hb2 => ?_)) | (refine isDst 9 ?_; refine W1.pure rfl rfl (f19_ok hr.cons hl) ?_) | (refine isDst 21 ?_; refine W1.lenZ hr.cons rfl ?_) | refine W1.cO ?_ | refine W1.auto ?_) <;> (try refine ⟨fun _ => rfl, ?_⟩)))) | (first | refine Ws.seq ?_ | refine Ws.region ?_ | refine Ws.draw (fun bd hbd => ?_) | refine Ws.cond rfl ?_ | refine Ws.skip ?_ | refine Ws.scope ?_ | refine Ws.block ?_ | refine Ws.exit ?_ | refine Ws.ret ?_)))
      exact FnEnd.ret (F' := F) (vs := [_, _]) (.tmp rfl (.tmp rfl .nil)) (.cons _ (List.Sublist.refl _)) hop
    · (repeat' (first | (first | refine Wo.nil ?_ | refine Wd.nil ?_ | ((first | refine Wo.cons ?_ | refine Wd.cons ?_); (try refine W1.go rfl rfl ?_); ((first | refine k1 ?_ | refine k2 ?_ | (refine isDst 2 ?_; refine W1.boxA rfl (fun b2 hb2 => ?_)) | (refine isDst 9 ?_; refine W1.pure rfl rfl (f19_ok hr.cons hl) ?_) | (refine isDst 21 ?_; refine W1.lenZ hr.cons rfl ?_) | refine W1.cO ?_ | refine W1.auto ?_) <;> (try refine ⟨fun _ => rfl, ?_⟩)))) | (first | refine Ws.seq ?_ | refine Ws.region ?_ | refine Ws.draw (fun bd hbd => ?_) | refine Ws.cond rfl ?_ | refine Ws.skip ?_ | refine Ws.scope ?_ | refine Ws.block ?_ | refine Ws.exit ?_ | refine Ws.ret ?_)))
      exact FnEnd.ret (F' := F) (vs := [_, _]) (.tmp rfl (.tmp rfl .nil)) (.cons _ (List.Sublist.refl _)) hop
  have hk0 : ¬ k < 0 := by omega
  have hkn : k < (fs.length : Int) := by omega
  (repeat' (first | (first | refine Wo.nil ?_ | refine Wd.nil ?_ | ((first | refine Wo.cons ?_ | refine Wd.cons ?_); (try refine W1.go rfl rfl ?_); ((first | refine k1 ?_ | refine k2 ?_ | (refine isDst 2 ?_; refine W1.boxA rfl (fun b2 hb2 => ?_)) | (refine isDst 9 ?_; refine W1.pure rfl rfl (f19_ok hr.cons hl) ?_) | (refine isDst 21 ?_; refine W1.lenZ hr.cons rfl ?_) | (refine isDst 12 ?_; refine W1.cO ?_) | (refine isDst 16 ?_; refine W1.cO ?_) | (refine isDst 22 ?_; refine W1.cO ?_) | (refine isDst 25 ?_; refine W1.callM rfl rfl ((f55_ok hr.cons (by omega)).mono ?_); rintro _ _ ⟨bk, xv, Fo, hbk, rfl, ho, hz, rfl⟩) | (refine isDst 27 ?_; refine W1.callM rfl rfl ((f56_new hN hr.cons hbk ho hz).mono ?_); rintro rs _ ⟨x, S, Fr, Fx, hxr, hS, hset, hlit, rfl⟩) | refine W1.auto ?_) <;> (try refine ⟨fun _ => rfl, ?_⟩)))) | (first | refine Ws.seq ?_ | refine Ws.region ?_ | refine Ws.draw (fun bd hbd => ?_) | refine Ws.cond rfl ?_ | refine Ws.skip ?_ | refine Ws.scope ?_ | refine Ws.block ?_ | refine Ws.exit ?_ | refine Ws.ret ?_)))
  rcases hset.lenR hN with ⟨p, cap, ex, es, rfl, hT', rfl⟩ | ⟨p, q, n, cap, ex, es, rfl, hn0, ho2, hsh⟩
  · cases hlit with
    | nil h => subst h; exact absurd hkn (by simp; omega)
    | @row bx x hb hx h0' =>
      (repeat' (first | (first | refine Wo.nil ?_ | refine Wd.nil ?_ | ((first | refine Wo.cons ?_ | refine Wd.cons ?_); (try refine W1.go rfl rfl ?_); ((first | refine k1 ?_ | refine k2 ?_ | (refine isDst 28 ?_; refine W1.lenv rfl ?_) | refine W1.cO ?_ | refine W1.auto ?_) <;> (try refine ⟨fun _ => rfl, ?_⟩)))) | (first | refine Ws.seq ?_ | refine Ws.region ?_ | refine Ws.draw (fun bd hbd => ?_) | refine Ws.cond rfl ?_ | refine Ws.skip ?_ | refine Ws.scope ?_ | refine Ws.block ?_ | refine Ws.exit ?_ | refine Ws.ret ?_)))
      exact FnEnd.ret (F' := (bk, .cells (bookC T v (AV.slc (some (bx, 0)) fs.length fs.length false 1) S) true) :: (bx, .cells (ints x) true) :: F) (vs := [_, _]) (.tmp rfl (.tmp rfl .nil)) (.cons_cons _ (.cons_cons _ (.cons _ (List.Sublist.refl _)))) (.ok (errN_ok h0 hk ⟨x, hT'⟩) hT' hS hbk hb)
  · have hn1 : (0 : Int) < (n : Nat) := by omega
    have he := errN_no h0 hk (no_truth hN hsh)
    have hop := OpnR.err (lo := lo) (v := v) (F := F) (show errN T fs k ≠ 0 by rw [he]; decide)
    rw [he] at hop
    (repeat' (first | (first | refine Wo.nil ?_ | refine Wd.nil ?_ | ((first | refine Wo.cons ?_ | refine Wd.cons ?_); (try refine W1.go rfl rfl ?_); ((first | refine k1 ?_ | refine k2 ?_ | (refine isDst 28 ?_; refine W1.lenv rfl ?_) | refine W1.cO ?_ | refine W1.auto ?_) <;> (try refine ⟨fun _ => rfl, ?_⟩)))) | (first | refine Ws.seq ?_ | refine Ws.region ?_ | refine Ws.draw (fun bd hbd => ?_) | refine Ws.cond rfl ?_ | refine Ws.skip ?_ | refine Ws.scope ?_ | refine Ws.block ?_ | refine Ws.exit ?_ | refine Ws.ret ?_)))
    exact FnEnd.ret (F' := F) (vs := [_, _]) (.tmp rfl (.tmp rfl .nil)) (List.Sublist.trans (.cons _ (List.Sublist.trans (.cons _ (List.Sublist.refl _)) (List.sublist_append_right _ _))) (List.sublist_append_right _ _)) hop
end Go.Ax
