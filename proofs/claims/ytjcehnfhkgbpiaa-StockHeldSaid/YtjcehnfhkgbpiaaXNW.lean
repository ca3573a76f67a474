/-
  Contracts: a book is settled.
-/
import Derived.Test.YtjcehnfhkgbpiaaXNV
namespace Go.Ax
set_option maxHeartbeats 1000000
set_option maxRecDepth 6000
set_option linter.unusedSimpArgs false
set_option linter.unusedVariables false
attribute [-simp] List.getD_eq_getElem?_getD
variable {lo : Nat} {F : Hp}
def posS (T : Int) (fs : List Fl) (x : List Int) : Int := sumN (fun t => max (ov fs x fs.length (t : Nat)) 0) (T.toNat + 1)
theorem posS_nn {T : Int} {fs : List Fl} {x : List Int} : 0 ≤ posS T fs x := by
  have := sumN_le (g := fun _ => 0) (h := fun t => max (ov fs x fs.length (t : Nat)) 0) (n := T.toNat + 1) fun t _ => by omega
  rw [sumN_zero (fun _ _ => rfl)] at this
  exact this
theorem posS_less {T : Int} {fs : List Fl} {x x' : List Int} {a e m : Int} (ha : 0 ≤ a ∧ a ≤ T) (hm : 0 < m) (hma : m ≤ ov fs x fs.length a) (hme : m ≤ -ov fs x fs.length e) (ho : ∀ t, ov fs x' fs.length t = ov fs x fs.length t + (if t = e then m else 0) - (if t = a then m else 0)) : posS T fs x' < posS T fs x := by
  have hae : a ≠ e := fun h => by subst h; omega
  have h1 := sumN_one (g := fun t => max (ov fs x' fs.length (t : Nat)) 0) (h := fun t => max (ov fs x fs.length (t : Nat)) 0) (j := a.toNat) (fun i hi => by
    show max (ov fs x' fs.length (i : Nat)) 0 = max (ov fs x fs.length (i : Nat)) 0
    rw [ho]
    by_cases hie : (i : Int) = e
    · rw [if_pos hie, if_neg (by omega), hie]; omega
    · rw [if_neg hie, if_neg (by omega)]; omega) (n := T.toNat + 1) (by omega)
  have e1 : ((a.toNat : Nat) : Int) = a := by omega
  have h2 := ho a
  rw [if_neg hae, if_pos rfl] at h2
  simp only [e1] at h1
  unfold posS
  omega
theorem ov_sum {T : Int} {fs : List Fl} {x : List Int} (hN : Net T fs) : sumN (fun t => ov fs x fs.length (t : Nat)) (T.toNat + 1) = 0 := by
  have h := ov_set (x := x) (fun _ => true) hN.ends (Nat.le_refl fs.length)
  simp only [if_true] at h
  rw [h]
  exact sumN_zero fun i _ => by unfold brS; simp
theorem all_zero {T : Int} {fs : List Fl} {x : List Int} (hN : Net T fs) (hr : inRg fs x) (h : ∀ t : Nat, t < T.toNat + 1 → ov fs x fs.length (t : Nat) ≤ 0) : IsT T fs x := by
  refine ⟨hr, fun t h1 h2 => ?_⟩
  have hs := ov_sum (x := x) hN
  have hp := sumN_pos (g := fun t => 0 - ov fs x fs.length (t : Nat)) (n := T.toNat + 1) (fun i hi => by have := h i hi; omega) (j := t.toNat) (by omega)
  have e1 : ((t.toNat : Nat) : Int) = t := by omega
  rw [sumN_sub, hs, sumN_zero (fun _ _ => rfl)] at hp
  simp only [e1] at hp
  have := h t.toNat (by omega)
  rw [e1] at this
  omega
section
variable {tbl : Nat → Option AFn} {bd : Nat} {E : FE} {d : Option Nat} {R : FE → Hp → Cls → Prop} {x i : AO} {kd : IntKind}
theorem W1.idxAI {n j : Nat} {xs : List Int} (hx : xev E x = .agg (ints xs)) (hi : xev E i = .int kd (j : Nat)) (hn : xs.length = n) (hj : j < n) (k : R (fput E d (.int .i64 (xs.getD j 0))) F .n) : W1 tbl lo bd ⟨d, .idxA n 1 none x i, none⟩ E F R := by
  subst hn
  refine W1.val (v := .int .i64 (xs.getD j 0)) ?_ k
  simp only [opLocF, hx, hi]
  rw [if_pos (by omega)]
  simp only [partC, Nat.mul_one, Int.toNat_natCast]
  rw [ints_get xs hj]
end
def lackB (O : List Int) (t : Int) : Bool := decide (O.getD t.toNat 0 < 0)
theorem f77_ok {O : List Int} {b3 : Nat} {ob : Bool} {t : Int} (hm : (b3, .cells (ints O) ob) ∈ F) (hO : O.length = 13) (ht : 0 ≤ t ∧ t < 13) : Pure tblW (.fn (.func 77) [] [.ptr (some (b3, 0))]) [.int .i64 t] F (.bool (lackB O t)) := by
  intro lo
  refine Fn.func (fn := af77) rfl rfl ?_
  (repeat' (first | (first | refine Wo.nil ?_ | refine Wd.nil ?_ | ((first | refine Wo.cons ?_ | refine Wd.cons ?_); (try refine W1.go rfl rfl ?_); ((first | refine k1 ?_ | refine k2 ?_ | (refine isDst 5 ?_; refine W1.iaddrA t.toNat rfl rfl (by omega) (by omega) ?_) | (refine isDst 6 ?_; refine W1.loadI (j := t.toNat) (xs := O) rfl (by omega) hm (by omega) ?_) | refine W1.auto ?_ | ((first | refine kA ?_ | refine kB ?_ | refine kC ?_ | refine kD ?_ | refine kE ?_ | refine kF ?_ | refine kG ?_); refine ⟨fun _ => ?_, fun _ => ?_⟩)) <;> (try refine ⟨fun _ => rfl, ?_⟩)))) | (first | refine Ws.seq ?_ | refine Ws.region ?_ | refine Ws.draw (fun bd hbd => ?_) | refine Ws.cond rfl ?_ | refine Ws.skip ?_ | refine Ws.scope ?_ | refine Ws.block ?_ | refine Ws.exit ?_ | refine Ws.ret ?_)))
  all_goals (refine FnEnd.ret (F' := F) (vs := [_]) (by (first | refine ResF.tmp inW ?_ | refine ResF.cell rfl inF inP ?_); exact ResF.nil) inS ⟨?_, rfl⟩)
  all_goals (simp only [lackB]; (simp only [tupOf, AV.bool.injEq]; symm; first | (apply decide_eq_true; omega) | (apply decide_eq_false; omega)))
theorem f56_min {O : List Int} {aa : Nat} {bk b3 : Nat} {B : FE} {H : Hp} (hO : O.length = 13) (hp : 0 < O.getD aa 0) (hb : ∀ t, -100000000 ≤ O.getD t 0 ∧ O.getD t 0 ≤ 100000000) :
    Ws tblW lo none (af56.body.loopAt 1) (upds B ((6, .int .i64 (O.getD aa 0)) :: (22, .int .i64 0) :: [(0, .ptr (some (bk, 0))), (4, .int .i64 (aa : Nat)), (5, .fn (.func 77) [] [.ptr (some (b3, 0))]), (21, .agg (ints O))])) H
      fun r E' G => r = .exit 2 ∧ ∃ m, 0 < m ∧ m ≤ O.getD aa 0 ∧ (∀ j, j < 13 → O.getD j 0 < 0 → m ≤ -O.getD j 0) ∧ Holds E' ((6, .int .i64 m) :: [(0, .ptr (some (bk, 0))), (4, .int .i64 (aa : Nat)), (5, .fn (.func 77) [] [.ptr (some (b3, 0))])]) ∧ G = H := by
  show Ws tblW lo none (.loop _) _ _ _
  refine Ws.shrink ?_
  refine Ws.loopG (X := Nat × Int) (fun X => (6, .int .i64 X.2) :: (22, .int .i64 (X.1 : Nat)) :: [(0, .ptr (some (bk, 0))), (4, .int .i64 (aa : Nat)), (5, .fn (.func 77) [] [.ptr (some (b3, 0))]), (21, .agg (ints O))]) (fun _ => H) (fun X => X.1 ≤ 13 ∧ 0 < X.2 ∧ X.2 ≤ O.getD aa 0 ∧ ∀ j, j < X.1 → O.getD j 0 < 0 → X.2 ≤ -O.getD j 0) (fun X => 13 - X.1) (0, O.getD aa 0) ⟨rfl, rfl, rfl, rfl, rfl, rfl, trivial⟩ (List.Sublist.refl _) ⟨Nat.zero_le _, hp, Int.le_refl _, fun j hj => absurd hj (Nat.not_lt_zero j)⟩ ?_
  rintro ⟨i, m⟩ B2 ⟨hi, h1, h2, h3⟩
  dsimp only at hi h1 h2 h3 ⊢
  by_cases hic : i < 13
  · have hbi := hb i
    by_cases hneg : O.getD i 0 < 0
    · (repeat' (first | (first | refine Wo.nil ?_ | refine Wd.nil ?_ | ((first | refine Wo.cons ?_ | refine Wd.cons ?_); (try refine W1.go rfl rfl ?_); ((first | refine k1 ?_ | refine k2 ?_ | (refine isDst 23 ?_; refine W1.cO ?_) | (refine isDst 24 ?_; refine W1.idxAI rfl rfl hO hic ?_) | (refine isDst 26 ?_; refine W1.cO ?_) | refine W1.auto ?_ | ((first | refine kA ?_ | refine kB ?_ | refine kC ?_ | refine kD ?_ | refine kE ?_ | refine kF ?_ | refine kG ?_); refine ⟨fun _ => ?_, fun _ => ?_⟩)) <;> (try refine ⟨fun _ => rfl, ?_⟩)))) | (first | refine Ws.seq ?_ | refine Ws.region ?_ | refine Ws.draw (fun bd hbd => ?_) | refine Ws.cond rfl ?_ | refine Ws.skip ?_ | refine Ws.scope ?_ | refine Ws.block ?_ | refine Ws.exit ?_ | refine Ws.ret ?_)))
      refine ⟨(i + 1, min m (-O.getD i 0)), ⟨rfl, rfl, rfl, rfl, rfl, rfl, trivial⟩, List.Sublist.refl _, ⟨hic, by show 0 < min m _; omega, by show min m _ ≤ _; omega, fun j hj hn => ?_⟩, by show _ - (i + 1) < _ - i; omega⟩
      show min m _ ≤ _
      rcases Nat.lt_succ_iff_lt_or_eq.1 hj with hj | rfl
      · have := h3 j hj hn; omega
      · omega
    · (repeat' (first | (first | refine Wo.nil ?_ | refine Wd.nil ?_ | ((first | refine Wo.cons ?_ | refine Wd.cons ?_); (try refine W1.go rfl rfl ?_); ((first | refine k1 ?_ | refine k2 ?_ | (refine isDst 23 ?_; refine W1.cO ?_) | (refine isDst 24 ?_; refine W1.idxAI rfl rfl hO hic ?_) | (refine isDst 26 ?_; refine W1.cO ?_) | refine W1.auto ?_ | ((first | refine kA ?_ | refine kB ?_ | refine kC ?_ | refine kD ?_ | refine kE ?_ | refine kF ?_ | refine kG ?_); refine ⟨fun _ => ?_, fun _ => ?_⟩)) <;> (try refine ⟨fun _ => rfl, ?_⟩)))) | (first | refine Ws.seq ?_ | refine Ws.region ?_ | refine Ws.draw (fun bd hbd => ?_) | refine Ws.cond rfl ?_ | refine Ws.skip ?_ | refine Ws.scope ?_ | refine Ws.block ?_ | refine Ws.exit ?_ | refine Ws.ret ?_)))
      refine ⟨(i + 1, m), ⟨rfl, rfl, rfl, rfl, rfl, rfl, trivial⟩, List.Sublist.refl _, ⟨hic, h1, h2, fun j hj hn => ?_⟩, by show _ - (i + 1) < _ - i; omega⟩
      rcases Nat.lt_succ_iff_lt_or_eq.1 hj with hj | rfl
      · exact h3 j hj hn
      · exact absurd hn hneg
  · obtain rfl : i = 13 := by omega
    (repeat' (first | (first | refine Wo.nil ?_ | refine Wd.nil ?_ | ((first | refine Wo.cons ?_ | refine Wd.cons ?_); (try refine W1.go rfl rfl ?_); ((first | refine k1 ?_ | refine k2 ?_ | (refine isDst 23 ?_; refine W1.cO ?_) | refine W1.auto ?_ | ((first | refine kA ?_ | refine kB ?_ | refine kC ?_ | refine kD ?_ | refine kE ?_ | refine kF ?_ | refine kG ?_); refine ⟨fun _ => ?_, fun _ => ?_⟩)) <;> (try refine ⟨fun _ => rfl, ?_⟩)))) | (first | refine Ws.seq ?_ | refine Ws.region ?_ | refine Ws.draw (fun bd hbd => ?_) | refine Ws.cond rfl ?_ | refine Ws.skip ?_ | refine Ws.scope ?_ | refine Ws.block ?_ | refine Ws.exit ?_ | refine Ws.ret ?_)))
    exact ⟨H, List.Sublist.refl _, rfl, m, h1, h2, h3, ⟨rfl, rfl, rfl, rfl, trivial⟩, rfl⟩
end Go.Ax
