/-
  Contracts: the first cheapest of several choices.
-/
import Derived.Test.YtmhbmnonichopaaXS2
namespace Go.Ax
set_option maxHeartbeats 8000000
set_option linter.unusedSimpArgs false
set_option linter.unusedVariables false
variable {lo : Nat} {F : Hp}

theorem W1.slcFrom {tbl : Nat → Option AFn} {bd : Nat} {E : FE} {d : Option Nat} {R : FE → Hp → Cls → Prop} {x l : AO} {b o len cap es sz : Nat} {ex : Bool} {kd : IntKind} (m : Nat) (hx : xev E x = .slc (some (b, o)) len cap ex es) (hes : es = sz) (hl : xev E l = .int kd (m : Nat)) (hm : m ≤ len) (k : R (fput E d (.slc (some (b, o + m * sz)) (len - m) (cap - m) ex es)) F .n) : W1 tbl lo bd ⟨d, .slc sz x (some l) none none, none⟩ E F R := by
  subst hes
  refine W1.val (v := .slc (some (b, o + m * es)) (len - m) (cap - m) ex es) ?_ k
  simp only [opLocF, hx, hl, Option.map_some, Option.map_none, bounds3, bound, Option.bind_eq_bind, Option.bind_some, Option.isSome_none, Option.isNone_none, Bool.false_and, Bool.false_eq_true, if_false, Int.toNat_natCast]
  rw [if_pos (show (0 : Int) ≤ (m : Int) ∧ (m : Int) ≤ (len : Int) by omega)]
  simp [moved]

theorem sub_cells {b : Nat} {l l' : List AV} {G F : Hp} (h : l' = l) (hF : List.Sublist G F) : List.Sublist ((b, ABlk.cells l true) :: G) ((b, ABlk.cells l' true) :: F) := by subst h; exact hF.cons_cons _
def minP (rs : List (Int × Int)) : Nat → Int × Int
  | 0 => rs.getD 0 (0, 0)
  | i + 1 => if (rs.getD (i + 1) (0, 0)).2 < (minP rs i).2 then rs.getD (i + 1) (0, 0) else minP rs i
theorem rowR_drop1 {F : Hp} {b n cap es : Nat} {ex own : Bool} {rs : List (Int × Int)} (hm : (b, .cells (flat rs) own) ∈ F) (hn : n = rs.length - 1) : RowR F (.slc (some (b, 0 + 1 * 2)) n cap ex es) (rs.drop 1) := by
  subst hn
  refine ⟨some (b, 0 + 1 * 2), cap, ex, es, by simp, fun j hj => ⟨b, _, _, own, rfl, hm, ?_, ?_⟩⟩
  · rw [List.length_drop] at hj
    rw [getD_drop1, show 0 + 1 * 2 + j * 2 = (j + 1) * 2 by omega]
    exact (flatR_get rs (j + 1) (by omega)).1
  · rw [List.length_drop] at hj
    rw [getD_drop1, show 0 + 1 * 2 + j * 2 + 1 = (j + 1) * 2 + 1 by omega]
    exact (flatR_get rs (j + 1) (by omega)).2

theorem f69_ok {a b : Int} : Pure tblW (fnv 69) [.agg [.int .i64 a, .int .i64 b]] F (.int .i64 b) := by
  intro lo
  refine Fn.func (fn := af69) rfl rfl ?_
  (repeat' (first | (first | refine Wo.nil ?_ | refine Wd.nil ?_ | ((first | refine Wo.cons ?_ | refine Wd.cons ?_); (try refine W1.go rfl rfl ?_); ((first | refine k1 ?_ | refine k2 ?_ | refine W1.auto ?_ | ((first | refine kA ?_ | refine kB ?_ | refine kC ?_ | refine kD ?_ | refine kE ?_ | refine kF ?_ | refine kG ?_); refine ⟨fun _ => ?_, fun _ => ?_⟩) | refine W1.alloc (fun _ _ => ?_) | refine W1.boxA rfl (fun _ _ => ?_) | refine kq (fun _ _ => ?_) | refine kp ?_ | (refine isIaddrs ?_; first | refine W1.iaddrI inI rfl rfl (by omega) (fun _ _ _ _ _ _ => ?_) | refine W1.iaddrR inR rfl rfl (by omega) (fun _ _ _ _ _ _ _ => ?_)) | (refine isBox ?_; refine W1.boxS inW (by rfl) (fun _ _ => ?_)) | (refine isBslice ?_; refine W1.bslice (fill_all inC rfl) (fun _ _ => ?_))) <;> (try refine ⟨fun _ => rfl, ?_⟩)))) | (first | refine Ws.seq ?_ | refine Ws.region ?_ | refine Ws.draw (fun bd hbd => ?_) | refine Ws.cond rfl ?_ | refine Ws.skip ?_ | refine Ws.scope ?_ | refine Ws.block ?_ | refine Ws.exit ?_ | refine Ws.ret ?_)))
  (refine FnEnd.ret (F' := F) (vs := [_]) (by (first | refine ResF.tmp inW ?_ | refine ResF.cell rfl inF inP ?_); exact ResF.nil) inS ⟨?_, rfl⟩)
  rfl

theorem f71_ok {b : Nat} {ex own : Bool} {rs : List (Int × Int)} {fv : AV} (hm : (b, .cells (flat rs) own) ∈ F) (h1 : 1 ≤ rs.length) (hlen : rs.length ≤ 1000000) (hof : ∀ a c F', Pure tblW fv [.agg [.int .i64 a, .int .i64 c]] F' (.int .i64 c)) :
    Pure tblW (fnv 71) [.slc (some (b, 0)) rs.length rs.length ex 2, fv] F (.agg [.int .i64 (minP rs (rs.length - 1)).1, .int .i64 (minP rs (rs.length - 1)).2]) := by
  intro lo
  refine Fn.func (fn := af71) rfl rfl ?_
  have hrow0 : RowR F (.slc (some (b, 0)) rs.length rs.length ex 2) rs := ⟨_, _, _, _, rfl, fun j hj => ⟨b, 0, _, own, rfl, hm, by rw [Nat.zero_add]; exact (flatR_get rs j hj).1, by rw [Nat.zero_add]; exact (flatR_get rs j hj).2⟩⟩
  (repeat' (first | (first | refine Wo.nil ?_ | refine Wd.nil ?_ | ((first | refine Wo.cons ?_ | refine Wd.cons ?_); (try refine W1.go rfl rfl ?_); ((first | refine k1 ?_ | refine k2 ?_ | (refine isIaddrs ?_; refine W1.iaddrR hrow0.cons rfl rfl (j := 0) (by omega) (fun _ _ _ _ _ _ _ => ?_)) | (refine isSlc ?_; refine W1.slcFrom 1 rfl rfl rfl (by omega) ?_) | (refine isCall ?_; refine W1.pure rfl rfl (hof _ _ _) ?_) | refine W1.auto ?_ | ((first | refine kA ?_ | refine kB ?_ | refine kC ?_ | refine kD ?_ | refine kE ?_ | refine kF ?_ | refine kG ?_); refine ⟨fun _ => ?_, fun _ => ?_⟩) | refine W1.alloc (fun _ _ => ?_) | refine W1.boxA rfl (fun _ _ => ?_) | refine kq (fun _ _ => ?_) | refine kp ?_ | (refine isIaddrs ?_; first | refine W1.iaddrI inI rfl rfl (by omega) (fun _ _ _ _ _ _ => ?_) | refine W1.iaddrR inR rfl rfl (by omega) (fun _ _ _ _ _ _ _ => ?_)) | (refine isBox ?_; refine W1.boxS inW (by rfl) (fun _ _ => ?_)) | (refine isBslice ?_; refine W1.bslice (fill_all inC rfl) (fun _ _ => ?_))) <;> (try refine ⟨fun _ => rfl, ?_⟩)))) | (first | refine Ws.seq ?_ | refine Ws.region ?_ | refine Ws.draw (fun bd hbd => ?_) | refine Ws.cond rfl ?_ | refine Ws.skip ?_ | refine Ws.scope ?_ | refine Ws.block ?_ | refine Ws.exit ?_ | refine Ws.ret ?_)))
  rename_i b4 hb4 b5 o5 l5 own5 hm5 hc1 hc2 bb hbb
  have hrow1 : RowR F (.slc (some (b, 0 + 1 * 2)) (rs.length - 1) (rs.length - 1) ex 2) (rs.drop 1) := rowR_drop1 hm rfl
  have hl1 : (rs.drop 1).length = rs.length - 1 := List.length_drop ..
  (repeat' (first | (first | refine Wo.nil ?_ | refine Wd.nil ?_ | ((first | refine Wo.cons ?_ | refine Wd.cons ?_); (try refine W1.go rfl rfl ?_); ((first | refine k1 ?_ | refine k2 ?_ | (refine isIaddrs ?_; refine W1.iaddrR hrow0.cons rfl rfl (j := 0) (by omega) (fun _ _ _ _ _ _ _ => ?_)) | (refine isSlc ?_; refine W1.slcFrom 1 rfl rfl rfl (by omega) ?_) | (refine isCall ?_; refine W1.pure rfl rfl (hof _ _ _) ?_) | refine W1.auto ?_ | ((first | refine kA ?_ | refine kB ?_ | refine kC ?_ | refine kD ?_ | refine kE ?_ | refine kF ?_ | refine kG ?_); refine ⟨fun _ => ?_, fun _ => ?_⟩) | refine W1.alloc (fun _ _ => ?_) | refine W1.boxA rfl (fun _ _ => ?_) | refine kq (fun _ _ => ?_) | refine kp ?_ | (refine isIaddrs ?_; first | refine W1.iaddrI inI rfl rfl (by omega) (fun _ _ _ _ _ _ => ?_) | refine W1.iaddrR inR rfl rfl (by omega) (fun _ _ _ _ _ _ _ => ?_)) | (refine isBox ?_; refine W1.boxS inW (by rfl) (fun _ _ => ?_)) | (refine isBslice ?_; refine W1.bslice (fill_all inC rfl) (fun _ _ => ?_))) <;> (try refine ⟨fun _ => rfl, ?_⟩)))) | (first | refine Ws.seq ?_ | refine Ws.region ?_ | refine Ws.draw (fun bd hbd => ?_) | refine Ws.cond rfl ?_ | refine Ws.skip ?_ | refine Ws.scope ?_ | refine Ws.block ?_ | refine Ws.exit ?_ | refine Ws.ret ?_)))
  refine Ws.loopD 134201472 rfl [(1, _), (4, _), (5, _), (12, _), (13, _)] ⟨inW, inW, inW, inW, inW, trivial⟩ [1, 4, 5, 12, 13] rfl rfl (X := Nat) (fun i => [(14, .int .i64 (i : Nat))]) (fun i => (bb, .cells [.int .i64 (minP rs i).1, .int .i64 (minP rs i).2] true) :: (b4, .cells [.int .i64 0, .int .i64 0] true) :: F)
    (fun i => i ≤ rs.length - 1) (fun i => rs.length - 1 - i) 0 ⟨rfl, trivial⟩ inS (Nat.zero_le _) ?_
  intro i B hi
  have hgi : i < rs.length - 1 → (rs.drop 1).getD i (0, 0) = rs.getD (i + 1) (0, 0) := fun _ => getD_drop1 rs i _
  (repeat' (first | (first | refine Wo.nil ?_ | refine Wd.nil ?_ | ((first | refine Wo.cons ?_ | refine Wd.cons ?_); (try refine W1.go rfl rfl ?_); ((first | refine k1 ?_ | refine k2 ?_ | (refine isIaddrs ?_; refine W1.iaddrR hrow0.cons rfl rfl (j := 0) (by omega) (fun _ _ _ _ _ _ _ => ?_)) | (refine isSlc ?_; refine W1.slcFrom 1 rfl rfl rfl (by omega) ?_) | (refine isCall ?_; refine W1.pure rfl rfl (hof _ _ _) ?_) | refine W1.auto ?_ | ((first | refine kA ?_ | refine kB ?_ | refine kC ?_ | refine kD ?_ | refine kE ?_ | refine kF ?_ | refine kG ?_); refine ⟨fun _ => ?_, fun _ => ?_⟩) | refine W1.alloc (fun _ _ => ?_) | refine W1.boxA rfl (fun _ _ => ?_) | refine kq (fun _ _ => ?_) | refine kp ?_ | (refine isIaddrs ?_; first | refine W1.iaddrI inI rfl rfl (by omega) (fun _ _ _ _ _ _ => ?_) | refine W1.iaddrR inR rfl rfl (by omega) (fun _ _ _ _ _ _ _ => ?_)) | (refine isBox ?_; refine W1.boxS inW (by rfl) (fun _ _ => ?_)) | (refine isBslice ?_; refine W1.bslice (fill_all inC rfl) (fun _ _ => ?_))) <;> (try refine ⟨fun _ => rfl, ?_⟩)))) | (first | refine Ws.seq ?_ | refine Ws.region ?_ | refine Ws.draw (fun bd hbd => ?_) | refine Ws.cond rfl ?_ | refine Ws.skip ?_ | refine Ws.scope ?_ | refine Ws.block ?_ | refine Ws.exit ?_ | refine Ws.ret ?_)))
  · have e : minP rs (i + 1) = rs.getD (i + 1) (0, 0) := if_pos (by rw [← hgi (by omega)]; assumption)
    refine ⟨i + 1, ⟨rfl, trivial⟩, .cons _ (sub_cells ?_ (List.Sublist.refl _)), by show i + 1 ≤ _; omega, by show _ - (i + 1) < _; omega⟩
    rw [e, hgi (by omega)]
  · have e : minP rs (i + 1) = minP rs i := if_neg (by rw [← hgi (by omega)]; omega)
    refine ⟨i + 1, ⟨rfl, trivial⟩, .cons _ (sub_cells ?_ (List.Sublist.refl _)), by show i + 1 ≤ _; omega, by show _ - (i + 1) < _; omega⟩
    rw [e]
  · have e : i = rs.length - 1 := by omega
    subst e
    exact FnEnd.ret (F' := F) (vs := [_]) (.cell inW inF rfl .nil) inS ⟨rfl, rfl⟩
end Go.Ax
