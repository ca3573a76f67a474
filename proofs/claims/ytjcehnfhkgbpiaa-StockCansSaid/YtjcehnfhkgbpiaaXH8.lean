/-
  The law StockMeters: in each run the machine's answer is true.
-/
import Derived.Test.YtjcehnfhkgbpiaaXH7
namespace Go.Ax
set_option maxHeartbeats 4000000
set_option maxRecDepth 6000
set_option linter.unusedSimpArgs false
set_option linter.unusedVariables false
variable {lo : Nat} {F : Hp}
theorem W1.eq2T {tbl : Nat → Option AFn} {bd : Nat} {E : FE} {d : Option Nat} {R : FE → Hp → Cls → Prop} {x y : AO} {kd : IntKind} {a b : Int} (hx : xev E x = .agg [.int kd a, .int kd b]) (hy : xev E y = .agg [.int kd a, .int kd b]) (k : R (fput E d (.bool true)) F .n) : W1 tbl lo bd ⟨d, .eqf false true [.int, .int] x y, none⟩ E F R := by
  refine W1.eqfB (t := true) hx hy ?_ (fun _ => k) (fun h => by cases h)
  simp [eqAV, leafsEq, leafEq]
attribute [local irreducible] meterR wornR
theorem f6_ok {shown l h : Int} {cs : List (Int × Int)} {v : AV} (hr : RowR F v cs) (hl : cs.length ≤ 9223372036854775807) : Pure tblW (fnv 6) [.int .i64 shown, .agg [.int .i64 l, .int .i64 h], v] F (.bool true) := by
  intro lo
  refine Fn.func (fn := af6) rfl rfl ?_
  (repeat' (first | (first | refine Wo.nil ?_ | refine Wd.nil ?_ | ((first | refine Wo.cons ?_ | refine Wd.cons ?_); (try refine W1.go rfl rfl ?_); ((first | refine k1 ?_ | refine k2 ?_ | (refine isDst 4 ?_; refine W1.boxA rfl (fun b4 hb4 => ?_)) | (refine isDst 16 ?_; refine W1.lenR hr.cons rfl ?_) | (refine isDst 22 ?_; refine W1.pure rfl rfl f33_ok ?_) | (refine isDst 28 ?_; refine W1.pure rfl rfl f34_ok ?_) | (refine isDst 33 ?_; refine W1.pure rfl rfl (f35_ok inR hl) ?_) | (refine isDst 38 ?_; refine W1.pure rfl rfl (f36_ok inR hl) ?_) | refine W1.eq2T rfl rfl ?_ | (refine isBinEql ?_; refine W1.eqlT rfl rfl rfl ?_) | (refine isCall ?_; refine W1.pure rfl rfl f16_ok ?_) | refine W1.auto ?_ | ((first | refine kA ?_ | refine kB ?_ | refine kC ?_ | refine kD ?_ | refine kE ?_ | refine kF ?_ | refine kG ?_); refine ⟨fun _ => ?_, fun _ => ?_⟩) | refine W1.alloc (fun _ _ => ?_) | refine W1.boxA rfl (fun _ _ => ?_) | refine kq (fun _ _ => ?_) | refine kp ?_ | (refine isIaddrs ?_; first | refine W1.iaddrI inI rfl rfl (by omega) (fun _ _ _ _ _ _ => ?_) | refine W1.iaddrR inR rfl rfl (by omega) (fun _ _ _ _ _ _ _ => ?_)) | (refine isBox ?_; refine W1.boxS inW (by rfl) (fun _ _ => ?_)) | (refine isBslice ?_; refine W1.bslice (fill_all inC rfl) (fun _ _ => ?_))) <;> (try refine ⟨fun _ => rfl, ?_⟩)))) | (first | refine Ws.seq ?_ | refine Ws.region ?_ | refine Ws.draw (fun bd hbd => ?_) | refine Ws.cond rfl ?_ | refine Ws.skip ?_ | refine Ws.scope ?_ | refine Ws.block ?_ | refine Ws.exit ?_ | refine Ws.ret ?_)))
  · (refine FnEnd.ret (F' := F) (vs := [_]) (by (first | refine ResF.tmp inW ?_ | refine ResF.cell rfl inF inP ?_); exact ResF.nil) inS ⟨?_, rfl⟩)
    rfl
  · (refine FnEnd.ret (F' := F) (vs := [_]) (by (first | refine ResF.tmp inW ?_ | refine ResF.cell rfl inF inP ?_); exact ResF.nil) inS ⟨?_, rfl⟩)
    rfl
end Go.Ax
