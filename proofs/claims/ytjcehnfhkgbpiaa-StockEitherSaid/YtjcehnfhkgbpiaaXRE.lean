/-
  The law StockEither: in each run the machine's answer is true.
-/
import Derived.Test.YtjcehnfhkgbpiaaXRB
import Derived.Test.YtjcehnfhkgbpiaaXNK
namespace Go.Ax
set_option maxHeartbeats 1000000
set_option maxRecDepth 6000
set_option linter.unusedSimpArgs false
set_option linter.unusedVariables false
attribute [-simp] List.getD_eq_getElem?_getD
variable {lo : Nat} {F : Hp}
theorem f15_ok {T : Int} {fs : List Fl} {v : AV} (hr : FRow F v fs) : Pure tblW (fnv 15) [netV T v] F (.bool (decide (50 < fs.length))) := by
  intro lo
  refine Fn.func (fn := af15) rfl rfl ?_
  (repeat' (first | (first | refine Wo.nil ?_ | refine Wd.nil ?_ | ((first | refine Wo.cons ?_ | refine Wd.cons ?_); (try refine W1.go rfl rfl ?_); ((first | refine k1 ?_ | refine k2 ?_ | (refine isDst 1 ?_; refine W1.boxA rfl (fun b1 hb1 => ?_)) | (refine isLen ?_; refine W1.lenZ hr.cons rfl ?_) | refine W1.auto ?_ | ((first | refine kA ?_ | refine kB ?_ | refine kC ?_ | refine kD ?_ | refine kE ?_ | refine kF ?_ | refine kG ?_); refine ⟨fun _ => ?_, fun _ => ?_⟩) | refine W1.alloc (fun _ _ => ?_) | refine W1.boxA rfl (fun _ _ => ?_) | refine kq (fun _ _ => ?_) | refine kp ?_ | (refine isIaddrs ?_; first | refine W1.iaddrI inI rfl rfl (by omega) (fun _ _ _ _ _ _ => ?_) | refine W1.iaddrR inR rfl rfl (by omega) (fun _ _ _ _ _ _ _ => ?_)) | (refine isBox ?_; refine W1.boxS inW (by rfl) (fun _ _ => ?_)) | (refine isBslice ?_; refine W1.bslice (fill_all inC rfl) (fun _ _ => ?_))) <;> (try refine ⟨fun _ => rfl, ?_⟩)))) | (first | refine Ws.seq ?_ | refine Ws.region ?_ | refine Ws.draw (fun bd hbd => ?_) | refine Ws.cond rfl ?_ | refine Ws.skip ?_ | refine Ws.scope ?_ | refine Ws.block ?_ | refine Ws.exit ?_ | refine Ws.ret ?_)))
  all_goals (refine FnEnd.ret (F' := F) (vs := [_]) (by (first | refine ResF.tmp inW ?_ | refine ResF.cell rfl inF inP ?_); exact ResF.nil) inS ⟨?_, rfl⟩)
  all_goals (simp only [tupOf, AV.bool.injEq]; symm; first | (apply decide_eq_true; omega) | (apply decide_eq_false; omega))
def fineB (T : Int) (fs : List Fl) : Bool := decide (fs.length ≤ 50 ∧ chkN T fs = 0)
theorem f37_ok {T : Int} {fs : List Fl} {v : AV} (hr : FRow F v fs) (hl : fs.length ≤ 9223372036854775807) : Pure tblW (fnv 37) [netV T v] F (.bool (fineB T fs)) := by
  intro lo
  refine Fn.func (fn := af37) rfl rfl ?_
  (repeat' (first | (first | refine Wo.nil ?_ | refine Wd.nil ?_ | ((first | refine Wo.cons ?_ | refine Wd.cons ?_); (try refine W1.go rfl rfl ?_); ((first | refine k1 ?_ | refine k2 ?_ | (refine isDst 1 ?_; refine W1.boxA rfl (fun b1 hb1 => ?_)) | (refine isCall ?_; first | refine W1.pureB rfl rfl (f15_ok hr.cons) (fun h => ?_) (fun h => ?_) | refine W1.pure rfl rfl (f20_ok hr.cons hl) ?_) | refine W1.auto ?_ | ((first | refine kA ?_ | refine kB ?_ | refine kC ?_ | refine kD ?_ | refine kE ?_ | refine kF ?_ | refine kG ?_); refine ⟨fun _ => ?_, fun _ => ?_⟩) | refine W1.alloc (fun _ _ => ?_) | refine W1.boxA rfl (fun _ _ => ?_) | refine kq (fun _ _ => ?_) | refine kp ?_ | (refine isIaddrs ?_; first | refine W1.iaddrI inI rfl rfl (by omega) (fun _ _ _ _ _ _ => ?_) | refine W1.iaddrR inR rfl rfl (by omega) (fun _ _ _ _ _ _ _ => ?_)) | (refine isBox ?_; refine W1.boxS inW (by rfl) (fun _ _ => ?_)) | (refine isBslice ?_; refine W1.bslice (fill_all inC rfl) (fun _ _ => ?_))) <;> (try refine ⟨fun _ => rfl, ?_⟩)))) | (first | refine Ws.seq ?_ | refine Ws.region ?_ | refine Ws.draw (fun bd hbd => ?_) | refine Ws.cond rfl ?_ | refine Ws.skip ?_ | refine Ws.scope ?_ | refine Ws.block ?_ | refine Ws.exit ?_ | refine Ws.ret ?_)))
  all_goals (refine FnEnd.ret (F' := F) (vs := [_]) (by (first | refine ResF.tmp inW ?_ | refine ResF.cell rfl inF inP ?_); exact ResF.nil) inS ⟨?_, rfl⟩)
  all_goals (try simp only [decide_eq_true_eq, decide_eq_false_iff_not] at h)
  all_goals (simp only [fineB]; (simp only [tupOf, AV.bool.injEq]; symm; first | (apply decide_eq_true; omega) | (apply decide_eq_false; omega)))
theorem fineB_net {T : Int} {fs : List Fl} : fineB T fs = true ↔ Net T fs := by
  unfold fineB
  rw [decide_eq_true_eq, chkN_net]
  exact ⟨fun h => h.2, fun h => ⟨by have := h.n; omega, h⟩⟩
section
variable {tbl : Nat → Option AFn} {bd : Nat} {E : FE} {d : Option Nat} {R : FE → Hp → Cls → Prop} {x y : AO}
def shrV (a : Int) (j : Nat) : Int := a.fdiv (2 ^ min j 16)
def andV (a b : Int) : Int := IntKind.u16.wrap ((BitVec.ofInt 16 a &&& BitVec.ofInt 16 b).toNat : Nat)
theorem W1.shr16 {a : Int} {j : Nat} (hx : xev E x = .int .u16 a) (hy : xev E y = .int .i64 (j : Nat)) (k : R (fput E d (.int .u16 (shrV a j))) F .n) : W1 tbl lo bd ⟨d, .bin .shr x y, none⟩ E F R := by
  refine W1.val (v := .int .u16 (shrV a j)) ?_ k
  simp only [opLocF, hx, hy, binAV, binInt]
  rw [if_neg (by omega)]
  simp only [Int.toNat_natCast]
  rfl
theorem W1.and16 {a b : Int} (hx : xev E x = .int .u16 a) (hy : xev E y = .int .u16 b) (k : R (fput E d (.int .u16 (andV a b))) F .n) : W1 tbl lo bd ⟨d, .bin .and x y, none⟩ E F R := by
  refine W1.val (v := .int .u16 (andV a b)) ?_ k
  simp only [opLocF, hx, hy, binAV, binInt]
  rfl
end
def bitB (bits : Int) (t : Int) : Bool := decide (andV (shrV bits t.toNat) 1 = 1)
theorem f39_ok {T bits : Int} {v : AV} (hT : 1 ≤ T ∧ T ≤ 12) : Fn tblW lo (fnv 39) [netV T v, .int .u16 bits] F (fun r F' => ∃ Fo, OwnI lo false r Fo (pickL T (bitB bits)) ∧ F' = Fo ++ F) := by
  refine Fn.func (fn := af39) rfl rfl ?_
  rw [pickL_N]
  (repeat' (first | (first | refine Wo.nil ?_ | refine Wd.nil ?_ | ((first | refine Wo.cons ?_ | refine Wd.cons ?_); (try refine W1.go rfl rfl ?_); ((first | refine k1 ?_ | refine k2 ?_ | (refine isDst 2 ?_; refine W1.boxA rfl (fun b2 hb2 => ?_)) | (refine isDst 9 ?_; refine W1.load1 rfl (List.mem_append_right _ (List.mem_cons_self ..)) rfl ?_) | (refine isDst 10 ?_; refine W1.cO ?_) | (refine isDst 15 ?_; refine W1.shr16 rfl rfl ?_) | (refine isDst 16 ?_; refine W1.and16 rfl rfl ?_) | (refine isDst 17 ?_; refine W1.cO ?_) | (refine isDst 20 ?_; refine W1.bslice (l := [.int .i64 (i : Nat)]) (fill_all (catF1 rfl rfl catF0) rfl) (fun b20 hb20 => ?_)) | (refine isDst 21 ?_; refine W1.appI (F1 := [_]) rfl ho rfl rfl (List.mem_cons_self ..) (by omega) (fun w Fw hw => ?_); simp only [List.cons_append, List.nil_append]) | refine W1.auto ?_ | ((first | refine kA ?_ | refine kB ?_ | refine kC ?_ | refine kD ?_ | refine kE ?_ | refine kF ?_ | refine kG ?_); refine ⟨fun _ => ?_, fun _ => ?_⟩) | refine W1.alloc (fun _ _ => ?_) | refine W1.boxA rfl (fun _ _ => ?_) | refine kq (fun _ _ => ?_) | refine kp ?_ | (refine isIaddrs ?_; first | refine W1.iaddrI inI rfl rfl (by omega) (fun _ _ _ _ _ _ => ?_) | refine W1.iaddrR inR rfl rfl (by omega) (fun _ _ _ _ _ _ _ => ?_)) | (refine isBox ?_; refine W1.boxS inW (by rfl) (fun _ _ => ?_)) | (refine isBslice ?_; refine W1.bslice (fill_all inC rfl) (fun _ _ => ?_))) <;> (try refine ⟨fun _ => rfl, ?_⟩)))) | (first | refine Ws.seq ?_ | refine Ws.region ?_ | refine Ws.draw (fun bd hbd => ?_) | refine Ws.cond rfl ?_ | refine Ws.skip ?_ | refine Ws.scope ?_ | refine Ws.block ?_ | refine Ws.exit ?_ | refine Ws.ret ?_)))
  refine Ws.fresh (l := (5, (AV.slc none 0 0 true 0)) :: (6, .int .i64 0) :: [(1, .int .u16 bits), (2, .ptr (some (b2, 0)))]) ⟨rfl, rfl, rfl, rfl, trivial⟩ (fun B => ?_)
  refine Ws.loopG (X := Nat × AV × Hp) (fun x => (5, x.2.1) :: (6, .int .i64 (x.1 : Nat)) :: [(1, .int .u16 bits), (2, .ptr (some (b2, 0)))]) (fun x => x.2.2 ++ ((b2, .cells [.int .i64 T, v] true) :: F)) (fun x => x.1 ≤ T.toNat + 1 ∧ OwnI lo false x.2.1 x.2.2 (pickN (bitB bits) x.1)) (fun x => T.toNat + 1 - x.1) (0, (AV.slc none 0 0 true 0), []) ⟨rfl, rfl, rfl, rfl, trivial⟩ (List.Sublist.refl _) ⟨Nat.zero_le _, .nil⟩ ?_
  rintro ⟨i, u, Fo⟩ B2 ⟨hi, ho⟩
  have hi : i ≤ T.toNat + 1 := hi
  have ho : OwnI lo false u Fo (pickN (bitB bits) i) := ho
  dsimp only
  have hpl := pickN_len (bitB bits) i
  by_cases hic : i < T.toNat + 1
  · by_cases hs : andV (shrV bits i) 1 = 1
    · have ep : pickN (bitB bits) (i + 1) = pickN (bitB bits) i ++ [((i : Nat) : Int)] := by rw [pickN_succ, if_pos (show bitB bits (i : Nat) = true by unfold bitB; rw [Int.toNat_natCast]; exact decide_eq_true hs)]
      (repeat' (first | (first | refine Wo.nil ?_ | refine Wd.nil ?_ | ((first | refine Wo.cons ?_ | refine Wd.cons ?_); (try refine W1.go rfl rfl ?_); ((first | refine k1 ?_ | refine k2 ?_ | (refine isDst 2 ?_; refine W1.boxA rfl (fun b2 hb2 => ?_)) | (refine isDst 9 ?_; refine W1.load1 rfl (List.mem_append_right _ (List.mem_cons_self ..)) rfl ?_) | (refine isDst 10 ?_; refine W1.cO ?_) | (refine isDst 15 ?_; refine W1.shr16 rfl rfl ?_) | (refine isDst 16 ?_; refine W1.and16 rfl rfl ?_) | (refine isDst 17 ?_; refine W1.cO ?_) | (refine isDst 20 ?_; refine W1.bslice (l := [.int .i64 (i : Nat)]) (fill_all (catF1 rfl rfl catF0) rfl) (fun b20 hb20 => ?_)) | (refine isDst 21 ?_; refine W1.appI (F1 := [_]) rfl ho rfl rfl (List.mem_cons_self ..) (by omega) (fun w Fw hw => ?_); simp only [List.cons_append, List.nil_append]) | refine W1.auto ?_ | ((first | refine kA ?_ | refine kB ?_ | refine kC ?_ | refine kD ?_ | refine kE ?_ | refine kF ?_ | refine kG ?_); refine ⟨fun _ => ?_, fun _ => ?_⟩) | refine W1.alloc (fun _ _ => ?_) | refine W1.boxA rfl (fun _ _ => ?_) | refine kq (fun _ _ => ?_) | refine kp ?_ | (refine isIaddrs ?_; first | refine W1.iaddrI inI rfl rfl (by omega) (fun _ _ _ _ _ _ => ?_) | refine W1.iaddrR inR rfl rfl (by omega) (fun _ _ _ _ _ _ _ => ?_)) | (refine isBox ?_; refine W1.boxS inW (by rfl) (fun _ _ => ?_)) | (refine isBslice ?_; refine W1.bslice (fill_all inC rfl) (fun _ _ => ?_))) <;> (try refine ⟨fun _ => rfl, ?_⟩)))) | (first | refine Ws.seq ?_ | refine Ws.region ?_ | refine Ws.draw (fun bd hbd => ?_) | refine Ws.cond rfl ?_ | refine Ws.skip ?_ | refine Ws.scope ?_ | refine Ws.block ?_ | refine Ws.exit ?_ | refine Ws.ret ?_)))
      refine ⟨(i + 1, w, Fw), ⟨rfl, rfl, rfl, rfl, trivial⟩, ?_, ⟨hic, ?_⟩, by show _ - (i + 1) < _ - i; omega⟩
      · exact List.Sublist.append (List.Sublist.refl _) (.cons _ (List.Sublist.refl _))
      · show OwnI lo false w Fw (pickN (bitB bits) (i + 1))
        rw [ep]; exact hw
    · have ep : pickN (bitB bits) (i + 1) = pickN (bitB bits) i := by rw [pickN_succ, if_neg (fun h => hs (by have := of_decide_eq_true h; rwa [Int.toNat_natCast] at this))]
      (repeat' (first | (first | refine Wo.nil ?_ | refine Wd.nil ?_ | ((first | refine Wo.cons ?_ | refine Wd.cons ?_); (try refine W1.go rfl rfl ?_); ((first | refine k1 ?_ | refine k2 ?_ | (refine isDst 2 ?_; refine W1.boxA rfl (fun b2 hb2 => ?_)) | (refine isDst 9 ?_; refine W1.load1 rfl (List.mem_append_right _ (List.mem_cons_self ..)) rfl ?_) | (refine isDst 10 ?_; refine W1.cO ?_) | (refine isDst 15 ?_; refine W1.shr16 rfl rfl ?_) | (refine isDst 16 ?_; refine W1.and16 rfl rfl ?_) | (refine isDst 17 ?_; refine W1.cO ?_) | (refine isDst 20 ?_; refine W1.bslice (l := [.int .i64 (i : Nat)]) (fill_all (catF1 rfl rfl catF0) rfl) (fun b20 hb20 => ?_)) | (refine isDst 21 ?_; refine W1.appI (F1 := [_]) rfl ho rfl rfl (List.mem_cons_self ..) (by omega) (fun w Fw hw => ?_); simp only [List.cons_append, List.nil_append]) | refine W1.auto ?_ | ((first | refine kA ?_ | refine kB ?_ | refine kC ?_ | refine kD ?_ | refine kE ?_ | refine kF ?_ | refine kG ?_); refine ⟨fun _ => ?_, fun _ => ?_⟩) | refine W1.alloc (fun _ _ => ?_) | refine W1.boxA rfl (fun _ _ => ?_) | refine kq (fun _ _ => ?_) | refine kp ?_ | (refine isIaddrs ?_; first | refine W1.iaddrI inI rfl rfl (by omega) (fun _ _ _ _ _ _ => ?_) | refine W1.iaddrR inR rfl rfl (by omega) (fun _ _ _ _ _ _ _ => ?_)) | (refine isBox ?_; refine W1.boxS inW (by rfl) (fun _ _ => ?_)) | (refine isBslice ?_; refine W1.bslice (fill_all inC rfl) (fun _ _ => ?_))) <;> (try refine ⟨fun _ => rfl, ?_⟩)))) | (first | refine Ws.seq ?_ | refine Ws.region ?_ | refine Ws.draw (fun bd hbd => ?_) | refine Ws.cond rfl ?_ | refine Ws.skip ?_ | refine Ws.scope ?_ | refine Ws.block ?_ | refine Ws.exit ?_ | refine Ws.ret ?_)))
      refine ⟨(i + 1, u, Fo), ⟨rfl, rfl, rfl, rfl, trivial⟩, List.Sublist.refl _, ⟨hic, ?_⟩, by show _ - (i + 1) < _ - i; omega⟩
      show OwnI lo false u Fo (pickN (bitB bits) (i + 1))
      rw [ep]; exact ho
  · obtain rfl : i = T.toNat + 1 := by omega
    (repeat' (first | (first | refine Wo.nil ?_ | refine Wd.nil ?_ | ((first | refine Wo.cons ?_ | refine Wd.cons ?_); (try refine W1.go rfl rfl ?_); ((first | refine k1 ?_ | refine k2 ?_ | (refine isDst 2 ?_; refine W1.boxA rfl (fun b2 hb2 => ?_)) | (refine isDst 9 ?_; refine W1.load1 rfl (List.mem_append_right _ (List.mem_cons_self ..)) rfl ?_) | (refine isDst 10 ?_; refine W1.cO ?_) | (refine isDst 15 ?_; refine W1.shr16 rfl rfl ?_) | (refine isDst 16 ?_; refine W1.and16 rfl rfl ?_) | (refine isDst 17 ?_; refine W1.cO ?_) | (refine isDst 20 ?_; refine W1.bslice (l := [.int .i64 (i : Nat)]) (fill_all (catF1 rfl rfl catF0) rfl) (fun b20 hb20 => ?_)) | (refine isDst 21 ?_; refine W1.appI (F1 := [_]) rfl ho rfl rfl (List.mem_cons_self ..) (by omega) (fun w Fw hw => ?_); simp only [List.cons_append, List.nil_append]) | refine W1.auto ?_ | ((first | refine kA ?_ | refine kB ?_ | refine kC ?_ | refine kD ?_ | refine kE ?_ | refine kF ?_ | refine kG ?_); refine ⟨fun _ => ?_, fun _ => ?_⟩) | refine W1.alloc (fun _ _ => ?_) | refine W1.boxA rfl (fun _ _ => ?_) | refine kq (fun _ _ => ?_) | refine kp ?_ | (refine isIaddrs ?_; first | refine W1.iaddrI inI rfl rfl (by omega) (fun _ _ _ _ _ _ => ?_) | refine W1.iaddrR inR rfl rfl (by omega) (fun _ _ _ _ _ _ _ => ?_)) | (refine isBox ?_; refine W1.boxS inW (by rfl) (fun _ _ => ?_)) | (refine isBslice ?_; refine W1.bslice (fill_all inC rfl) (fun _ _ => ?_))) <;> (try refine ⟨fun _ => rfl, ?_⟩)))) | (first | refine Ws.seq ?_ | refine Ws.region ?_ | refine Ws.draw (fun bd hbd => ?_) | refine Ws.cond rfl ?_ | refine Ws.skip ?_ | refine Ws.scope ?_ | refine Ws.block ?_ | refine Ws.exit ?_ | refine Ws.ret ?_)))
    exact FnEnd.ret (F' := Fo ++ F) (vs := [_]) (.tmp rfl .nil) (List.Sublist.append (List.Sublist.refl _) (.cons _ (List.Sublist.refl _))) ⟨Fo, ho, rfl⟩
theorem f8_ok {T bits : Int} {fs : List Fl} {xs : List Int} {v xv : AV} (hr : FRow F v fs) (hl : fs.length ≤ 9223372036854775807) (hx : RowI F xv xs) (hxl : xs.length ≤ 9223372036854775807) : Pure tblW (fnv 8) [netV T v, .int .u16 bits, xv] F (.bool true) := by
  intro lo
  refine Fn.func (fn := af8) rfl rfl ?_
  cases hf : fineB T fs with
  | false =>
    (repeat' (first | (first | refine Wo.nil ?_ | refine Wd.nil ?_ | ((first | refine Wo.cons ?_ | refine Wd.cons ?_); (try refine W1.go rfl rfl ?_); ((first | refine k1 ?_ | refine k2 ?_ | (refine isDst 3 ?_; refine W1.boxA rfl (fun b3 hb3 => ?_)) | (refine isDst 18 ?_; refine W1.pure rfl rfl (f37_ok hr.cons hl) ?_; rw [hf]) | (refine isDst 22 ?_; refine W1.lenI hx.cons rfl ?_) | (refine isDst 23 ?_; refine W1.cO ?_) | refine W1.pure rfl rfl f16_ok ?_ | refine W1.auto ?_ | ((first | refine kA ?_ | refine kB ?_ | refine kC ?_ | refine kD ?_ | refine kE ?_ | refine kF ?_ | refine kG ?_); refine ⟨fun _ => ?_, fun _ => ?_⟩) | refine W1.alloc (fun _ _ => ?_) | refine W1.boxA rfl (fun _ _ => ?_) | refine kq (fun _ _ => ?_) | refine kp ?_ | (refine isIaddrs ?_; first | refine W1.iaddrI inI rfl rfl (by omega) (fun _ _ _ _ _ _ => ?_) | refine W1.iaddrR inR rfl rfl (by omega) (fun _ _ _ _ _ _ _ => ?_)) | (refine isBox ?_; refine W1.boxS inW (by rfl) (fun _ _ => ?_)) | (refine isBslice ?_; refine W1.bslice (fill_all inC rfl) (fun _ _ => ?_))) <;> (try refine ⟨fun _ => rfl, ?_⟩)))) | (first | refine Ws.seq ?_ | refine Ws.region ?_ | refine Ws.draw (fun bd hbd => ?_) | refine Ws.cond rfl ?_ | refine Ws.skip ?_ | refine Ws.scope ?_ | refine Ws.block ?_ | refine Ws.exit ?_ | refine Ws.ret ?_)))
    (refine FnEnd.ret (F' := F) (vs := [_]) (by (first | refine ResF.tmp inW ?_ | refine ResF.cell rfl inF inP ?_); exact ResF.nil) inS ⟨?_, rfl⟩)
    rfl
  | true =>
    have hN := fineB_net.1 hf
    have h0 := chkN_net.2 hN
    have hT := hN.t
    have hn := hN.n
    by_cases h60 : 60 < xs.length
    · (repeat' (first | (first | refine Wo.nil ?_ | refine Wd.nil ?_ | ((first | refine Wo.cons ?_ | refine Wd.cons ?_); (try refine W1.go rfl rfl ?_); ((first | refine k1 ?_ | refine k2 ?_ | (refine isDst 3 ?_; refine W1.boxA rfl (fun b3 hb3 => ?_)) | (refine isDst 18 ?_; refine W1.pure rfl rfl (f37_ok hr.cons hl) ?_; rw [hf]) | (refine isDst 22 ?_; refine W1.lenI hx.cons rfl ?_) | (refine isDst 23 ?_; refine W1.cO ?_) | refine W1.pure rfl rfl f16_ok ?_ | refine W1.auto ?_ | ((first | refine kA ?_ | refine kB ?_ | refine kC ?_ | refine kD ?_ | refine kE ?_ | refine kF ?_ | refine kG ?_); refine ⟨fun _ => ?_, fun _ => ?_⟩) | refine W1.alloc (fun _ _ => ?_) | refine W1.boxA rfl (fun _ _ => ?_) | refine kq (fun _ _ => ?_) | refine kp ?_ | (refine isIaddrs ?_; first | refine W1.iaddrI inI rfl rfl (by omega) (fun _ _ _ _ _ _ => ?_) | refine W1.iaddrR inR rfl rfl (by omega) (fun _ _ _ _ _ _ _ => ?_)) | (refine isBox ?_; refine W1.boxS inW (by rfl) (fun _ _ => ?_)) | (refine isBslice ?_; refine W1.bslice (fill_all inC rfl) (fun _ _ => ?_))) <;> (try refine ⟨fun _ => rfl, ?_⟩)))) | (first | refine Ws.seq ?_ | refine Ws.region ?_ | refine Ws.draw (fun bd hbd => ?_) | refine Ws.cond rfl ?_ | refine Ws.skip ?_ | refine Ws.scope ?_ | refine Ws.block ?_ | refine Ws.exit ?_ | refine Ws.ret ?_)))
      (refine FnEnd.ret (F' := F) (vs := [_]) (by (first | refine ResF.tmp inW ?_ | refine ResF.cell rfl inF inP ?_); exact ResF.nil) inS ⟨?_, rfl⟩)
      rfl
    (repeat' (first | (first | refine Wo.nil ?_ | refine Wd.nil ?_ | ((first | refine Wo.cons ?_ | refine Wd.cons ?_); (try refine W1.go rfl rfl ?_); ((first | refine k1 ?_ | refine k2 ?_ | (refine isDst 3 ?_; refine W1.boxA rfl (fun b3 hb3 => ?_)) | (refine isDst 18 ?_; refine W1.pure rfl rfl (f37_ok hr.cons hl) ?_; rw [hf]) | (refine isDst 22 ?_; refine W1.lenI hx.cons rfl ?_) | (refine isDst 23 ?_; refine W1.cO ?_) | refine W1.pure rfl rfl f16_ok ?_ | refine W1.auto ?_ | ((first | refine kA ?_ | refine kB ?_ | refine kC ?_ | refine kD ?_ | refine kE ?_ | refine kF ?_ | refine kG ?_); refine ⟨fun _ => ?_, fun _ => ?_⟩) | refine W1.alloc (fun _ _ => ?_) | refine W1.boxA rfl (fun _ _ => ?_) | refine kq (fun _ _ => ?_) | refine kp ?_ | (refine isIaddrs ?_; first | refine W1.iaddrI inI rfl rfl (by omega) (fun _ _ _ _ _ _ => ?_) | refine W1.iaddrR inR rfl rfl (by omega) (fun _ _ _ _ _ _ _ => ?_)) | (refine isBox ?_; refine W1.boxS inW (by rfl) (fun _ _ => ?_)) | (refine isBslice ?_; refine W1.bslice (fill_all inC rfl) (fun _ _ => ?_))) <;> (try refine ⟨fun _ => rfl, ?_⟩)))) | (first | refine Ws.seq ?_ | refine Ws.region ?_ | refine Ws.draw (fun bd hbd => ?_) | refine Ws.cond rfl ?_ | refine Ws.skip ?_ | refine Ws.scope ?_ | refine Ws.block ?_ | refine Ws.exit ?_ | refine Ws.ret ?_)))
    refine Wo.cons (W1.callM rfl rfl ((f23_ok hr.cons hl).mono ?_))
    rintro _ _ ⟨Fo, htru, rfl⟩
    cases htru with
    | bad h => exact absurd h0 h
    | @yes x rv Fo _ hT' ho =>
      have hxrow : ∀ {G : Hp}, RowI (Fo ++ G) rv x := fun {G} => ho.rowI (List.subset_append_left _ _)
      have hch : chkT T fs x = 0 := (chkT_net hN).2 hT'
      have hxl' := hT'.r.1
      (repeat' (first | (first | refine Wo.nil ?_ | refine Wd.nil ?_ | ((first | refine Wo.cons ?_ | refine Wd.cons ?_); (try refine W1.go rfl rfl ?_); ((first | refine k1 ?_ | refine k2 ?_ | (refine isDst 3 ?_; refine W1.boxA rfl (fun b3 hb3 => ?_)) | (refine isDst 18 ?_; refine W1.pure rfl rfl (f37_ok hr.cons hl) ?_; rw [hf]) | (refine isDst 22 ?_; refine W1.lenI hx.cons rfl ?_) | (refine isDst 23 ?_; refine W1.cO ?_) | refine W1.pure rfl rfl f16_ok ?_ | refine W1.auto ?_ | ((first | refine kA ?_ | refine kB ?_ | refine kC ?_ | refine kD ?_ | refine kE ?_ | refine kF ?_ | refine kG ?_); refine ⟨fun _ => ?_, fun _ => ?_⟩) | refine W1.alloc (fun _ _ => ?_) | refine W1.boxA rfl (fun _ _ => ?_) | refine kq (fun _ _ => ?_) | refine kp ?_ | (refine isIaddrs ?_; first | refine W1.iaddrI inI rfl rfl (by omega) (fun _ _ _ _ _ _ => ?_) | refine W1.iaddrR inR rfl rfl (by omega) (fun _ _ _ _ _ _ _ => ?_)) | (refine isBox ?_; refine W1.boxS inW (by rfl) (fun _ _ => ?_)) | (refine isBslice ?_; refine W1.bslice (fill_all inC rfl) (fun _ _ => ?_))) <;> (try refine ⟨fun _ => rfl, ?_⟩)))) | (first | refine Ws.seq ?_ | refine Ws.region ?_ | refine Ws.draw (fun bd hbd => ?_) | refine Ws.cond rfl ?_ | refine Ws.skip ?_ | refine Ws.scope ?_ | refine Ws.block ?_ | refine Ws.exit ?_ | refine Ws.ret ?_)))
      refine Wo.cons (W1.callM rfl rfl ((f32_ok hr.cons.app hl).mono ?_))
      rintro _ _ ⟨Fs, hsho, rfl⟩
      cases hsho with
      | bad h => exact absurd h0 h
      | yes _ ho2 hsh => exact absurd ⟨x, hT'⟩ (no_truth hN hsh)
      | none _ _ =>
        have hsr : ∀ p, shortR T fs (pickL T p) = (0, 5) := fun p => by
          have h1 := hT'.short hN.ends (hasT (pickL T p))
          unfold shortR
          rw [if_neg (by omega), if_neg (by rw [pick_rise hN.ends.z]; simp), if_pos h1]
        have m3 : (b3, ABlk.cells [.int .i64 T, v] true) ∈ ([] : Hp) ++ (Fo ++ ((b3, ABlk.cells [.int .i64 T, v] true) :: F)) := List.mem_append_right _ (List.mem_append_right _ (List.mem_cons_self ..))
        have c17 : ∀ {l' : Nat} {w : AV} {Fw G : Hp}, OwnI l' false w Fw (pickL T (bitB bits)) → FRow G v fs → Pure tblW (fnv 17) [netV T v, w] (Fw ++ G) (rv1 (0, 5)) := fun {l' w Fw G} hw hg => by
          have := f17_ok (T := T) (F := Fw ++ G) hg.app hl (hw.rowI (List.subset_append_left _ _)) (by have := pickN_len (bitB bits) (T.toNat + 1); rw [pickL_N]; omega)
          rwa [hsr] at this
        have hgr : FRow (([] : Hp) ++ (Fo ++ ((b3, ABlk.cells [.int .i64 T, v] true) :: F))) v fs := hr.cons.app.app
        have c21 : ∀ {Fw : Hp}, Pure tblW (fnv 21) [netV T v, rv] (Fw ++ (([] : Hp) ++ (Fo ++ ((b3, ABlk.cells [.int .i64 T, v] true) :: F)))) (.int .i64 0) := fun {Fw} => by
          have := f21_ok (T := T) (F := Fw ++ (([] : Hp) ++ (Fo ++ ((b3, ABlk.cells [.int .i64 T, v] true) :: F)))) hgr.app hl (hxrow.app) (by omega)
          rwa [hch] at this
        have c22 : ∀ {Fw : Hp}, Pure tblW (fnv 22) [netV T v, rv] (Fw ++ (([] : Hp) ++ (Fo ++ ((b3, ABlk.cells [.int .i64 T, v] true) :: F)))) (.int .i64 0) := fun {Fw} => by
          have := f22_ok (T := T) (F := Fw ++ (([] : Hp) ++ (Fo ++ ((b3, ABlk.cells [.int .i64 T, v] true) :: F)))) hgr.app hl (hxrow.app) (by omega)
          rwa [hch] at this
        (repeat' (first | (first | refine Wo.nil ?_ | refine Wd.nil ?_ | ((first | refine Wo.cons ?_ | refine Wd.cons ?_); (try refine W1.go rfl rfl ?_); ((first | refine k1 ?_ | refine k2 ?_ | (refine isDst 37 ?_; refine W1.cO ?_) | (refine isDst 39 ?_; refine W1.loadAR rfl m3 rfl (ltAll (by assumption) m3) ?_) | (refine isDst 40 ?_; refine W1.loadAR rfl m3 rfl (ltAll (by assumption) m3) ?_) | (refine isDst 42 ?_; refine W1.call rfl rfl (fun lo' hlo' => (f39_ok hT).mono ?_); rintro w _ ⟨Fw, hw, rfl⟩) | (refine isDst 43 ?_; refine W1.pure rfl rfl (c17 hw hgr) ?_) | (refine isDst 46 ?_; refine W1.loadA rfl (List.mem_append_right _ m3) rfl ?_) | (refine isDst 51 ?_; refine W1.loadA rfl (List.mem_append_right _ m3) rfl ?_) | (refine isDst 48 ?_; refine W1.pure rfl rfl c21 ?_) | (refine isDst 53 ?_; refine W1.pure rfl rfl c22 ?_) | (refine isDst 62 ?_; refine W1.lenv rfl ?_) | refine W1.pure rfl rfl f16_ok ?_ | refine W1.cO ?_ | refine W1.auto ?_ | ((first | refine kA ?_ | refine kB ?_ | refine kC ?_ | refine kD ?_ | refine kE ?_ | refine kF ?_ | refine kG ?_); refine ⟨fun _ => ?_, fun _ => ?_⟩) | refine W1.alloc (fun _ _ => ?_) | refine W1.boxA rfl (fun _ _ => ?_) | refine kq (fun _ _ => ?_) | refine kp ?_ | (refine isIaddrs ?_; first | refine W1.iaddrI inI rfl rfl (by omega) (fun _ _ _ _ _ _ => ?_) | refine W1.iaddrR inR rfl rfl (by omega) (fun _ _ _ _ _ _ _ => ?_)) | (refine isBox ?_; refine W1.boxS inW (by rfl) (fun _ _ => ?_)) | (refine isBslice ?_; refine W1.bslice (fill_all inC rfl) (fun _ _ => ?_))) <;> (try refine ⟨fun _ => rfl, ?_⟩)))) | (first | refine Ws.seq ?_ | refine Ws.region ?_ | refine Ws.draw (fun bd hbd => ?_) | refine Ws.cond rfl ?_ | refine Ws.skip ?_ | refine Ws.scope ?_ | refine Ws.block ?_ | refine Ws.exit ?_ | refine Ws.ret ?_)))
        exact FnEnd.ret (F' := F) (vs := [_]) (.tmp rfl .nil) (List.Sublist.trans (List.Sublist.trans (.cons _ (List.Sublist.refl _)) (List.sublist_append_right _ _)) (List.sublist_append_right _ _)) ⟨rfl, rfl⟩
    | no _ hno =>
      (repeat' (first | (first | refine Wo.nil ?_ | refine Wd.nil ?_ | ((first | refine Wo.cons ?_ | refine Wd.cons ?_); (try refine W1.go rfl rfl ?_); ((first | refine k1 ?_ | refine k2 ?_ | (refine isDst 22 ?_; refine W1.lenI hx.cons rfl ?_) | refine W1.auto ?_ | ((first | refine kA ?_ | refine kB ?_ | refine kC ?_ | refine kD ?_ | refine kE ?_ | refine kF ?_ | refine kG ?_); refine ⟨fun _ => ?_, fun _ => ?_⟩) | refine W1.alloc (fun _ _ => ?_) | refine W1.boxA rfl (fun _ _ => ?_) | refine kq (fun _ _ => ?_) | refine kp ?_ | (refine isIaddrs ?_; first | refine W1.iaddrI inI rfl rfl (by omega) (fun _ _ _ _ _ _ => ?_) | refine W1.iaddrR inR rfl rfl (by omega) (fun _ _ _ _ _ _ _ => ?_)) | (refine isBox ?_; refine W1.boxS inW (by rfl) (fun _ _ => ?_)) | (refine isBslice ?_; refine W1.bslice (fill_all inC rfl) (fun _ _ => ?_))) <;> (try refine ⟨fun _ => rfl, ?_⟩)))) | (first | refine Ws.seq ?_ | refine Ws.region ?_ | refine Ws.draw (fun bd hbd => ?_) | refine Ws.cond rfl ?_ | refine Ws.skip ?_ | refine Ws.scope ?_ | refine Ws.block ?_ | refine Ws.exit ?_ | refine Ws.ret ?_)))
      refine Wo.cons (W1.callM rfl rfl ((f32_ok hr.cons hl).mono ?_))
      rintro _ _ ⟨Fs, hsho, rfl⟩
      cases hsho with
      | bad h => exact absurd h0 h
      | none _ h => exact absurd h hno
      | @yes rv Fs p _ ho2 hsh =>
        obtain ⟨hs1, hs2⟩ := shortR_of hN hsh
        have hg0 : chkT T fs xs ≠ 0 := fun h => hno ⟨xs, ((chkT_net hN).1 h)⟩
        have hpl : (pickL T p).length ≤ 9223372036854775807 := by have := pickN_len p (T.toNat + 1); rw [pickL_N]; omega
        have m3 : (b3, ABlk.cells [.int .i64 T, v] true) ∈ Fs ++ (([] : Hp) ++ ((b3, ABlk.cells [.int .i64 T, v] true) :: F)) := List.mem_append_right _ (List.mem_cons_self ..)
        have hgr : FRow (Fs ++ (([] : Hp) ++ ((b3, ABlk.cells [.int .i64 T, v] true) :: F))) v fs := hr.cons.app
        have hrw := ho2.rowI (F := Fs ++ (([] : Hp) ++ ((b3, ABlk.cells [.int .i64 T, v] true) :: F))) (List.subset_append_left _ _)
        have c17 := f17_ok (T := T) hgr hl hrw hpl
        have c18 := f18_ok (T := T) hgr hl hrw hpl
        rw [hs1] at c17 c18
        have c21 := f21_ok (T := T) hgr hl (hx.cons.app (G := Fs)) hxl
        generalize chkT T fs xs = ch at *
        generalize shB fs p = sb at *
        (repeat' (first | (first | refine Wo.nil ?_ | refine Wd.nil ?_ | ((first | refine Wo.cons ?_ | refine Wd.cons ?_); (try refine W1.go rfl rfl ?_); ((first | refine k1 ?_ | refine k2 ?_ | (refine isDst 37 ?_; refine W1.cO ?_) | (refine isDst 73 ?_; refine W1.loadA rfl m3 rfl ?_) | (refine isDst 79 ?_; refine W1.loadA rfl m3 rfl ?_) | (refine isDst 113 ?_; refine W1.loadA rfl m3 rfl ?_) | (refine isDst 75 ?_; refine W1.pure rfl rfl c17 ?_) | (refine isDst 81 ?_; refine W1.pure rfl rfl c18 ?_) | (refine isDst 115 ?_; refine W1.pure rfl rfl c21 ?_) | (refine isDst 88 ?_; refine W1.lenv rfl ?_) | refine W1.pure rfl rfl f16_ok ?_ | refine W1.cO ?_ | refine W1.auto ?_ | ((first | refine kA ?_ | refine kB ?_ | refine kC ?_ | refine kD ?_ | refine kE ?_ | refine kF ?_ | refine kG ?_); refine ⟨fun _ => ?_, fun _ => ?_⟩) | refine W1.alloc (fun _ _ => ?_) | refine W1.boxA rfl (fun _ _ => ?_) | refine kq (fun _ _ => ?_) | refine kp ?_ | (refine isIaddrs ?_; first | refine W1.iaddrI inI rfl rfl (by omega) (fun _ _ _ _ _ _ => ?_) | refine W1.iaddrR inR rfl rfl (by omega) (fun _ _ _ _ _ _ _ => ?_)) | (refine isBox ?_; refine W1.boxS inW (by rfl) (fun _ _ => ?_)) | (refine isBslice ?_; refine W1.bslice (fill_all inC rfl) (fun _ _ => ?_))) <;> (try refine ⟨fun _ => rfl, ?_⟩)))) | (first | refine Ws.seq ?_ | refine Ws.region ?_ | refine Ws.draw (fun bd hbd => ?_) | refine Ws.cond rfl ?_ | refine Ws.skip ?_ | refine Ws.scope ?_ | refine Ws.block ?_ | refine Ws.exit ?_ | refine Ws.ret ?_)))
        exact FnEnd.ret (F' := F) (vs := [_]) (.tmp rfl .nil) (List.Sublist.trans (.cons _ (List.Sublist.refl _)) (List.sublist_append_right _ _)) ⟨rfl, rfl⟩
end Go.Ax
