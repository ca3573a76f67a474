/-
  The law StockBarred: in each run the machine's answer is true.
-/
import Derived.Test.YtjcehnfhkgbpiaaXRO
import Derived.Test.YtjcehnfhkgbpiaaXRE
import Derived.Test.YtjcehnfhkgbpiaaXNM
namespace Go.Ax
set_option maxHeartbeats 1000000
set_option maxRecDepth 6000
set_option linter.unusedSimpArgs false
set_option linter.unusedVariables false
attribute [-simp] List.getD_eq_getElem?_getD
variable {lo : Nat} {F : Hp}
theorem and_one (m : Nat) : ((BitVec.ofInt 16 (m : Int)) &&& BitVec.ofInt 16 1).toNat = m % 2 := by
  have e1 : BitVec.ofInt 16 (m : Int) = BitVec.ofNat 16 m := by simp
  have e2 : BitVec.ofInt 16 (1 : Int) = BitVec.ofNat 16 1 := by decide
  rw [e1, e2, BitVec.toNat_and, BitVec.toNat_ofNat, BitVec.toNat_ofNat]
  have : 1 % 2 ^ 16 = 2 ^ 1 - 1 := by decide
  rw [this, Nat.and_two_pow_sub_one_eq_mod]
  omega
theorem bit_at (X : BitVec 16) (t : Nat) : (X.toNat / 2 ^ t) % 2 = (X.getLsbD t).toNat := by
  rw [BitVec.getLsbD, Nat.testBit_eq_decide_div_mod_eq]
  have : X.toNat / 2 ^ t % 2 < 2 := Nat.mod_lt _ (by decide)
  by_cases h : X.toNat / 2 ^ t % 2 = 1
  · simp [h]
  · simp [h]; omega
theorem pow_bit : ∀ f, f ≤ 12 → (BitVec.ofInt 16 ((2 : Int) ^ f)).getLsbD f = true := by decide
theorem not_bit : ∀ t, t ≤ 12 → ∀ f, f ≤ 12 → (BitVec.ofInt 16 (65535 - (2 : Int) ^ t)).getLsbD f = !decide (f = t) := by decide
theorem pow_le : ∀ f, f ≤ 12 → 0 ≤ (2 : Int) ^ f ∧ (2 : Int) ^ f ≤ 65535 := by decide
theorem wrap_u16 {n : Int} (h : 0 ≤ n ∧ n ≤ 65535) : IntKind.u16.wrap n = n := by
  have : IntKind.u16.wrap n = n % 65536 := rfl
  rw [this]; exact Int.emod_eq_of_lt h.1 (by omega)
theorem wrap_bv (X : BitVec 16) : IntKind.u16.wrap (X.toNat : Nat) = (X.toNat : Nat) := wrap_u16 (by have := X.isLt; omega)
theorem bitB_of {X : BitVec 16} {t : Nat} (ht : t ≤ 12) : bitB (X.toNat : Nat) (t : Nat) = X.getLsbD t := by
  have e1 : shrV (X.toNat : Nat) t = ((X.toNat / 2 ^ t : Nat) : Int) := by
    unfold shrV
    rw [Nat.min_eq_left (by omega), Int.fdiv_eq_ediv_of_nonneg _ (Int.le_of_lt (Int.pow_pos (by decide)))]
    simp
  have e2 : andV (shrV (X.toNat : Nat) t) 1 = ((X.getLsbD t).toNat : Nat) := by
    unfold andV
    rw [e1, and_one, bit_at]
    exact wrap_u16 (by cases X.getLsbD t <;> decide)
  unfold bitB
  rw [Int.toNat_natCast, e2]
  cases X.getLsbD t <;> rfl
def barV (bits : Int) (f t : Nat) : BitVec 16 := (BitVec.ofInt 16 bits ||| BitVec.ofInt 16 ((2 : Int) ^ f)) &&& BitVec.ofInt 16 (65535 - (2 : Int) ^ t)
theorem bar_f {bits : Int} {f t : Nat} (hf : f ≤ 12) (ht : t ≤ 12) (h : f ≠ t) : bitB ((barV bits f t).toNat : Nat) (f : Nat) = true := by
  rw [bitB_of hf]
  unfold barV
  rw [BitVec.getLsbD_and, BitVec.getLsbD_or, pow_bit f hf, not_bit t ht f hf]
  simp [h]
theorem bar_t {bits : Int} {f t : Nat} (ht : t ≤ 12) : bitB ((barV bits f t).toNat : Nat) (t : Nat) = false := by
  rw [bitB_of ht]
  unfold barV
  rw [BitVec.getLsbD_and, not_bit t ht t ht]
  simp
section
variable {tbl : Nat → Option AFn} {bd : Nat} {E : FE} {d : Option Nat} {R : FE → Hp → Cls → Prop} {x y : AO}
theorem W1.shl16 {f : Nat} {z : Int} (hf : f ≤ 12) (hx : xev E x = .int .u16 1) (hy : xev E y = .int .i64 z) (hz : z = (f : Nat)) (k : R (fput E d (.int .u16 ((2 : Int) ^ f))) F .n) : W1 tbl lo bd ⟨d, .bin .shl x y, none⟩ E F R := by
  subst hz
  refine W1.val (v := .int .u16 ((2 : Int) ^ f)) ?_ k
  simp only [opLocF, hx, hy, binAV, binInt]
  rw [if_neg (by omega)]
  have e : min ((f : Nat) : Int).toNat IntKind.u16.bits = f := by
    rw [Int.toNat_natCast]; exact Nat.min_eq_left (show f ≤ 16 by omega)
  rw [e, Int.one_mul, wrap_u16 (pow_le f hf)]
theorem W1.or16 {a b : Int} (hx : xev E x = .int .u16 a) (hy : xev E y = .int .u16 b) (k : R (fput E d (.int .u16 ((BitVec.ofInt 16 a ||| BitVec.ofInt 16 b).toNat : Nat))) F .n) : W1 tbl lo bd ⟨d, .bin .or x y, none⟩ E F R := by
  refine W1.val (v := .int .u16 ((BitVec.ofInt 16 a ||| BitVec.ofInt 16 b).toNat : Nat)) ?_ k
  simp only [opLocF, hx, hy, binAV, binInt]
  rw [← wrap_bv]
  rfl
theorem W1.sub16 {f : Nat} (hf : f ≤ 12) (hx : xev E x = .int .u16 65535) (hy : xev E y = .int .u16 ((2 : Int) ^ f)) (k : R (fput E d (.int .u16 (65535 - (2 : Int) ^ f))) F .n) : W1 tbl lo bd ⟨d, .bin .sub x y, none⟩ E F R := by
  refine W1.val (v := .int .u16 (65535 - (2 : Int) ^ f)) ?_ k
  simp only [opLocF, hx, hy, binAV, binInt]
  rw [wrap_u16 (by have := pow_le f hf; omega)]
  rfl
theorem W1.and16B {a b : Int} (hx : xev E x = .int .u16 a) (hy : xev E y = .int .u16 b) (k : R (fput E d (.int .u16 ((BitVec.ofInt 16 a &&& BitVec.ofInt 16 b).toNat : Nat))) F .n) : W1 tbl lo bd ⟨d, .bin .and x y, none⟩ E F R := by
  refine W1.val (v := .int .u16 ((BitVec.ofInt 16 a &&& BitVec.ofInt 16 b).toNat : Nat)) ?_ k
  simp only [opLocF, hx, hy, binAV, binInt]
  rw [← wrap_bv]
  rfl
end
theorem ofInt_toNat (X : BitVec 16) : BitVec.ofInt 16 (X.toNat : Int) = X := by simp
theorem bar_eq {bits : Int} {f t : Nat} : (BitVec.ofInt 16 ((BitVec.ofInt 16 bits ||| BitVec.ofInt 16 ((2 : Int) ^ f)).toNat : Nat) &&& BitVec.ofInt 16 (65535 - (2 : Int) ^ t)) = barV bits f t := by
  unfold barV
  rw [ofInt_toNat]
theorem f9_ok {T fl bits : Int} {fs : List Fl} {us : List Int} {v bv : AV} (hr : FRow F v fs) (hl : fs.length ≤ 9223372036854775807) (hu : NumsV F .u32 4294967295 bv us) (hfl : 0 ≤ fl ∧ fl ≤ 255) : Pure tblW (fnv 9) [netV T v, bv, .int .u16 bits, .int .u8 fl] F (.bool true) := by
  intro lo
  refine Fn.func (fn := af9) rfl rfl ?_
  have hul := hu.len
  cases hf : fineB T fs with
  | false =>
    (repeat' (first | (first | refine Wo.nil ?_ | refine Wd.nil ?_ | ((first | refine Wo.cons ?_ | refine Wd.cons ?_); (try refine W1.go rfl rfl ?_); ((first | refine k1 ?_ | refine k2 ?_ | (refine isDst 4 ?_; refine W1.boxA rfl (fun b4 hb4 => ?_)) | (refine isDst 19 ?_; refine W1.pure rfl rfl (f37_ok hr.cons hl) ?_; rw [hf]) | (refine isDst 23 ?_; refine W1.lenZ hu.row.cons rfl ?_) | (refine isDst 24 ?_; refine W1.cO ?_) | (refine isDst 29 ?_; refine W1.lenZ hr.cons rfl ?_) | (refine isDst 30 ?_; refine W1.cO ?_) | refine W1.pure rfl rfl f16_ok ?_ | refine W1.auto ?_ | ((first | refine kA ?_ | refine kB ?_ | refine kC ?_ | refine kD ?_ | refine kE ?_ | refine kF ?_ | refine kG ?_); refine ⟨fun _ => ?_, fun _ => ?_⟩) | refine W1.alloc (fun _ _ => ?_) | refine W1.boxA rfl (fun _ _ => ?_) | refine kq (fun _ _ => ?_) | refine kp ?_ | (refine isIaddrs ?_; first | refine W1.iaddrI inI rfl rfl (by omega) (fun _ _ _ _ _ _ => ?_) | refine W1.iaddrR inR rfl rfl (by omega) (fun _ _ _ _ _ _ _ => ?_)) | (refine isBox ?_; refine W1.boxS inW (by rfl) (fun _ _ => ?_)) | (refine isBslice ?_; refine W1.bslice (fill_all inC rfl) (fun _ _ => ?_))) <;> (try refine ⟨fun _ => rfl, ?_⟩)))) | (first | refine Ws.seq ?_ | refine Ws.region ?_ | refine Ws.draw (fun bd hbd => ?_) | refine Ws.cond rfl ?_ | refine Ws.skip ?_ | refine Ws.scope ?_ | refine Ws.block ?_ | refine Ws.exit ?_ | refine Ws.ret ?_)))
    (refine FnEnd.ret (F' := F) (vs := [_]) (by (first | refine ResF.tmp inW ?_ | refine ResF.cell rfl inF inP ?_); exact ResF.nil) inS ⟨?_, rfl⟩)
    rfl
  | true =>
    have hN := fineB_net.1 hf
    have h0 := chkN_net.2 hN
    have hT := hN.t
    have hn := hN.n
    by_cases h60 : 60 < us.length
    · (repeat' (first | (first | refine Wo.nil ?_ | refine Wd.nil ?_ | ((first | refine Wo.cons ?_ | refine Wd.cons ?_); (try refine W1.go rfl rfl ?_); ((first | refine k1 ?_ | refine k2 ?_ | (refine isDst 4 ?_; refine W1.boxA rfl (fun b4 hb4 => ?_)) | (refine isDst 19 ?_; refine W1.pure rfl rfl (f37_ok hr.cons hl) ?_; rw [hf]) | (refine isDst 23 ?_; refine W1.lenZ hu.row.cons rfl ?_) | (refine isDst 24 ?_; refine W1.cO ?_) | (refine isDst 29 ?_; refine W1.lenZ hr.cons rfl ?_) | (refine isDst 30 ?_; refine W1.cO ?_) | refine W1.pure rfl rfl f16_ok ?_ | refine W1.auto ?_ | ((first | refine kA ?_ | refine kB ?_ | refine kC ?_ | refine kD ?_ | refine kE ?_ | refine kF ?_ | refine kG ?_); refine ⟨fun _ => ?_, fun _ => ?_⟩) | refine W1.alloc (fun _ _ => ?_) | refine W1.boxA rfl (fun _ _ => ?_) | refine kq (fun _ _ => ?_) | refine kp ?_ | (refine isIaddrs ?_; first | refine W1.iaddrI inI rfl rfl (by omega) (fun _ _ _ _ _ _ => ?_) | refine W1.iaddrR inR rfl rfl (by omega) (fun _ _ _ _ _ _ _ => ?_)) | (refine isBox ?_; refine W1.boxS inW (by rfl) (fun _ _ => ?_)) | (refine isBslice ?_; refine W1.bslice (fill_all inC rfl) (fun _ _ => ?_))) <;> (try refine ⟨fun _ => rfl, ?_⟩)))) | (first | refine Ws.seq ?_ | refine Ws.region ?_ | refine Ws.draw (fun bd hbd => ?_) | refine Ws.cond rfl ?_ | refine Ws.skip ?_ | refine Ws.scope ?_ | refine Ws.block ?_ | refine Ws.exit ?_ | refine Ws.ret ?_)))
      (refine FnEnd.ret (F' := F) (vs := [_]) (by (first | refine ResF.tmp inW ?_ | refine ResF.cell rfl inF inP ?_); exact ResF.nil) inS ⟨?_, rfl⟩)
      rfl
    by_cases hz : fs.length = 0
    · (repeat' (first | (first | refine Wo.nil ?_ | refine Wd.nil ?_ | ((first | refine Wo.cons ?_ | refine Wd.cons ?_); (try refine W1.go rfl rfl ?_); ((first | refine k1 ?_ | refine k2 ?_ | (refine isDst 4 ?_; refine W1.boxA rfl (fun b4 hb4 => ?_)) | (refine isDst 19 ?_; refine W1.pure rfl rfl (f37_ok hr.cons hl) ?_; rw [hf]) | (refine isDst 23 ?_; refine W1.lenZ hu.row.cons rfl ?_) | (refine isDst 24 ?_; refine W1.cO ?_) | (refine isDst 29 ?_; refine W1.lenZ hr.cons rfl ?_) | (refine isDst 30 ?_; refine W1.cO ?_) | refine W1.pure rfl rfl f16_ok ?_ | refine W1.auto ?_ | ((first | refine kA ?_ | refine kB ?_ | refine kC ?_ | refine kD ?_ | refine kE ?_ | refine kF ?_ | refine kG ?_); refine ⟨fun _ => ?_, fun _ => ?_⟩) | refine W1.alloc (fun _ _ => ?_) | refine W1.boxA rfl (fun _ _ => ?_) | refine kq (fun _ _ => ?_) | refine kp ?_ | (refine isIaddrs ?_; first | refine W1.iaddrI inI rfl rfl (by omega) (fun _ _ _ _ _ _ => ?_) | refine W1.iaddrR inR rfl rfl (by omega) (fun _ _ _ _ _ _ _ => ?_)) | (refine isBox ?_; refine W1.boxS inW (by rfl) (fun _ _ => ?_)) | (refine isBslice ?_; refine W1.bslice (fill_all inC rfl) (fun _ _ => ?_))) <;> (try refine ⟨fun _ => rfl, ?_⟩)))) | (first | refine Ws.seq ?_ | refine Ws.region ?_ | refine Ws.draw (fun bd hbd => ?_) | refine Ws.cond rfl ?_ | refine Ws.skip ?_ | refine Ws.scope ?_ | refine Ws.block ?_ | refine Ws.exit ?_ | refine Ws.ret ?_)))
      (refine FnEnd.ret (F' := F) (vs := [_]) (by (first | refine ResF.tmp inW ?_ | refine ResF.cell rfl inF inP ?_); exact ResF.nil) inS ⟨?_, rfl⟩)
      rfl
    obtain ⟨k, hkk⟩ : ∃ k : Nat, fl % (fs.length : Int) = (k : Nat) := ⟨(fl % (fs.length : Int)).toNat, by have := Int.emod_nonneg fl (show (fs.length : Int) ≠ 0 by omega); omega⟩
    have hk : k < fs.length := by have := Int.emod_lt_of_pos fl (show (0 : Int) < fs.length by omega); omega
    have huk := hN.u k hk
    obtain ⟨fa, hfa⟩ : ∃ fa : Nat, (gF fs k).f = (fa : Nat) := ⟨(gF fs k).f.toNat, by omega⟩
    obtain ⟨ta, hta⟩ : ∃ ta : Nat, (gF fs k).t = (ta : Nat) := ⟨(gF fs k).t.toNat, by omega⟩
    have q1 : bitB ((barV bits fa ta).toNat : Nat) (gF fs k).f = true := by rw [hfa]; exact bar_f (by omega) (by omega) (by omega)
    have q2 : bitB ((barV bits fa ta).toNat : Nat) (gF fs k).t = false := by rw [hta]; exact bar_t (by omega)
    generalize hX : ((barV bits fa ta).toNat : Nat) = X at *
    (repeat' (first | (first | refine Wo.nil ?_ | refine Wd.nil ?_ | ((first | refine Wo.cons ?_ | refine Wd.cons ?_); (try refine W1.go rfl rfl ?_); ((first | refine k1 ?_ | refine k2 ?_ | (refine isDst 4 ?_; refine W1.boxA rfl (fun b4 hb4 => ?_)) | (refine isDst 19 ?_; refine W1.pure rfl rfl (f37_ok hr.cons hl) ?_; rw [hf]) | (refine isDst 23 ?_; refine W1.lenZ hu.row.cons rfl ?_) | (refine isDst 24 ?_; refine W1.cO ?_) | (refine isDst 29 ?_; refine W1.lenZ hr.cons rfl ?_) | (refine isDst 30 ?_; refine W1.cO ?_) | refine W1.pure rfl rfl f16_ok ?_ | (refine isDst 34 ?_; refine W1.convI rfl (by omega) ?_) | (refine isDst 37 ?_; refine W1.lenZ hr.cons rfl ?_) | (refine isDst 38 ?_; refine W1.remN rfl rfl (by omega) (by omega) (fun _ _ => ?_); rw [hkk]) | (refine isDst 42 ?_; refine W1.iaddrF k hr.cons rfl rfl rfl hk (fun bq o la own hm h0 h1 h2 h3 h4 h5 => ?_)) | (refine isDst 43 ?_; refine W1.load rfl hm h4 ?_) | (refine isDst 10 ?_; refine W1.alloc (fun b10 hb10 => ?_)) | (refine isDst 46 ?_; refine W1.load1 rfl (List.mem_cons_self ..) rfl ?_) | (refine isDst 51 ?_; refine W1.load1 rfl (List.mem_cons_self ..) rfl ?_) | (refine isDst 47 ?_; refine W1.shl16 (f := fa) (by omega) rfl rfl hfa ?_) | (refine isDst 52 ?_; refine W1.shl16 (f := ta) (by omega) rfl rfl hta ?_) | (refine isDst 48 ?_; refine W1.or16 rfl rfl ?_) | (refine isDst 53 ?_; refine W1.sub16 (f := ta) (by omega) rfl rfl ?_) | (refine isDst 54 ?_; refine W1.and16B rfl rfl ?_; rw [bar_eq, hX]) | refine W1.auto ?_ | ((first | refine kA ?_ | refine kB ?_ | refine kC ?_ | refine kD ?_ | refine kE ?_ | refine kF ?_ | refine kG ?_); refine ⟨fun _ => ?_, fun _ => ?_⟩) | refine W1.alloc (fun _ _ => ?_) | refine W1.boxA rfl (fun _ _ => ?_) | refine kq (fun _ _ => ?_) | refine kp ?_ | (refine isIaddrs ?_; first | refine W1.iaddrI inI rfl rfl (by omega) (fun _ _ _ _ _ _ => ?_) | refine W1.iaddrR inR rfl rfl (by omega) (fun _ _ _ _ _ _ _ => ?_)) | (refine isBox ?_; refine W1.boxS inW (by rfl) (fun _ _ => ?_)) | (refine isBslice ?_; refine W1.bslice (fill_all inC rfl) (fun _ _ => ?_))) <;> (try refine ⟨fun _ => rfl, ?_⟩)))) | (first | refine Ws.seq ?_ | refine Ws.region ?_ | refine Ws.draw (fun bd hbd => ?_) | refine Ws.cond rfl ?_ | refine Ws.skip ?_ | refine Ws.scope ?_ | refine Ws.block ?_ | refine Ws.exit ?_ | refine Ws.ret ?_)))
    have m4 : (b4, ABlk.cells [.int .i64 T, v] true) ∈ (b10, ABlk.cells [.int .i64 (gF fs k).f, .int .i64 (gF fs k).t, .int .i64 (gF fs k).lo, .int .i64 (gF fs k).hi] true) :: (b4, ABlk.cells [.int .i64 T, v] true) :: F := List.mem_cons_of_mem _ (List.mem_cons_self ..)
    refine Wo.cons ?_
    refine W1.callM rfl rfl ((f39_ok hT).mono ?_)
    rintro w _ ⟨Fw, hw, rfl⟩
    have hpl : (pickL T (bitB X)).length ≤ 9223372036854775807 := by have := pickN_len (bitB X) (T.toNat + 1); rw [pickL_N]; omega
    have hwr := hw.rowI (F := Fw ++ ((b10, ABlk.cells [.int .i64 (gF fs k).f, .int .i64 (gF fs k).t, .int .i64 (gF fs k).lo, .int .i64 (gF fs k).hi] true) :: (b4, ABlk.cells [.int .i64 T, v] true) :: F)) (List.subset_append_left _ _)
    have cL := f28_ok (T := T) (k := (k : Nat)) (high := false) (hr.cons.cons.app (G := Fw)) hl hwr hpl
    have cH := f28_ok (T := T) (k := (k : Nat)) (high := true) (hr.cons.cons.app (G := Fw)) hl hwr hpl
    rw [bndR_of hN hk q1 q2] at cL cH
    have m4' := List.mem_append_right Fw m4
    (repeat' (first | (first | refine Wo.nil ?_ | refine Wd.nil ?_ | ((first | refine Wo.cons ?_ | refine Wd.cons ?_); (try refine W1.go rfl rfl ?_); ((first | refine k1 ?_ | refine k2 ?_ | (refine isDst 59 ?_; refine W1.loadA rfl m4' rfl ?_) | (refine isDst 66 ?_; refine W1.loadA rfl m4' rfl ?_) | (refine isDst 62 ?_; refine W1.pure rfl rfl cL ?_) | (refine isDst 69 ?_; refine W1.pure rfl rfl cH ?_) | (refine isDst 79 ?_; refine W1.loadA rfl m4' rfl ?_) | (refine isDst 73 ?_; refine W1.cO ?_) | (refine isDst 76 ?_; refine W1.cO ?_) | refine W1.auto ?_ | ((first | refine kA ?_ | refine kB ?_ | refine kC ?_ | refine kD ?_ | refine kE ?_ | refine kF ?_ | refine kG ?_); refine ⟨fun _ => ?_, fun _ => ?_⟩) | refine W1.alloc (fun _ _ => ?_) | refine W1.boxA rfl (fun _ _ => ?_) | refine kq (fun _ _ => ?_) | refine kp ?_ | (refine isIaddrs ?_; first | refine W1.iaddrI inI rfl rfl (by omega) (fun _ _ _ _ _ _ => ?_) | refine W1.iaddrR inR rfl rfl (by omega) (fun _ _ _ _ _ _ _ => ?_)) | (refine isBox ?_; refine W1.boxS inW (by rfl) (fun _ _ => ?_)) | (refine isBslice ?_; refine W1.bslice (fill_all inC rfl) (fun _ _ => ?_))) <;> (try refine ⟨fun _ => rfl, ?_⟩)))) | (first | refine Ws.seq ?_ | refine Ws.region ?_ | refine Ws.draw (fun bd hbd => ?_) | refine Ws.cond rfl ?_ | refine Ws.skip ?_ | refine Ws.scope ?_ | refine Ws.block ?_ | refine Ws.exit ?_ | refine Ws.ret ?_)))
    refine Wo.cons ?_
    refine W1.callM rfl rfl ((f38_ok hN (hr.cons.cons.app (G := Fw)) (hu.mono (fun p hp => List.mem_append_right _ (List.mem_cons_of_mem _ (List.mem_cons_of_mem _ hp))))).mono ?_)
    rintro _ _ ⟨Fo, htr, rfl⟩
    cases htr with
    | no h =>
      (repeat' (first | (first | refine Wo.nil ?_ | refine Wd.nil ?_ | ((first | refine Wo.cons ?_ | refine Wd.cons ?_); (try refine W1.go rfl rfl ?_); ((first | refine k1 ?_ | refine k2 ?_ | (refine isCall ?_; refine W1.pure rfl rfl f16_ok ?_) | refine W1.auto ?_ | ((first | refine kA ?_ | refine kB ?_ | refine kC ?_ | refine kD ?_ | refine kE ?_ | refine kF ?_ | refine kG ?_); refine ⟨fun _ => ?_, fun _ => ?_⟩) | refine W1.alloc (fun _ _ => ?_) | refine W1.boxA rfl (fun _ _ => ?_) | refine kq (fun _ _ => ?_) | refine kp ?_ | (refine isIaddrs ?_; first | refine W1.iaddrI inI rfl rfl (by omega) (fun _ _ _ _ _ _ => ?_) | refine W1.iaddrR inR rfl rfl (by omega) (fun _ _ _ _ _ _ _ => ?_)) | (refine isBox ?_; refine W1.boxS inW (by rfl) (fun _ _ => ?_)) | (refine isBslice ?_; refine W1.bslice (fill_all inC rfl) (fun _ _ => ?_))) <;> (try refine ⟨fun _ => rfl, ?_⟩)))) | (first | refine Ws.seq ?_ | refine Ws.region ?_ | refine Ws.draw (fun bd hbd => ?_) | refine Ws.cond rfl ?_ | refine Ws.skip ?_ | refine Ws.scope ?_ | refine Ws.block ?_ | refine Ws.exit ?_ | refine Ws.ret ?_)))
      exact FnEnd.ret (F' := F) (vs := [_]) (.tmp rfl .nil) (List.Sublist.trans (.cons _ (.cons _ (List.Sublist.refl _))) (List.Sublist.trans (List.sublist_append_right _ _) (List.sublist_append_right _ _))) ⟨rfl, rfl⟩
    | @yes x xv Fo hT' hly =>
      have hxrow : RowI (Fo ++ (Fw ++ ((b10, ABlk.cells [.int .i64 (gF fs k).f, .int .i64 (gF fs k).t, .int .i64 (gF fs k).lo, .int .i64 (gF fs k).hi] true) :: (b4, ABlk.cells [.int .i64 T, v] true) :: F))) xv x := (hly.lit (List.subset_append_left _ _)).r
      have hkx : k < x.length := by have := hT'.r.1; omega
      have hbo := hT'.bound hN.ends hk q1 q2
      (repeat' (first | (first | refine Wo.nil ?_ | refine Wd.nil ?_ | ((first | refine Wo.cons ?_ | refine Wd.cons ?_); (try refine W1.go rfl rfl ?_); ((first | refine k1 ?_ | refine k2 ?_ | (refine isDst 89 ?_; refine W1.iaddrI hxrow rfl rfl hkx (fun bq o l' own hm h1 => ?_)) | (refine isDst 90 ?_; refine W1.load1 rfl hm h1 ?_) | (refine isDst 96 ?_; refine W1.iaddrI hxrow rfl rfl hkx (fun bq o l' own hm h1 => ?_)) | (refine isDst 97 ?_; refine W1.load1 rfl hm h1 ?_) | refine W1.cO ?_ | (refine isCall ?_; refine W1.pure rfl rfl f16_ok ?_) | refine W1.auto ?_ | ((first | refine kA ?_ | refine kB ?_ | refine kC ?_ | refine kD ?_ | refine kE ?_ | refine kF ?_ | refine kG ?_); refine ⟨fun _ => ?_, fun _ => ?_⟩) | refine W1.alloc (fun _ _ => ?_) | refine W1.boxA rfl (fun _ _ => ?_) | refine kq (fun _ _ => ?_) | refine kp ?_ | (refine isIaddrs ?_; first | refine W1.iaddrI inI rfl rfl (by omega) (fun _ _ _ _ _ _ => ?_) | refine W1.iaddrR inR rfl rfl (by omega) (fun _ _ _ _ _ _ _ => ?_)) | (refine isBox ?_; refine W1.boxS inW (by rfl) (fun _ _ => ?_)) | (refine isBslice ?_; refine W1.bslice (fill_all inC rfl) (fun _ _ => ?_))) <;> (try refine ⟨fun _ => rfl, ?_⟩)))) | (first | refine Ws.seq ?_ | refine Ws.region ?_ | refine Ws.draw (fun bd hbd => ?_) | refine Ws.cond rfl ?_ | refine Ws.skip ?_ | refine Ws.scope ?_ | refine Ws.block ?_ | refine Ws.exit ?_ | refine Ws.ret ?_)))
      exact FnEnd.ret (F' := F) (vs := [_]) (.tmp rfl .nil) (List.Sublist.trans (.cons _ (.cons _ (List.Sublist.refl _))) (List.Sublist.trans (List.sublist_append_right _ _) (List.sublist_append_right _ _))) ⟨rfl, rfl⟩
end Go.Ax
