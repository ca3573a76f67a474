/-
  The law StockEither: in each run the machine's answer is true.
-/
import Derived.Test.YtjcehnfhkgbpiaaXRB
import Derived.Test.YtjcehnfhkgbpiaaXNK
namespace Go.Ax
set_option maxHeartbeats 1000000
set_option maxRecDepth 6000
set_option linter.unusedSimpArgs false
set_option linter.unusedVariables false
attribute [-simp] List.getD_eq_getElem?_getD
variable {lo : Nat} {F : Hp}
section
variable {tbl : Nat → Option AFn} {bd : Nat} {E : FE} {d : Option Nat} {R : FE → Hp → Cls → Prop} {x y : AO}
def shrV (a : Int) (j : Nat) : Int := a.fdiv (2 ^ min j 16)
def andV (a b : Int) : Int := IntKind.u16.wrap ((BitVec.ofInt 16 a &&& BitVec.ofInt 16 b).toNat : Nat)
theorem W1.shr16 {a : Int} {j : Nat} (hx : xev E x = .int .u16 a) (hy : xev E y = .int .i64 (j : Nat)) (k : R (fput E d (.int .u16 (shrV a j))) F .n) : W1 tbl lo bd ⟨d, .bin .shr x y, none⟩ E F R := by
  refine W1.val (v := .int .u16 (shrV a j)) ?_ k
  simp only [opLocF, hx, hy, binAV, binInt]
  rw [if_neg (by omega)]
  simp only [Int.toNat_natCast]
  rfl
theorem W1.and16 {a b : Int} (hx : xev E x = .int .u16 a) (hy : xev E y = .int .u16 b) (k : R (fput E d (.int .u16 (andV a b))) F .n) : W1 tbl lo bd ⟨d, .bin .and x y, none⟩ E F R := by
  refine W1.val (v := .int .u16 (andV a b)) ?_ k
  simp only [opLocF, hx, hy, binAV, binInt]
  rfl
end
def bitB (bits : Int) (t : Int) : Bool := decide (andV (shrV bits t.toNat) 1 = 1)
theorem f39_ok {T bits : Int} {v : AV} (hT : 1 ≤ T ∧ T ≤ 12) : Fn tblW lo (fnv 39) [netV T v, .int .u16 bits] F (fun r F' => ∃ Fo, OwnI lo false r Fo (pickL T (bitB bits)) ∧ F' = Fo ++ F) := by
  refine Fn.func (fn := af39) rfl rfl ?_
  rw [pickL_N]
  (repeat' (first | (first | refine Wo.nil ?_ | refine Wd.nil ?_ | ((first | refine Wo.cons ?_ | refine Wd.cons ?_); (try refine W1.go rfl rfl ?_); ((first | refine k1 ?_ | refine k2 ?_ | (refine isDst 2 ?_; refine W1.boxA rfl (fun b2 hb2 => ?_)) | (refine isDst 9 ?_; refine W1.load1 rfl (List.mem_append_right _ (List.mem_cons_self ..)) rfl ?_) | (refine isDst 10 ?_; refine W1.cO ?_) | (refine isDst 15 ?_; refine W1.shr16 rfl rfl ?_) | (refine isDst 16 ?_; refine W1.and16 rfl rfl ?_) | (refine isDst 17 ?_; refine W1.cO ?_) | (refine isDst 20 ?_; refine W1.bslice (l := [.int .i64 (i : Nat)]) (fill_all (catF1 rfl rfl catF0) rfl) (fun b20 hb20 => ?_)) | (refine isDst 21 ?_; refine W1.appI (F1 := [_]) rfl ho rfl rfl (List.mem_cons_self ..) (by omega) (fun w Fw hw => ?_); simp only [List.cons_append, List.nil_append]) | refine W1.auto ?_ | ((first | refine kA ?_ | refine kB ?_ | refine kC ?_ | refine kD ?_ | refine kE ?_ | refine kF ?_ | refine kG ?_); refine ⟨fun _ => ?_, fun _ => ?_⟩)) <;> (try refine ⟨fun _ => rfl, ?_⟩)))) | (first | refine Ws.seq ?_ | refine Ws.region ?_ | refine Ws.draw (fun bd hbd => ?_) | refine Ws.cond rfl ?_ | refine Ws.skip ?_ | refine Ws.scope ?_ | refine Ws.block ?_ | refine Ws.exit ?_ | refine Ws.ret ?_)))
  refine Ws.fresh (l := (5, (AV.slc none 0 0 true 0)) :: (6, .int .i64 0) :: [(1, .int .u16 bits), (2, .ptr (some (b2, 0)))]) ⟨rfl, rfl, rfl, rfl, trivial⟩ (fun B => ?_)
  refine Ws.loopG (X := Nat × AV × Hp) (fun x => (5, x.2.1) :: (6, .int .i64 (x.1 : Nat)) :: [(1, .int .u16 bits), (2, .ptr (some (b2, 0)))]) (fun x => x.2.2 ++ ((b2, .cells [.int .i64 T, v] true) :: F)) (fun x => x.1 ≤ T.toNat + 1 ∧ OwnI lo false x.2.1 x.2.2 (pickN (bitB bits) x.1)) (fun x => T.toNat + 1 - x.1) (0, (AV.slc none 0 0 true 0), []) ⟨rfl, rfl, rfl, rfl, trivial⟩ (List.Sublist.refl _) ⟨Nat.zero_le _, .nil⟩ ?_
  rintro ⟨i, u, Fo⟩ B2 ⟨hi, ho⟩
  have hi : i ≤ T.toNat + 1 := hi
  have ho : OwnI lo false u Fo (pickN (bitB bits) i) := ho
  dsimp only
  have hpl := pickN_len (bitB bits) i
  by_cases hic : i < T.toNat + 1
  · by_cases hs : andV (shrV bits i) 1 = 1
    · have ep : pickN (bitB bits) (i + 1) = pickN (bitB bits) i ++ [((i : Nat) : Int)] := by rw [pickN_succ, if_pos (show bitB bits (i : Nat) = true by unfold bitB; rw [Int.toNat_natCast]; exact decide_eq_true hs)]
      (repeat' (first | (first | refine Wo.nil ?_ | refine Wd.nil ?_ | ((first | refine Wo.cons ?_ | refine Wd.cons ?_); (try refine W1.go rfl rfl ?_); ((first | refine k1 ?_ | refine k2 ?_ | (refine isDst 2 ?_; refine W1.boxA rfl (fun b2 hb2 => ?_)) | (refine isDst 9 ?_; refine W1.load1 rfl (List.mem_append_right _ (List.mem_cons_self ..)) rfl ?_) | (refine isDst 10 ?_; refine W1.cO ?_) | (refine isDst 15 ?_; refine W1.shr16 rfl rfl ?_) | (refine isDst 16 ?_; refine W1.and16 rfl rfl ?_) | (refine isDst 17 ?_; refine W1.cO ?_) | (refine isDst 20 ?_; refine W1.bslice (l := [.int .i64 (i : Nat)]) (fill_all (catF1 rfl rfl catF0) rfl) (fun b20 hb20 => ?_)) | (refine isDst 21 ?_; refine W1.appI (F1 := [_]) rfl ho rfl rfl (List.mem_cons_self ..) (by omega) (fun w Fw hw => ?_); simp only [List.cons_append, List.nil_append]) | refine W1.auto ?_ | ((first | refine kA ?_ | refine kB ?_ | refine kC ?_ | refine kD ?_ | refine kE ?_ | refine kF ?_ | refine kG ?_); refine ⟨fun _ => ?_, fun _ => ?_⟩)) <;> (try refine ⟨fun _ => rfl, ?_⟩)))) | (first | refine Ws.seq ?_ | refine Ws.region ?_ | refine Ws.draw (fun bd hbd => ?_) | refine Ws.cond rfl ?_ | refine Ws.skip ?_ | refine Ws.scope ?_ | refine Ws.block ?_ | refine Ws.exit ?_ | refine Ws.ret ?_)))
      refine ⟨(i + 1, w, Fw), ⟨rfl, rfl, rfl, rfl, trivial⟩, ?_, ⟨hic, ?_⟩, by show _ - (i + 1) < _ - i; omega⟩
      · exact List.Sublist.append (List.Sublist.refl _) (.cons _ (List.Sublist.refl _))
      · show OwnI lo false w Fw (pickN (bitB bits) (i + 1))
        rw [ep]; exact hw
    · have ep : pickN (bitB bits) (i + 1) = pickN (bitB bits) i := by rw [pickN_succ, if_neg (fun h => hs (by have := of_decide_eq_true h; rwa [Int.toNat_natCast] at this))]
      (repeat' (first | (first | refine Wo.nil ?_ | refine Wd.nil ?_ | ((first | refine Wo.cons ?_ | refine Wd.cons ?_); (try refine W1.go rfl rfl ?_); ((first | refine k1 ?_ | refine k2 ?_ | (refine isDst 2 ?_; refine W1.boxA rfl (fun b2 hb2 => ?_)) | (refine isDst 9 ?_; refine W1.load1 rfl (List.mem_append_right _ (List.mem_cons_self ..)) rfl ?_) | (refine isDst 10 ?_; refine W1.cO ?_) | (refine isDst 15 ?_; refine W1.shr16 rfl rfl ?_) | (refine isDst 16 ?_; refine W1.and16 rfl rfl ?_) | (refine isDst 17 ?_; refine W1.cO ?_) | (refine isDst 20 ?_; refine W1.bslice (l := [.int .i64 (i : Nat)]) (fill_all (catF1 rfl rfl catF0) rfl) (fun b20 hb20 => ?_)) | (refine isDst 21 ?_; refine W1.appI (F1 := [_]) rfl ho rfl rfl (List.mem_cons_self ..) (by omega) (fun w Fw hw => ?_); simp only [List.cons_append, List.nil_append]) | refine W1.auto ?_ | ((first | refine kA ?_ | refine kB ?_ | refine kC ?_ | refine kD ?_ | refine kE ?_ | refine kF ?_ | refine kG ?_); refine ⟨fun _ => ?_, fun _ => ?_⟩)) <;> (try refine ⟨fun _ => rfl, ?_⟩)))) | (first | refine Ws.seq ?_ | refine Ws.region ?_ | refine Ws.draw (fun bd hbd => ?_) | refine Ws.cond rfl ?_ | refine Ws.skip ?_ | refine Ws.scope ?_ | refine Ws.block ?_ | refine Ws.exit ?_ | refine Ws.ret ?_)))
      refine ⟨(i + 1, u, Fo), ⟨rfl, rfl, rfl, rfl, trivial⟩, List.Sublist.refl _, ⟨hic, ?_⟩, by show _ - (i + 1) < _ - i; omega⟩
      show OwnI lo false u Fo (pickN (bitB bits) (i + 1))
      rw [ep]; exact ho
  · obtain rfl : i = T.toNat + 1 := by omega
    (repeat' (first | (first | refine Wo.nil ?_ | refine Wd.nil ?_ | ((first | refine Wo.cons ?_ | refine Wd.cons ?_); (try refine W1.go rfl rfl ?_); ((first | refine k1 ?_ | refine k2 ?_ | (refine isDst 2 ?_; refine W1.boxA rfl (fun b2 hb2 => ?_)) | (refine isDst 9 ?_; refine W1.load1 rfl (List.mem_append_right _ (List.mem_cons_self ..)) rfl ?_) | (refine isDst 10 ?_; refine W1.cO ?_) | (refine isDst 15 ?_; refine W1.shr16 rfl rfl ?_) | (refine isDst 16 ?_; refine W1.and16 rfl rfl ?_) | (refine isDst 17 ?_; refine W1.cO ?_) | (refine isDst 20 ?_; refine W1.bslice (l := [.int .i64 (i : Nat)]) (fill_all (catF1 rfl rfl catF0) rfl) (fun b20 hb20 => ?_)) | (refine isDst 21 ?_; refine W1.appI (F1 := [_]) rfl ho rfl rfl (List.mem_cons_self ..) (by omega) (fun w Fw hw => ?_); simp only [List.cons_append, List.nil_append]) | refine W1.auto ?_ | ((first | refine kA ?_ | refine kB ?_ | refine kC ?_ | refine kD ?_ | refine kE ?_ | refine kF ?_ | refine kG ?_); refine ⟨fun _ => ?_, fun _ => ?_⟩)) <;> (try refine ⟨fun _ => rfl, ?_⟩)))) | (first | refine Ws.seq ?_ | refine Ws.region ?_ | refine Ws.draw (fun bd hbd => ?_) | refine Ws.cond rfl ?_ | refine Ws.skip ?_ | refine Ws.scope ?_ | refine Ws.block ?_ | refine Ws.exit ?_ | refine Ws.ret ?_)))
    exact FnEnd.ret (F' := Fo ++ F) (vs := [_]) (.tmp rfl .nil) (List.Sublist.append (List.Sublist.refl _) (.cons _ (List.Sublist.refl _))) ⟨Fo, ho, rfl⟩
end Go.Ax
