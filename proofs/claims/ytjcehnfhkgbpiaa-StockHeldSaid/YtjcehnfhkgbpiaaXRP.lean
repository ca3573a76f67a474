/-
  The law StockHeld: in each run the machine's answer is true.
-/
import Derived.Test.YtjcehnfhkgbpiaaXRO
import Derived.Test.YtjcehnfhkgbpiaaXRD
import Derived.Test.YtjcehnfhkgbpiaaXNM
import Derived.Test.YtjcehnfhkgbpiaaXNN
namespace Go.Ax
set_option maxHeartbeats 1000000
set_option maxRecDepth 6000
set_option linter.unusedSimpArgs false
set_option linter.unusedVariables false
attribute [-simp] List.getD_eq_getElem?_getD
variable {lo : Nat} {F : Hp}
theorem f7_loop {T a b : Int} {fs : List Fl} {k : Nat} {v : AV} {b3 b10 : Nat} {B : FE} (hN : Net T fs) (hr : FRow F v fs) (hk : k < fs.length) (he : errN T fs (k : Nat) = 0) (ha : EndR T fs k false a) (hb : EndR T fs k true b) :
    Ws tblW lo none (af7.body.loopAt 0) (upds B ((12, .int .i64 0) :: [(3, .ptr (some (b3, 0))), (7, .int .i64 (k : Nat)), (10, .ptr (some (b10, 0)))])) ((b10, ABlk.cells [.int .i64 a, .int .i64 b] true) :: (b3, ABlk.cells [.int .i64 T, v] true) :: F)
      fun r E' H => r = .exit 0 ∧ H = ((b10, ABlk.cells [.int .i64 a, .int .i64 b] true) :: (b3, ABlk.cells [.int .i64 T, v] true) :: F) := by
  show Ws tblW lo none (.loop _) _ _ _
  refine Ws.shrink ?_
  have hn := hN.n
  have hT := hN.t
  have hl : fs.length ≤ 9223372036854775807 := by omega
  refine Ws.loopG (X := Nat) (fun i => (12, .int .i64 (i : Nat)) :: [(3, .ptr (some (b3, 0))), (7, .int .i64 (k : Nat)), (10, .ptr (some (b10, 0)))]) (fun _ => ((b10, ABlk.cells [.int .i64 a, .int .i64 b] true) :: (b3, ABlk.cells [.int .i64 T, v] true) :: F)) (fun i => i ≤ 2) (fun i => 2 - i) 0 ⟨rfl, rfl, rfl, rfl, trivial⟩ (List.Sublist.refl _) (Nat.zero_le _) ?_
  rintro i B2 hi
  have hr0 : FRow ((b10, ABlk.cells [.int .i64 a, .int .i64 b] true) :: (b3, ABlk.cells [.int .i64 T, v] true) :: F) v fs := hr.cons.cons
  by_cases hi0 : i = 0
  · subst hi0
    (repeat' (first | (first | refine Wo.nil ?_ | refine Wd.nil ?_ | ((first | refine Wo.cons ?_ | refine Wd.cons ?_); (try refine W1.go rfl rfl ?_); ((first | refine k1 ?_ | refine k2 ?_ | (refine isDst 89 ?_; refine W1.cO ?_) | (refine isDst 95 ?_; refine W1.cO ?_) | (refine isDst 102 ?_; refine W1.cO ?_) | (refine isDst 93 ?_; refine W1.load1 rfl (List.mem_cons_self ..) rfl ?_) | (refine isDst 97 ?_; refine W1.load1 rfl (List.mem_cons_self ..) rfl ?_) | (refine isDst 99 ?_; refine W1.loadA rfl (List.mem_cons_of_mem _ (List.mem_cons_self ..)) rfl ?_) | refine W1.auto ?_ | ((first | refine kA ?_ | refine kB ?_ | refine kC ?_ | refine kD ?_ | refine kE ?_ | refine kF ?_ | refine kG ?_); refine ⟨fun _ => ?_, fun _ => ?_⟩) | refine W1.alloc (fun _ _ => ?_) | refine W1.boxA rfl (fun _ _ => ?_) | refine kq (fun _ _ => ?_) | refine kp ?_ | (refine isIaddrs ?_; first | refine W1.iaddrI inI rfl rfl (by omega) (fun _ _ _ _ _ _ => ?_) | refine W1.iaddrR inR rfl rfl (by omega) (fun _ _ _ _ _ _ _ => ?_)) | (refine isBox ?_; refine W1.boxS inW (by rfl) (fun _ _ => ?_)) | (refine isBslice ?_; refine W1.bslice (fill_all inC rfl) (fun _ _ => ?_))) <;> (try refine ⟨fun _ => rfl, ?_⟩)))) | (first | refine Ws.seq ?_ | refine Ws.region ?_ | refine Ws.draw (fun bd hbd => ?_) | refine Ws.cond rfl ?_ | refine Ws.skip ?_ | refine Ws.scope ?_ | refine Ws.block ?_ | refine Ws.exit ?_ | refine Ws.ret ?_)))
    refine Wo.cons ?_
    refine W1.callM rfl rfl ((f27_ok hr0 hl).mono ?_)
    rintro _ _ ⟨F1, hrch, rfl⟩
    cases hrch with
    | err h => exact absurd he h
    | @ok x1 rv1' F1 _ hT1 ho1 he1 =>
      rw [Int.toNat_natCast] at he1
      have hx1 : x1.getD k 0 = a := he1.uniq ha
      have hch : chkT T fs x1 = 0 := (chkT_net hN).2 hT1
      have hxl := hT1.r.1
      have m31 : (b3, ABlk.cells [.int .i64 T, v] true) ∈ F1 ++ ((b10, ABlk.cells [.int .i64 a, .int .i64 b] true) :: (b3, ABlk.cells [.int .i64 T, v] true) :: F) := List.mem_append_right _ (List.mem_cons_of_mem _ (List.mem_cons_self ..))
      (repeat' (first | (first | refine Wo.nil ?_ | refine Wd.nil ?_ | ((first | refine Wo.cons ?_ | refine Wd.cons ?_); (try refine W1.go rfl rfl ?_); ((first | refine k1 ?_ | refine k2 ?_ | (refine isDst 110 ?_; refine W1.cO ?_) | (refine isDst 107 ?_; refine W1.loadA rfl m31 rfl ?_) | refine W1.auto ?_ | ((first | refine kA ?_ | refine kB ?_ | refine kC ?_ | refine kD ?_ | refine kE ?_ | refine kF ?_ | refine kG ?_); refine ⟨fun _ => ?_, fun _ => ?_⟩) | refine W1.alloc (fun _ _ => ?_) | refine W1.boxA rfl (fun _ _ => ?_) | refine kq (fun _ _ => ?_) | refine kp ?_ | (refine isIaddrs ?_; first | refine W1.iaddrI inI rfl rfl (by omega) (fun _ _ _ _ _ _ => ?_) | refine W1.iaddrR inR rfl rfl (by omega) (fun _ _ _ _ _ _ _ => ?_)) | (refine isBox ?_; refine W1.boxS inW (by rfl) (fun _ _ => ?_)) | (refine isBslice ?_; refine W1.bslice (fill_all inC rfl) (fun _ _ => ?_))) <;> (try refine ⟨fun _ => rfl, ?_⟩)))) | (first | refine Ws.seq ?_ | refine Ws.region ?_ | refine Ws.draw (fun bd hbd => ?_) | refine Ws.cond rfl ?_ | refine Ws.skip ?_ | refine Ws.scope ?_ | refine Ws.block ?_ | refine Ws.exit ?_ | refine Ws.ret ?_)))
      refine Wo.cons ?_
      refine W1.callM rfl rfl ((f30_ok hr0.app hl).mono ?_)
      rintro _ _ ⟨F2, hbou, rfl⟩
      cases hbou with
      | err h => exact absurd he h
      | @ok set rv2 F2 w _ ho2 hb2 he2 hl2 =>
        rw [Int.toNat_natCast] at he2
        have hw : w = a := he2.uniq ha
        have hx1row : RowI (F2 ++ (F1 ++ ((b10, ABlk.cells [.int .i64 a, .int .i64 b] true) :: (b3, ABlk.cells [.int .i64 T, v] true) :: F))) rv1' x1 := (ho1.rowI (List.subset_append_left _ _)).app
        have hr2 : FRow (F2 ++ (F1 ++ ((b10, ABlk.cells [.int .i64 a, .int .i64 b] true) :: (b3, ABlk.cells [.int .i64 T, v] true) :: F))) v fs := hr0.app.app
        have c28 := f28_ok (T := T) (k := (k : Nat)) (high := false) hr2 hl (ho2.rowI (List.subset_append_left _ _)) (by omega)
        have c29 := f29_ok (T := T) (k := (k : Nat)) (high := false) hr2 hl (ho2.rowI (List.subset_append_left _ _)) (by omega)
        have c21 := f21_ok (T := T) hr2 hl hx1row (by omega)
        have c22 := f22_ok (T := T) hr2 hl hx1row (by omega)
        rw [hb2] at c28 c29
        rw [hch] at c21 c22
        have m32 : (b3, ABlk.cells [.int .i64 T, v] true) ∈ F2 ++ (F1 ++ ((b10, ABlk.cells [.int .i64 a, .int .i64 b] true) :: (b3, ABlk.cells [.int .i64 T, v] true) :: F)) := List.mem_append_right _ m31
        have hkx : k < x1.length := by omega
        (repeat' (first | (first | refine Wo.nil ?_ | refine Wd.nil ?_ | ((first | refine Wo.cons ?_ | refine Wd.cons ?_); (try refine W1.go rfl rfl ?_); ((first | refine k1 ?_ | refine k2 ?_ | (refine isDst 115 ?_; refine W1.loadA rfl m32 rfl ?_) | (refine isDst 124 ?_; refine W1.loadA rfl m32 rfl ?_) | (refine isDst 147 ?_; refine W1.loadA rfl m32 rfl ?_) | (refine isDst 153 ?_; refine W1.loadA rfl m32 rfl ?_) | (refine isDst 120 ?_; refine W1.pure rfl rfl c28 ?_) | (refine isDst 129 ?_; refine W1.pure rfl rfl c29 ?_) | (refine isDst 149 ?_; refine W1.pure rfl rfl c21 ?_) | (refine isDst 155 ?_; refine W1.pure rfl rfl c22 ?_) | (refine isDst 161 ?_; refine W1.iaddrI hx1row rfl rfl hkx (fun bq o l' own hm h1 => ?_)) | (refine isDst 162 ?_; refine W1.load1 rfl hm h1 ?_) | refine W1.cO ?_ | refine W1.auto ?_ | ((first | refine kA ?_ | refine kB ?_ | refine kC ?_ | refine kD ?_ | refine kE ?_ | refine kF ?_ | refine kG ?_); refine ⟨fun _ => ?_, fun _ => ?_⟩) | refine W1.alloc (fun _ _ => ?_) | refine W1.boxA rfl (fun _ _ => ?_) | refine kq (fun _ _ => ?_) | refine kp ?_ | (refine isIaddrs ?_; first | refine W1.iaddrI inI rfl rfl (by omega) (fun _ _ _ _ _ _ => ?_) | refine W1.iaddrR inR rfl rfl (by omega) (fun _ _ _ _ _ _ _ => ?_)) | (refine isBox ?_; refine W1.boxS inW (by rfl) (fun _ _ => ?_)) | (refine isBslice ?_; refine W1.bslice (fill_all inC rfl) (fun _ _ => ?_))) <;> (try refine ⟨fun _ => rfl, ?_⟩)))) | (first | refine Ws.seq ?_ | refine Ws.region ?_ | refine Ws.draw (fun bd hbd => ?_) | refine Ws.cond rfl ?_ | refine Ws.skip ?_ | refine Ws.scope ?_ | refine Ws.block ?_ | refine Ws.exit ?_ | refine Ws.ret ?_)))
        exact ⟨0 + 1, ⟨rfl, rfl, rfl, rfl, trivial⟩, List.Sublist.trans (List.sublist_append_right _ _) (List.sublist_append_right _ _), by show _ ≤ 2; omega, by show _ - _ < _ - _; omega⟩
  by_cases hi1 : i = 1
  · subst hi1
    (repeat' (first | (first | refine Wo.nil ?_ | refine Wd.nil ?_ | ((first | refine Wo.cons ?_ | refine Wd.cons ?_); (try refine W1.go rfl rfl ?_); ((first | refine k1 ?_ | refine k2 ?_ | (refine isDst 89 ?_; refine W1.cO ?_) | (refine isDst 95 ?_; refine W1.cO ?_) | (refine isDst 102 ?_; refine W1.cO ?_) | (refine isDst 93 ?_; refine W1.load1 rfl (List.mem_cons_self ..) rfl ?_) | (refine isDst 97 ?_; refine W1.load1 rfl (List.mem_cons_self ..) rfl ?_) | (refine isDst 99 ?_; refine W1.loadA rfl (List.mem_cons_of_mem _ (List.mem_cons_self ..)) rfl ?_) | refine W1.auto ?_ | ((first | refine kA ?_ | refine kB ?_ | refine kC ?_ | refine kD ?_ | refine kE ?_ | refine kF ?_ | refine kG ?_); refine ⟨fun _ => ?_, fun _ => ?_⟩) | refine W1.alloc (fun _ _ => ?_) | refine W1.boxA rfl (fun _ _ => ?_) | refine kq (fun _ _ => ?_) | refine kp ?_ | (refine isIaddrs ?_; first | refine W1.iaddrI inI rfl rfl (by omega) (fun _ _ _ _ _ _ => ?_) | refine W1.iaddrR inR rfl rfl (by omega) (fun _ _ _ _ _ _ _ => ?_)) | (refine isBox ?_; refine W1.boxS inW (by rfl) (fun _ _ => ?_)) | (refine isBslice ?_; refine W1.bslice (fill_all inC rfl) (fun _ _ => ?_))) <;> (try refine ⟨fun _ => rfl, ?_⟩)))) | (first | refine Ws.seq ?_ | refine Ws.region ?_ | refine Ws.draw (fun bd hbd => ?_) | refine Ws.cond rfl ?_ | refine Ws.skip ?_ | refine Ws.scope ?_ | refine Ws.block ?_ | refine Ws.exit ?_ | refine Ws.ret ?_)))
    refine Wo.cons ?_
    refine W1.callM rfl rfl ((f27_ok hr0 hl).mono ?_)
    rintro _ _ ⟨F1, hrch, rfl⟩
    cases hrch with
    | err h => exact absurd he h
    | @ok x1 rv1' F1 _ hT1 ho1 he1 =>
      rw [Int.toNat_natCast] at he1
      have hx1 : x1.getD k 0 = b := he1.uniq hb
      have hch : chkT T fs x1 = 0 := (chkT_net hN).2 hT1
      have hxl := hT1.r.1
      have m31 : (b3, ABlk.cells [.int .i64 T, v] true) ∈ F1 ++ ((b10, ABlk.cells [.int .i64 a, .int .i64 b] true) :: (b3, ABlk.cells [.int .i64 T, v] true) :: F) := List.mem_append_right _ (List.mem_cons_of_mem _ (List.mem_cons_self ..))
      (repeat' (first | (first | refine Wo.nil ?_ | refine Wd.nil ?_ | ((first | refine Wo.cons ?_ | refine Wd.cons ?_); (try refine W1.go rfl rfl ?_); ((first | refine k1 ?_ | refine k2 ?_ | (refine isDst 110 ?_; refine W1.cO ?_) | (refine isDst 107 ?_; refine W1.loadA rfl m31 rfl ?_) | refine W1.auto ?_ | ((first | refine kA ?_ | refine kB ?_ | refine kC ?_ | refine kD ?_ | refine kE ?_ | refine kF ?_ | refine kG ?_); refine ⟨fun _ => ?_, fun _ => ?_⟩) | refine W1.alloc (fun _ _ => ?_) | refine W1.boxA rfl (fun _ _ => ?_) | refine kq (fun _ _ => ?_) | refine kp ?_ | (refine isIaddrs ?_; first | refine W1.iaddrI inI rfl rfl (by omega) (fun _ _ _ _ _ _ => ?_) | refine W1.iaddrR inR rfl rfl (by omega) (fun _ _ _ _ _ _ _ => ?_)) | (refine isBox ?_; refine W1.boxS inW (by rfl) (fun _ _ => ?_)) | (refine isBslice ?_; refine W1.bslice (fill_all inC rfl) (fun _ _ => ?_))) <;> (try refine ⟨fun _ => rfl, ?_⟩)))) | (first | refine Ws.seq ?_ | refine Ws.region ?_ | refine Ws.draw (fun bd hbd => ?_) | refine Ws.cond rfl ?_ | refine Ws.skip ?_ | refine Ws.scope ?_ | refine Ws.block ?_ | refine Ws.exit ?_ | refine Ws.ret ?_)))
      refine Wo.cons ?_
      refine W1.callM rfl rfl ((f30_ok hr0.app hl).mono ?_)
      rintro _ _ ⟨F2, hbou, rfl⟩
      cases hbou with
      | err h => exact absurd he h
      | @ok set rv2 F2 w _ ho2 hb2 he2 hl2 =>
        rw [Int.toNat_natCast] at he2
        have hw : w = b := he2.uniq hb
        have hx1row : RowI (F2 ++ (F1 ++ ((b10, ABlk.cells [.int .i64 a, .int .i64 b] true) :: (b3, ABlk.cells [.int .i64 T, v] true) :: F))) rv1' x1 := (ho1.rowI (List.subset_append_left _ _)).app
        have hr2 : FRow (F2 ++ (F1 ++ ((b10, ABlk.cells [.int .i64 a, .int .i64 b] true) :: (b3, ABlk.cells [.int .i64 T, v] true) :: F))) v fs := hr0.app.app
        have c28 := f28_ok (T := T) (k := (k : Nat)) (high := true) hr2 hl (ho2.rowI (List.subset_append_left _ _)) (by omega)
        have c29 := f29_ok (T := T) (k := (k : Nat)) (high := true) hr2 hl (ho2.rowI (List.subset_append_left _ _)) (by omega)
        have c21 := f21_ok (T := T) hr2 hl hx1row (by omega)
        have c22 := f22_ok (T := T) hr2 hl hx1row (by omega)
        rw [hb2] at c28 c29
        rw [hch] at c21 c22
        have m32 : (b3, ABlk.cells [.int .i64 T, v] true) ∈ F2 ++ (F1 ++ ((b10, ABlk.cells [.int .i64 a, .int .i64 b] true) :: (b3, ABlk.cells [.int .i64 T, v] true) :: F)) := List.mem_append_right _ m31
        have hkx : k < x1.length := by omega
        (repeat' (first | (first | refine Wo.nil ?_ | refine Wd.nil ?_ | ((first | refine Wo.cons ?_ | refine Wd.cons ?_); (try refine W1.go rfl rfl ?_); ((first | refine k1 ?_ | refine k2 ?_ | (refine isDst 115 ?_; refine W1.loadA rfl m32 rfl ?_) | (refine isDst 124 ?_; refine W1.loadA rfl m32 rfl ?_) | (refine isDst 147 ?_; refine W1.loadA rfl m32 rfl ?_) | (refine isDst 153 ?_; refine W1.loadA rfl m32 rfl ?_) | (refine isDst 120 ?_; refine W1.pure rfl rfl c28 ?_) | (refine isDst 129 ?_; refine W1.pure rfl rfl c29 ?_) | (refine isDst 149 ?_; refine W1.pure rfl rfl c21 ?_) | (refine isDst 155 ?_; refine W1.pure rfl rfl c22 ?_) | (refine isDst 161 ?_; refine W1.iaddrI hx1row rfl rfl hkx (fun bq o l' own hm h1 => ?_)) | (refine isDst 162 ?_; refine W1.load1 rfl hm h1 ?_) | refine W1.cO ?_ | refine W1.auto ?_ | ((first | refine kA ?_ | refine kB ?_ | refine kC ?_ | refine kD ?_ | refine kE ?_ | refine kF ?_ | refine kG ?_); refine ⟨fun _ => ?_, fun _ => ?_⟩) | refine W1.alloc (fun _ _ => ?_) | refine W1.boxA rfl (fun _ _ => ?_) | refine kq (fun _ _ => ?_) | refine kp ?_ | (refine isIaddrs ?_; first | refine W1.iaddrI inI rfl rfl (by omega) (fun _ _ _ _ _ _ => ?_) | refine W1.iaddrR inR rfl rfl (by omega) (fun _ _ _ _ _ _ _ => ?_)) | (refine isBox ?_; refine W1.boxS inW (by rfl) (fun _ _ => ?_)) | (refine isBslice ?_; refine W1.bslice (fill_all inC rfl) (fun _ _ => ?_))) <;> (try refine ⟨fun _ => rfl, ?_⟩)))) | (first | refine Ws.seq ?_ | refine Ws.region ?_ | refine Ws.draw (fun bd hbd => ?_) | refine Ws.cond rfl ?_ | refine Ws.skip ?_ | refine Ws.scope ?_ | refine Ws.block ?_ | refine Ws.exit ?_ | refine Ws.ret ?_)))
        exact ⟨1 + 1, ⟨rfl, rfl, rfl, rfl, trivial⟩, List.Sublist.trans (List.sublist_append_right _ _) (List.sublist_append_right _ _), by show _ ≤ 2; omega, by show _ - _ < _ - _; omega⟩
  obtain rfl : i = 2 := by omega
  (repeat' (first | (first | refine Wo.nil ?_ | refine Wd.nil ?_ | ((first | refine Wo.cons ?_ | refine Wd.cons ?_); (try refine W1.go rfl rfl ?_); ((first | refine k1 ?_ | refine k2 ?_ | (refine isDst 89 ?_; refine W1.cO ?_) | refine W1.auto ?_ | ((first | refine kA ?_ | refine kB ?_ | refine kC ?_ | refine kD ?_ | refine kE ?_ | refine kF ?_ | refine kG ?_); refine ⟨fun _ => ?_, fun _ => ?_⟩) | refine W1.alloc (fun _ _ => ?_) | refine W1.boxA rfl (fun _ _ => ?_) | refine kq (fun _ _ => ?_) | refine kp ?_ | (refine isIaddrs ?_; first | refine W1.iaddrI inI rfl rfl (by omega) (fun _ _ _ _ _ _ => ?_) | refine W1.iaddrR inR rfl rfl (by omega) (fun _ _ _ _ _ _ _ => ?_)) | (refine isBox ?_; refine W1.boxS inW (by rfl) (fun _ _ => ?_)) | (refine isBslice ?_; refine W1.bslice (fill_all inC rfl) (fun _ _ => ?_))) <;> (try refine ⟨fun _ => rfl, ?_⟩)))) | (first | refine Ws.seq ?_ | refine Ws.region ?_ | refine Ws.draw (fun bd hbd => ?_) | refine Ws.cond rfl ?_ | refine Ws.skip ?_ | refine Ws.scope ?_ | refine Ws.block ?_ | refine Ws.exit ?_ | refine Ws.ret ?_)))
  exact ⟨_, List.Sublist.refl _, rfl, rfl⟩
theorem f7_ok {T fl : Int} {fs : List Fl} {us : List Int} {v bv : AV} (hr : FRow F v fs) (hl : fs.length ≤ 9223372036854775807) (hu : NumsV F .u32 4294967295 bv us) (hfl : 0 ≤ fl ∧ fl ≤ 255) : Pure tblW (fnv 7) [netV T v, bv, .int .u8 fl] F (.bool true) := by
  intro lo
  refine Fn.func (fn := af7) rfl rfl ?_
  have hul := hu.len
  cases hf : fineB T fs with
  | false =>
    (repeat' (first | (first | refine Wo.nil ?_ | refine Wd.nil ?_ | ((first | refine Wo.cons ?_ | refine Wd.cons ?_); (try refine W1.go rfl rfl ?_); ((first | refine k1 ?_ | refine k2 ?_ | (refine isDst 3 ?_; refine W1.boxA rfl (fun b3 hb3 => ?_)) | (refine isDst 23 ?_; refine W1.pure rfl rfl (f37_ok hr.cons hl) ?_; rw [hf]) | (refine isDst 27 ?_; refine W1.lenZ hu.row.cons rfl ?_) | (refine isDst 28 ?_; refine W1.cO ?_) | (refine isDst 33 ?_; refine W1.lenZ hr.cons rfl ?_) | (refine isDst 34 ?_; refine W1.cO ?_) | refine W1.pure rfl rfl f16_ok ?_ | refine W1.auto ?_ | ((first | refine kA ?_ | refine kB ?_ | refine kC ?_ | refine kD ?_ | refine kE ?_ | refine kF ?_ | refine kG ?_); refine ⟨fun _ => ?_, fun _ => ?_⟩) | refine W1.alloc (fun _ _ => ?_) | refine W1.boxA rfl (fun _ _ => ?_) | refine kq (fun _ _ => ?_) | refine kp ?_ | (refine isIaddrs ?_; first | refine W1.iaddrI inI rfl rfl (by omega) (fun _ _ _ _ _ _ => ?_) | refine W1.iaddrR inR rfl rfl (by omega) (fun _ _ _ _ _ _ _ => ?_)) | (refine isBox ?_; refine W1.boxS inW (by rfl) (fun _ _ => ?_)) | (refine isBslice ?_; refine W1.bslice (fill_all inC rfl) (fun _ _ => ?_))) <;> (try refine ⟨fun _ => rfl, ?_⟩)))) | (first | refine Ws.seq ?_ | refine Ws.region ?_ | refine Ws.draw (fun bd hbd => ?_) | refine Ws.cond rfl ?_ | refine Ws.skip ?_ | refine Ws.scope ?_ | refine Ws.block ?_ | refine Ws.exit ?_ | refine Ws.ret ?_)))
    (refine FnEnd.ret (F' := F) (vs := [_]) (by (first | refine ResF.tmp inW ?_ | refine ResF.cell rfl inF inP ?_); exact ResF.nil) inS ⟨?_, rfl⟩)
    rfl
  | true =>
    have hN := fineB_net.1 hf
    have h0 := chkN_net.2 hN
    have hT := hN.t
    have hn := hN.n
    by_cases h60 : 60 < us.length
    · (repeat' (first | (first | refine Wo.nil ?_ | refine Wd.nil ?_ | ((first | refine Wo.cons ?_ | refine Wd.cons ?_); (try refine W1.go rfl rfl ?_); ((first | refine k1 ?_ | refine k2 ?_ | (refine isDst 3 ?_; refine W1.boxA rfl (fun b3 hb3 => ?_)) | (refine isDst 23 ?_; refine W1.pure rfl rfl (f37_ok hr.cons hl) ?_; rw [hf]) | (refine isDst 27 ?_; refine W1.lenZ hu.row.cons rfl ?_) | (refine isDst 28 ?_; refine W1.cO ?_) | (refine isDst 33 ?_; refine W1.lenZ hr.cons rfl ?_) | (refine isDst 34 ?_; refine W1.cO ?_) | refine W1.pure rfl rfl f16_ok ?_ | refine W1.auto ?_ | ((first | refine kA ?_ | refine kB ?_ | refine kC ?_ | refine kD ?_ | refine kE ?_ | refine kF ?_ | refine kG ?_); refine ⟨fun _ => ?_, fun _ => ?_⟩) | refine W1.alloc (fun _ _ => ?_) | refine W1.boxA rfl (fun _ _ => ?_) | refine kq (fun _ _ => ?_) | refine kp ?_ | (refine isIaddrs ?_; first | refine W1.iaddrI inI rfl rfl (by omega) (fun _ _ _ _ _ _ => ?_) | refine W1.iaddrR inR rfl rfl (by omega) (fun _ _ _ _ _ _ _ => ?_)) | (refine isBox ?_; refine W1.boxS inW (by rfl) (fun _ _ => ?_)) | (refine isBslice ?_; refine W1.bslice (fill_all inC rfl) (fun _ _ => ?_))) <;> (try refine ⟨fun _ => rfl, ?_⟩)))) | (first | refine Ws.seq ?_ | refine Ws.region ?_ | refine Ws.draw (fun bd hbd => ?_) | refine Ws.cond rfl ?_ | refine Ws.skip ?_ | refine Ws.scope ?_ | refine Ws.block ?_ | refine Ws.exit ?_ | refine Ws.ret ?_)))
      (refine FnEnd.ret (F' := F) (vs := [_]) (by (first | refine ResF.tmp inW ?_ | refine ResF.cell rfl inF inP ?_); exact ResF.nil) inS ⟨?_, rfl⟩)
      rfl
    by_cases hz : fs.length = 0
    · (repeat' (first | (first | refine Wo.nil ?_ | refine Wd.nil ?_ | ((first | refine Wo.cons ?_ | refine Wd.cons ?_); (try refine W1.go rfl rfl ?_); ((first | refine k1 ?_ | refine k2 ?_ | (refine isDst 3 ?_; refine W1.boxA rfl (fun b3 hb3 => ?_)) | (refine isDst 23 ?_; refine W1.pure rfl rfl (f37_ok hr.cons hl) ?_; rw [hf]) | (refine isDst 27 ?_; refine W1.lenZ hu.row.cons rfl ?_) | (refine isDst 28 ?_; refine W1.cO ?_) | (refine isDst 33 ?_; refine W1.lenZ hr.cons rfl ?_) | (refine isDst 34 ?_; refine W1.cO ?_) | refine W1.pure rfl rfl f16_ok ?_ | refine W1.auto ?_ | ((first | refine kA ?_ | refine kB ?_ | refine kC ?_ | refine kD ?_ | refine kE ?_ | refine kF ?_ | refine kG ?_); refine ⟨fun _ => ?_, fun _ => ?_⟩) | refine W1.alloc (fun _ _ => ?_) | refine W1.boxA rfl (fun _ _ => ?_) | refine kq (fun _ _ => ?_) | refine kp ?_ | (refine isIaddrs ?_; first | refine W1.iaddrI inI rfl rfl (by omega) (fun _ _ _ _ _ _ => ?_) | refine W1.iaddrR inR rfl rfl (by omega) (fun _ _ _ _ _ _ _ => ?_)) | (refine isBox ?_; refine W1.boxS inW (by rfl) (fun _ _ => ?_)) | (refine isBslice ?_; refine W1.bslice (fill_all inC rfl) (fun _ _ => ?_))) <;> (try refine ⟨fun _ => rfl, ?_⟩)))) | (first | refine Ws.seq ?_ | refine Ws.region ?_ | refine Ws.draw (fun bd hbd => ?_) | refine Ws.cond rfl ?_ | refine Ws.skip ?_ | refine Ws.scope ?_ | refine Ws.block ?_ | refine Ws.exit ?_ | refine Ws.ret ?_)))
      (refine FnEnd.ret (F' := F) (vs := [_]) (by (first | refine ResF.tmp inW ?_ | refine ResF.cell rfl inF inP ?_); exact ResF.nil) inS ⟨?_, rfl⟩)
      rfl
    obtain ⟨k, hkk⟩ : ∃ k : Nat, fl % (fs.length : Int) = (k : Nat) := ⟨(fl % (fs.length : Int)).toNat, by have := Int.emod_nonneg fl (show (fs.length : Int) ≠ 0 by omega); omega⟩
    have hk : k < fs.length := by have := Int.emod_lt_of_pos fl (show (0 : Int) < fs.length by omega); omega
    (repeat' (first | (first | refine Wo.nil ?_ | refine Wd.nil ?_ | ((first | refine Wo.cons ?_ | refine Wd.cons ?_); (try refine W1.go rfl rfl ?_); ((first | refine k1 ?_ | refine k2 ?_ | (refine isDst 3 ?_; refine W1.boxA rfl (fun b3 hb3 => ?_)) | (refine isDst 23 ?_; refine W1.pure rfl rfl (f37_ok hr.cons hl) ?_; rw [hf]) | (refine isDst 27 ?_; refine W1.lenZ hu.row.cons rfl ?_) | (refine isDst 28 ?_; refine W1.cO ?_) | (refine isDst 33 ?_; refine W1.lenZ hr.cons rfl ?_) | (refine isDst 34 ?_; refine W1.cO ?_) | refine W1.pure rfl rfl f16_ok ?_ | (refine isDst 38 ?_; refine W1.convI rfl (by omega) ?_) | (refine isDst 41 ?_; refine W1.lenZ hr.cons rfl ?_) | (refine isDst 42 ?_; refine W1.remN rfl rfl (by omega) (by omega) (fun _ _ => ?_); rw [hkk]) | refine W1.auto ?_ | ((first | refine kA ?_ | refine kB ?_ | refine kC ?_ | refine kD ?_ | refine kE ?_ | refine kF ?_ | refine kG ?_); refine ⟨fun _ => ?_, fun _ => ?_⟩) | refine W1.alloc (fun _ _ => ?_) | refine W1.boxA rfl (fun _ _ => ?_) | refine kq (fun _ _ => ?_) | refine kp ?_ | (refine isIaddrs ?_; first | refine W1.iaddrI inI rfl rfl (by omega) (fun _ _ _ _ _ _ => ?_) | refine W1.iaddrR inR rfl rfl (by omega) (fun _ _ _ _ _ _ _ => ?_)) | (refine isBox ?_; refine W1.boxS inW (by rfl) (fun _ _ => ?_)) | (refine isBslice ?_; refine W1.bslice (fill_all inC rfl) (fun _ _ => ?_))) <;> (try refine ⟨fun _ => rfl, ?_⟩)))) | (first | refine Ws.seq ?_ | refine Ws.region ?_ | refine Ws.draw (fun bd hbd => ?_) | refine Ws.cond rfl ?_ | refine Ws.skip ?_ | refine Ws.scope ?_ | refine Ws.block ?_ | refine Ws.exit ?_ | refine Ws.ret ?_)))
    refine Wo.cons ?_
    refine W1.callM rfl rfl ((f38_ok hN hr.cons (hu.mono (List.subset_cons_self _ _))).mono ?_)
    rintro _ _ ⟨Fo, htr, rfl⟩
    have m3 : (b3, ABlk.cells [.int .i64 T, v] true) ∈ Fo ++ ((b3, ABlk.cells [.int .i64 T, v] true) :: F) := List.mem_append_right _ (List.mem_cons_self ..)
    have c25 := f25_ok (lo := lo) (T := T) (k := (k : Nat)) (F := Fo ++ ((b3, ABlk.cells [.int .i64 T, v] true) :: F)) hr.cons.app hl
    have hkr : ¬ (((k : Nat) : Int) < 0 ∨ (fs.length : Int) ≤ ((k : Nat) : Int)) := by omega
    cases htr with
    | no h =>
      have he := errN_no h0 hkr h
      (repeat' (first | (first | refine Wo.nil ?_ | refine Wd.nil ?_ | ((first | refine Wo.cons ?_ | refine Wd.cons ?_); (try refine W1.go rfl rfl ?_); ((first | refine k1 ?_ | refine k2 ?_ | (refine isDst 50 ?_; refine W1.loadA rfl m3 rfl ?_) | (refine isDst 10 ?_; refine W1.alloc (fun b10 hb10 => ?_)) | refine W1.auto ?_ | ((first | refine kA ?_ | refine kB ?_ | refine kC ?_ | refine kD ?_ | refine kE ?_ | refine kF ?_ | refine kG ?_); refine ⟨fun _ => ?_, fun _ => ?_⟩) | refine W1.alloc (fun _ _ => ?_) | refine W1.boxA rfl (fun _ _ => ?_) | refine kq (fun _ _ => ?_) | refine kp ?_ | (refine isIaddrs ?_; first | refine W1.iaddrI inI rfl rfl (by omega) (fun _ _ _ _ _ _ => ?_) | refine W1.iaddrR inR rfl rfl (by omega) (fun _ _ _ _ _ _ _ => ?_)) | (refine isBox ?_; refine W1.boxS inW (by rfl) (fun _ _ => ?_)) | (refine isBslice ?_; refine W1.bslice (fill_all inC rfl) (fun _ _ => ?_))) <;> (try refine ⟨fun _ => rfl, ?_⟩)))) | (first | refine Ws.seq ?_ | refine Ws.region ?_ | refine Ws.draw (fun bd hbd => ?_) | refine Ws.cond rfl ?_ | refine Ws.skip ?_ | refine Ws.scope ?_ | refine Ws.block ?_ | refine Ws.exit ?_ | refine Ws.ret ?_)))
      refine Wo.cons ?_
      refine W1.callM rfl rfl (c25.mono ?_)
      rintro _ _ ⟨hsp, rfl⟩
      cases hsp with
      | ok h' => rw [he] at h'; cases h'
      | err _ =>
        rw [he]
        (repeat' (first | (first | refine Wo.nil ?_ | refine Wd.nil ?_ | ((first | refine Wo.cons ?_ | refine Wd.cons ?_); (try refine W1.go rfl rfl ?_); ((first | refine k1 ?_ | refine k2 ?_ | (refine isDst 10 ?_; refine W1.alloc (fun b10 hb10 => ?_)) | refine W1.cO ?_ | (refine isCall ?_; refine W1.pure rfl rfl f16_ok ?_) | refine W1.auto ?_ | ((first | refine kA ?_ | refine kB ?_ | refine kC ?_ | refine kD ?_ | refine kE ?_ | refine kF ?_ | refine kG ?_); refine ⟨fun _ => ?_, fun _ => ?_⟩) | refine W1.alloc (fun _ _ => ?_) | refine W1.boxA rfl (fun _ _ => ?_) | refine kq (fun _ _ => ?_) | refine kp ?_ | (refine isIaddrs ?_; first | refine W1.iaddrI inI rfl rfl (by omega) (fun _ _ _ _ _ _ => ?_) | refine W1.iaddrR inR rfl rfl (by omega) (fun _ _ _ _ _ _ _ => ?_)) | (refine isBox ?_; refine W1.boxS inW (by rfl) (fun _ _ => ?_)) | (refine isBslice ?_; refine W1.bslice (fill_all inC rfl) (fun _ _ => ?_))) <;> (try refine ⟨fun _ => rfl, ?_⟩)))) | (first | refine Ws.seq ?_ | refine Ws.region ?_ | refine Ws.draw (fun bd hbd => ?_) | refine Ws.cond rfl ?_ | refine Ws.skip ?_ | refine Ws.scope ?_ | refine Ws.block ?_ | refine Ws.exit ?_ | refine Ws.ret ?_)))
        exact FnEnd.ret (F' := F) (vs := [_]) (.tmp rfl .nil) (.cons _ (.cons _ (List.Sublist.refl _))) ⟨rfl, rfl⟩
    | @yes x xv Fo hT' hly =>
      have he := errN_ok h0 hkr ⟨x, hT'⟩
      have hch : chkT T fs x = 0 := (chkT_net hN).2 hT'
      have hxl := hT'.r.1
      have hxrow : RowI (Fo ++ ((b3, ABlk.cells [.int .i64 T, v] true) :: F)) xv x := (hly.lit (List.subset_append_left _ _)).r
      (repeat' (first | (first | refine Wo.nil ?_ | refine Wd.nil ?_ | ((first | refine Wo.cons ?_ | refine Wd.cons ?_); (try refine W1.go rfl rfl ?_); ((first | refine k1 ?_ | refine k2 ?_ | (refine isDst 50 ?_; refine W1.loadA rfl m3 rfl ?_) | refine W1.auto ?_ | ((first | refine kA ?_ | refine kB ?_ | refine kC ?_ | refine kD ?_ | refine kE ?_ | refine kF ?_ | refine kG ?_); refine ⟨fun _ => ?_, fun _ => ?_⟩) | refine W1.alloc (fun _ _ => ?_) | refine W1.boxA rfl (fun _ _ => ?_) | refine kq (fun _ _ => ?_) | refine kp ?_ | (refine isIaddrs ?_; first | refine W1.iaddrI inI rfl rfl (by omega) (fun _ _ _ _ _ _ => ?_) | refine W1.iaddrR inR rfl rfl (by omega) (fun _ _ _ _ _ _ _ => ?_)) | (refine isBox ?_; refine W1.boxS inW (by rfl) (fun _ _ => ?_)) | (refine isBslice ?_; refine W1.bslice (fill_all inC rfl) (fun _ _ => ?_))) <;> (try refine ⟨fun _ => rfl, ?_⟩)))) | (first | refine Ws.seq ?_ | refine Ws.region ?_ | refine Ws.draw (fun bd hbd => ?_) | refine Ws.cond rfl ?_ | refine Ws.skip ?_ | refine Ws.scope ?_ | refine Ws.block ?_ | refine Ws.exit ?_ | refine Ws.ret ?_)))
      refine Wo.cons ?_
      refine W1.callM rfl rfl (c25.mono ?_)
      rintro _ _ ⟨hsp, rfl⟩
      cases hsp with
      | err h' => exact absurd he h'
      | @ok a b _ ha hb =>
        rw [Int.toNat_natCast] at ha hb
        have hxa : a ≤ x.getD k 0 := LoEnd.b ha x hT'
        have hxb : x.getD k 0 ≤ b := HiEnd.b hb x hT'
        have c21 : ∀ {c : Nat × ABlk}, Pure tblW (fnv 21) [netV T v, xv] (c :: (Fo ++ ((b3, ABlk.cells [.int .i64 T, v] true) :: F))) (.int .i64 0) := fun {c} => by
          have := f21_ok (T := T) (F := c :: (Fo ++ ((b3, ABlk.cells [.int .i64 T, v] true) :: F))) hr.cons.app.cons hl hxrow.cons (by omega)
          rwa [hch] at this
        have hkx : k < x.length := by omega
        (repeat' (first | (first | refine Wo.nil ?_ | refine Wd.nil ?_ | ((first | refine Wo.cons ?_ | refine Wd.cons ?_); (try refine W1.go rfl rfl ?_); ((first | refine k1 ?_ | refine k2 ?_ | (refine isDst 10 ?_; refine W1.alloc (fun b10 hb10 => ?_)) | (refine isDst 65 ?_; refine W1.loadA rfl (List.mem_cons_of_mem _ m3) rfl ?_) | (refine isDst 67 ?_; refine W1.pure rfl rfl c21 ?_) | (refine isDst 73 ?_; refine W1.iaddrI hxrow.cons rfl rfl hkx (fun bq o l' own hm h1 => ?_)) | (refine isDst 74 ?_; refine W1.load1 rfl hm h1 ?_) | (refine isDst 82 ?_; refine W1.iaddrI hxrow.cons rfl rfl hkx (fun bq o l' own hm h1 => ?_)) | (refine isDst 83 ?_; refine W1.load1 rfl hm h1 ?_) | (refine isDst 76 ?_; refine W1.load1 rfl (List.mem_cons_self ..) rfl ?_) | (refine isDst 85 ?_; refine W1.load1 rfl (List.mem_cons_self ..) rfl ?_) | refine W1.cO ?_ | refine W1.auto ?_ | ((first | refine kA ?_ | refine kB ?_ | refine kC ?_ | refine kD ?_ | refine kE ?_ | refine kF ?_ | refine kG ?_); refine ⟨fun _ => ?_, fun _ => ?_⟩) | refine W1.alloc (fun _ _ => ?_) | refine W1.boxA rfl (fun _ _ => ?_) | refine kq (fun _ _ => ?_) | refine kp ?_ | (refine isIaddrs ?_; first | refine W1.iaddrI inI rfl rfl (by omega) (fun _ _ _ _ _ _ => ?_) | refine W1.iaddrR inR rfl rfl (by omega) (fun _ _ _ _ _ _ _ => ?_)) | (refine isBox ?_; refine W1.boxS inW (by rfl) (fun _ _ => ?_)) | (refine isBslice ?_; refine W1.bslice (fill_all inC rfl) (fun _ _ => ?_))) <;> (try refine ⟨fun _ => rfl, ?_⟩)))) | (first | refine Ws.seq ?_ | refine Ws.region ?_ | refine Ws.draw (fun bd hbd => ?_) | refine Ws.cond rfl ?_ | refine Ws.skip ?_ | refine Ws.scope ?_ | refine Ws.block ?_ | refine Ws.exit ?_ | refine Ws.ret ?_)))
        refine Ws.fresh (l := (12, .int .i64 0) :: [(3, .ptr (some (b3, 0))), (7, .int .i64 (k : Nat)), (10, .ptr (some (b10, 0)))]) ⟨rfl, rfl, rfl, rfl, trivial⟩ (fun B => ?_)
        refine Ws.weak (F' := ((b10, ABlk.cells [.int .i64 a, .int .i64 b] true) :: (b3, ABlk.cells [.int .i64 T, v] true) :: F)) (.cons_cons _ (List.sublist_append_right _ _)) ?_
        refine (f7_loop hN hr hk he ha hb).mono ?_
        rintro r E' H ⟨rfl, rfl⟩
        (repeat' (first | (first | refine Wo.nil ?_ | refine Wd.nil ?_ | ((first | refine Wo.cons ?_ | refine Wd.cons ?_); (try refine W1.go rfl rfl ?_); ((first | refine k1 ?_ | refine k2 ?_ | (refine isCall ?_; refine W1.pure rfl rfl f16_ok ?_) | refine W1.auto ?_ | ((first | refine kA ?_ | refine kB ?_ | refine kC ?_ | refine kD ?_ | refine kE ?_ | refine kF ?_ | refine kG ?_); refine ⟨fun _ => ?_, fun _ => ?_⟩) | refine W1.alloc (fun _ _ => ?_) | refine W1.boxA rfl (fun _ _ => ?_) | refine kq (fun _ _ => ?_) | refine kp ?_ | (refine isIaddrs ?_; first | refine W1.iaddrI inI rfl rfl (by omega) (fun _ _ _ _ _ _ => ?_) | refine W1.iaddrR inR rfl rfl (by omega) (fun _ _ _ _ _ _ _ => ?_)) | (refine isBox ?_; refine W1.boxS inW (by rfl) (fun _ _ => ?_)) | (refine isBslice ?_; refine W1.bslice (fill_all inC rfl) (fun _ _ => ?_))) <;> (try refine ⟨fun _ => rfl, ?_⟩)))) | (first | refine Ws.seq ?_ | refine Ws.region ?_ | refine Ws.draw (fun bd hbd => ?_) | refine Ws.cond rfl ?_ | refine Ws.skip ?_ | refine Ws.scope ?_ | refine Ws.block ?_ | refine Ws.exit ?_ | refine Ws.ret ?_)))
        exact FnEnd.ret (F' := F) (vs := [_]) (.tmp rfl .nil) (.cons _ (.cons _ (List.Sublist.refl _))) ⟨rfl, rfl⟩
end Go.Ax
