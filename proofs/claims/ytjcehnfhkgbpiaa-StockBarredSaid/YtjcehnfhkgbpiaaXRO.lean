/-
  Contracts: a truth by numbers.
-/
import Derived.Test.YtjcehnfhkgbpiaaXRL
import Derived.Test.YtjcehnfhkgbpiaaXNZ
namespace Go.Ax
set_option maxHeartbeats 1000000
set_option maxRecDepth 6000
set_option linter.unusedSimpArgs false
set_option linter.unusedVariables false
attribute [-simp] List.getD_eq_getElem?_getD
variable {lo : Nat} {F : Hp}
section
variable {tbl : Nat → Option AFn} {bd : Nat} {E : FE} {d : Option Nat} {R : FE → Hp → Cls → Prop} {x y : AO}
theorem wrap_u32 {n : Int} (h : 0 ≤ n ∧ n ≤ 4294967295) : IntKind.u32.wrap n = n := by
  have : IntKind.u32.wrap n = n % 4294967296 := rfl
  rw [this]; exact Int.emod_eq_of_lt h.1 (by omega)
theorem W1.convU {n : Int} {kd : IntKind} (hx : xev E x = .int kd n) (hn : 0 ≤ n ∧ n ≤ 4294967295) (k : R (fput E d (.int .u32 n)) F .n) : W1 tbl lo bd ⟨d, .conv .u32 x, none⟩ E F R := by
  refine W1.val (v := .int .u32 n) ?_ k
  simp only [opLocF, hx]
  rw [wrap_u32 hn]
theorem W1.quoU {a b : Int} (hx : xev E x = .int .u32 a) (hy : xev E y = .int .u32 b) (ha : 0 ≤ a ∧ a ≤ 4294967295) (hb : 1 ≤ b) (k : 0 ≤ a / b → a / b ≤ a → R (fput E d (.int .u32 (a / b))) F .n) : W1 tbl lo bd ⟨d, .bin .quo x y, none⟩ E F R := by
  have h1 : 0 ≤ a / b := Int.ediv_nonneg ha.1 (by omega)
  have h2 : a / b ≤ a := Int.ediv_le_self b ha.1
  refine W1.val (v := .int .u32 (a / b)) ?_ (k h1 h2)
  simp only [opLocF, hx, hy, binAV, binInt]
  rw [if_neg (by simp), if_neg (by omega), Int.tdiv_eq_ediv_of_nonneg ha.1, wrap_u32 ⟨h1, by omega⟩]
end
theorem set_eq {x : List Int} {k : Nat} (h : k < x.length) : x.set k (x.getD k 0) = x := by
  refine eq_of_getD (by simp) fun j hj => ?_
  rw [getD_setI h]
  by_cases e : j = k
  · rw [if_pos e, e]
  · rw [if_neg e]
theorem push_true {T : Int} {fs : List Fl} {x x' : List Int} {k : Nat} {m : Int} {high : Bool} (hN : Net T fs) (hk : k < fs.length) (h : IsT T fs x) (hr : inRg fs x') (hm : 0 ≤ m) (hml : m ≤ bif high then (gF fs k).hi - x.getD k 0 else x.getD k 0 - (gF fs k).lo)
    (ho : ∀ t, ov fs x' fs.length t = ov fs x fs.length t + (if t = (bif high then (gF fs k).f else (gF fs k).t) then m else 0) - (if t = (bif high then (gF fs k).t else (gF fs k).f) then m else 0)) (hb : x'.getD k 0 = x.getD k 0) :
    IsT T fs (x'.set k (bif high then x'.getD k 0 + m else x'.getD k 0 - m)) := by
  by_cases h0 : m = 0
  · subst h0
    have e : (bif high then x'.getD k 0 + 0 else x'.getD k 0 - 0) = x'.getD k 0 := by cases high <;> simp
    rw [e, set_eq (by rw [hr.1]; exact hk)]
    exact ⟨hr, fun t h1 h2 => by have h3 := ho t; have h4 := h.o t h1 h2; split at h3 <;> split at h3 <;> omega⟩
  · exact stretch_step hN hk h hr (by omega) hml ho hb
theorem f38_ok {T : Int} {fs : List Fl} {us : List Int} {v bv : AV} (hN : Net T fs) (hr : FRow F v fs) (hu : NumsV F .u32 4294967295 bv us) : Fn tblW lo (fnv 38) [netV T v, bv] F (fun r F' => ∃ Fo, RTrR lo T fs r Fo ∧ F' = Fo ++ F) := by
  refine Fn.func (fn := af38) rfl rfl ?_
  have hn := hN.n
  have hT := hN.t
  (repeat' (first | (first | refine Wo.nil ?_ | refine Wd.nil ?_ | ((first | refine Wo.cons ?_ | refine Wd.cons ?_); (try refine W1.go rfl rfl ?_); ((first | refine k1 ?_ | refine k2 ?_ | (refine isDst 2 ?_; refine W1.boxA rfl (fun b2 hb2 => ?_)) | (refine isDst 14 ?_; refine W1.callM rfl rfl ((f24_ok hN hr.cons).mono ?_); rintro rs _ ⟨Fr, hrt, rfl⟩) | refine W1.auto ?_) <;> (try refine ⟨fun _ => rfl, ?_⟩)))) | (first | refine Ws.seq ?_ | refine Ws.region ?_ | refine Ws.draw (fun bd hbd => ?_) | refine Ws.cond rfl ?_ | refine Ws.skip ?_ | refine Ws.scope ?_ | refine Ws.block ?_ | refine Ws.exit ?_ | refine Ws.ret ?_)))
  cases hrt with
  | no h =>
    (repeat' (first | (first | refine Wo.nil ?_ | refine Wd.nil ?_ | ((first | refine Wo.cons ?_ | refine Wd.cons ?_); (try refine W1.go rfl rfl ?_); ((first | refine k1 ?_ | refine k2 ?_ | (refine isDst 2 ?_; refine W1.boxA rfl (fun b2 hb2 => ?_)) | (refine isDst 14 ?_; refine W1.callM rfl rfl ((f24_ok hN hr.cons).mono ?_); rintro rs _ ⟨Fr, hrt, rfl⟩) | refine W1.auto ?_) <;> (try refine ⟨fun _ => rfl, ?_⟩)))) | (first | refine Ws.seq ?_ | refine Ws.region ?_ | refine Ws.draw (fun bd hbd => ?_) | refine Ws.cond rfl ?_ | refine Ws.skip ?_ | refine Ws.scope ?_ | refine Ws.block ?_ | refine Ws.exit ?_ | refine Ws.ret ?_)))
    exact FnEnd.ret (F' := F) (vs := [_, _]) (.tmp rfl (.tmp rfl .nil)) (.cons _ (List.Sublist.refl _)) ⟨[], .no h, rfl⟩
  | @yes x xv Fr hT' hly =>
    cases hly with
    | nil h =>
      subst h
      have hz : (([] : List Fl).length : Int) = 0 := rfl
      (repeat' (first | (first | refine Wo.nil ?_ | refine Wd.nil ?_ | ((first | refine Wo.cons ?_ | refine Wd.cons ?_); (try refine W1.go rfl rfl ?_); ((first | refine k1 ?_ | refine k2 ?_ | (refine isDst 21 ?_; refine W1.load1 rfl (List.mem_append_right _ (List.mem_cons_self ..)) rfl ?_) | (refine isDst 22 ?_; refine W1.lenZ hr.cons.app rfl ?_) | (refine isDst 23 ?_; refine W1.cO ?_) | refine W1.auto ?_) <;> (try refine ⟨fun _ => rfl, ?_⟩)))) | (first | refine Ws.seq ?_ | refine Ws.region ?_ | refine Ws.draw (fun bd hbd => ?_) | refine Ws.cond rfl ?_ | refine Ws.skip ?_ | refine Ws.scope ?_ | refine Ws.block ?_ | refine Ws.exit ?_ | refine Ws.ret ?_)))
      exact FnEnd.ret (F' := F) (vs := [_, _]) (.tmp rfl (.tmp rfl .nil)) (.cons _ (List.Sublist.refl _)) ⟨[], .yes hT' (.nil rfl), rfl⟩
    | @row bx x hbx hxl h0' =>
      have hfl : 0 < fs.length := List.length_pos_iff.2 h0'
      (repeat' (first | (first | refine Wo.nil ?_ | refine Wd.nil ?_ | ((first | refine Wo.cons ?_ | refine Wd.cons ?_); (try refine W1.go rfl rfl ?_); ((first | refine k1 ?_ | refine k2 ?_ | (refine isDst 21 ?_; refine W1.load1 rfl (List.mem_append_right _ (List.mem_cons_self ..)) rfl ?_) | (refine isDst 22 ?_; refine W1.lenZ hr.cons.app rfl ?_) | (refine isDst 23 ?_; refine W1.cO ?_) | refine W1.auto ?_) <;> (try refine ⟨fun _ => rfl, ?_⟩)))) | (first | refine Ws.seq ?_ | refine Ws.region ?_ | refine Ws.draw (fun bd hbd => ?_) | refine Ws.cond rfl ?_ | refine Ws.skip ?_ | refine Ws.scope ?_ | refine Ws.block ?_ | refine Ws.exit ?_ | refine Ws.ret ?_)))
      refine Ws.fresh (l := (6, (AV.slc (some (bx, 0)) fs.length fs.length false 1)) :: (8, .int .i64 0) :: [(1, bv), (2, .ptr (some (b2, 0)))]) ⟨rfl, rfl, rfl, rfl, trivial⟩ (fun B => ?_)
      refine Ws.loopG (X := Nat × List Int × Nat) (fun X => (6, .slc (some (X.2.2, 0)) fs.length fs.length false 1) :: (8, .int .i64 (X.1 : Nat)) :: [(1, bv), (2, .ptr (some (b2, 0)))]) (fun X => (X.2.2, .cells (ints X.2.1) true) :: ((b2, ABlk.cells [.int .i64 T, v] true) :: F)) (fun X => X.1 ≤ us.length ∧ IsT T fs X.2.1 ∧ lo ≤ X.2.2) (fun X => us.length - X.1) (0, x, bx) ⟨rfl, rfl, rfl, rfl, trivial⟩ (List.Sublist.refl _) ⟨Nat.zero_le _, hT', hbx⟩ ?_
      clear hT' hxl hbx
      rintro ⟨i, x, bx⟩ B2 ⟨hi, hT', hbx⟩
      dsimp only at hi hT' hbx ⊢
      have hrow : RowZ (nums .u32) 1 ((bx, .cells (ints x) true) :: ((b2, ABlk.cells [.int .i64 T, v] true) :: F)) bv us := hu.row.cons.cons
      have hlen := hu.len
      by_cases hic : i < us.length
      · have hui := hu.nn i
        obtain ⟨u, hux⟩ : ∃ u, us.getD i default = u := ⟨_, rfl⟩
        rw [hux] at hui
        obtain ⟨k, hkk⟩ : ∃ k : Nat, u % (fs.length : Int) = (k : Nat) := ⟨(u % (fs.length : Int)).toNat, by have := Int.emod_nonneg u (show (fs.length : Int) ≠ 0 by omega); omega⟩
        have hk : k < fs.length := by have := Int.emod_lt_of_pos u (show (0 : Int) < fs.length by omega); omega
        have hxr := hT'.r
        have hxl := hxr.1
        have hkl : k < x.length := by omega
        have hxk := hxr.2 k hk
        have huk := hN.u k hk
        have hfr : FRow ((bx, .cells (ints x) true) :: ((b2, ABlk.cells [.int .i64 T, v] true) :: F)) v fs := hr.cons.cons
        have m1 := Int.emod_nonneg (u / 64) (show (1000 : Int) ≠ 0 by decide)
        have m2 := Int.emod_lt_of_pos (u / 64) (show (0 : Int) < 1000 by decide)
        generalize hmu : (u / 64) % 1000 = mu at m1 m2
        have keyeven := fun b10 : Nat => f58_ok (lo := lo) (T := T) (fs := fs) (x := x) (but := (k : Nat)) (a := (gF fs k).t) (b := (gF fs k).f) (most := min mu (bif true then (gF fs k).hi - x.getD k 0 else x.getD k 0 - (gF fs k).lo)) (v := v) (xv := (AV.slc (some (bx, 0)) fs.length fs.length false 1)) (F := (b10, .cells [.int .i64 (gF fs k).f, .int .i64 (gF fs k).t, .int .i64 (gF fs k).lo, .int .i64 (gF fs k).hi] true) :: (bx, .cells (ints x) true) :: ((b2, ABlk.cells [.int .i64 T, v] true) :: F)) hN hr.cons.cons.cons (RowI.lit (List.mem_cons_of_mem _ (List.mem_cons_self ..)) hxl.symm) hxr ⟨by omega, by omega⟩ ⟨by omega, by omega⟩ ⟨by simp only [cond_true, cond_false]; omega, by simp only [cond_true, cond_false]; omega⟩
        simp only [cond_true, cond_false] at keyeven
        have keyodd := fun b10 : Nat => f58_ok (lo := lo) (T := T) (fs := fs) (x := x) (but := (k : Nat)) (a := (gF fs k).f) (b := (gF fs k).t) (most := min mu (bif false then (gF fs k).hi - x.getD k 0 else x.getD k 0 - (gF fs k).lo)) (v := v) (xv := (AV.slc (some (bx, 0)) fs.length fs.length false 1)) (F := (b10, .cells [.int .i64 (gF fs k).f, .int .i64 (gF fs k).t, .int .i64 (gF fs k).lo, .int .i64 (gF fs k).hi] true) :: (bx, .cells (ints x) true) :: ((b2, ABlk.cells [.int .i64 T, v] true) :: F)) hN hr.cons.cons.cons (RowI.lit (List.mem_cons_of_mem _ (List.mem_cons_self ..)) hxl.symm) hxr ⟨by omega, by omega⟩ ⟨by omega, by omega⟩ ⟨by simp only [cond_true, cond_false]; omega, by simp only [cond_true, cond_false]; omega⟩
        simp only [cond_true, cond_false] at keyodd
        by_cases hev : u % 2 = 0
        · (repeat' (first | (first | refine Wo.nil ?_ | refine Wd.nil ?_ | ((first | refine Wo.cons ?_ | refine Wd.cons ?_); (try refine W1.go rfl rfl ?_); ((first | refine k1 ?_ | refine k2 ?_ | (refine isDst 29 ?_; refine W1.lenZ hrow rfl ?_) | (refine isDst 30 ?_; refine W1.cO ?_) | (refine isDst 35 ?_; refine W1.iaddrZ i hrow rfl rfl rfl hic (fun b o la own hm hll hs => ?_); rw [hux] at hs) | (refine isDst 36 ?_; refine W1.load1 rfl hm (seg_get0 hs rfl) ?_) | (refine isDst 38 ?_; refine W1.load1 rfl (List.mem_cons_of_mem _ (List.mem_cons_self ..)) rfl ?_) | (refine isDst 39 ?_; refine W1.lenZ hfr rfl ?_) | (refine isDst 40 ?_; refine W1.convU rfl (by omega) ?_) | (refine isDst 41 ?_; refine W1.remN rfl rfl (by omega) (by omega) (fun _ _ => ?_); rw [hkk]) | (refine isDst 42 ?_; refine W1.convI rfl (by omega) ?_) | (refine isDst 44 ?_; refine W1.load1 rfl (List.mem_cons_of_mem _ (List.mem_cons_self ..)) rfl ?_) | (refine isDst 46 ?_; refine W1.iaddrF k hfr rfl rfl rfl hk (fun b o la own hm h0 h1 h2 h3 h4 h5 => ?_)) | (refine isDst 47 ?_; refine W1.load rfl hm h4 ?_) | (refine isDst 10 ?_; refine W1.alloc (fun b10 hb10 => ?_)) | (refine isDst 50 ?_; refine W1.iaddrZ i hrow.cons rfl rfl rfl hic (fun b o la own hm hll hs => ?_); rw [hux] at hs) | (refine isDst 51 ?_; refine W1.load1 rfl hm (seg_get0 hs rfl) ?_) | (refine isDst 52 ?_; refine W1.quoU rfl rfl (by omega) (by decide) (fun _ _ => ?_)) | (refine isDst 53 ?_; refine W1.remN rfl rfl (by decide) (by omega) (fun _ _ => ?_); rw [hmu]) | (refine isDst 54 ?_; refine W1.convI rfl (by omega) ?_) | (refine isDst 57 ?_; refine W1.iaddrZ i hrow.cons rfl rfl rfl hic (fun b o la own hm hll hs => ?_); rw [hux] at hs) | (refine isDst 58 ?_; refine W1.load1 rfl hm (seg_get0 hs rfl) ?_) | (refine isDst 59 ?_; refine W1.remN rfl rfl (by decide) (by omega) (fun _ _ => ?_)) | (refine isDst 60 ?_; refine W1.cO ?_) | (refine isDst 64 ?_; refine W1.load1 rfl (List.mem_cons_self ..) rfl ?_) | (refine isDst 67 ?_; refine W1.iaddrz k rfl rfl rfl hk ?_) | (refine isDst 68 ?_; refine W1.loadI (j := k) (xs := x) rfl (by omega) (List.mem_cons_of_mem _ (List.mem_cons_self ..)) hkl ?_) | (refine isDst 93 ?_; refine W1.iaddrz k rfl rfl rfl hk ?_) | (refine isDst 94 ?_; refine W1.loadI (j := k) (xs := x) rfl (by omega) (List.mem_cons_of_mem _ (List.mem_cons_self ..)) hkl ?_) | (refine isDst 97 ?_; refine W1.load1 rfl (List.mem_cons_self ..) rfl ?_) | (refine isDst 72 ?_; refine W1.loadA rfl (List.mem_cons_of_mem _ (List.mem_cons_of_mem _ (List.mem_cons_self ..))) rfl ?_) | (refine isDst 101 ?_; refine W1.loadA rfl (List.mem_cons_of_mem _ (List.mem_cons_of_mem _ (List.mem_cons_self ..))) rfl ?_) | (refine isDst 75 ?_; refine W1.load1 rfl (List.mem_cons_self ..) rfl ?_) | (refine isDst 77 ?_; refine W1.load1 rfl (List.mem_cons_self ..) rfl ?_) | (refine isDst 104 ?_; refine W1.load1 rfl (List.mem_cons_self ..) rfl ?_) | (refine isDst 106 ?_; refine W1.load1 rfl (List.mem_cons_self ..) rfl ?_) | refine W1.auto ?_) <;> (try refine ⟨fun _ => rfl, ?_⟩)))) | (first | refine Ws.seq ?_ | refine Ws.region ?_ | refine Ws.draw (fun bd hbd => ?_) | refine Ws.cond rfl ?_ | refine Ws.skip ?_ | refine Ws.scope ?_ | refine Ws.block ?_ | refine Ws.exit ?_ | refine Ws.ret ?_)))
          refine Wo.cons ?_
          refine W1.callM rfl rfl ((keyeven b10).mono ?_)
          rintro _ _ ⟨Fp, hp, rfl⟩
          cases hp with
          | no h =>
            have es : x.set k (x.getD k 0 + 0) = x := by rw [Int.add_zero, set_eq hkl]
            have es2 : x.set k (x.getD k 0 - 0) = x := by rw [Int.sub_zero, set_eq hkl]
            (repeat' (first | (first | refine Wo.nil ?_ | refine Wd.nil ?_ | ((first | refine Wo.cons ?_ | refine Wd.cons ?_); (try refine W1.go rfl rfl ?_); ((first | refine k1 ?_ | refine k2 ?_ | (refine isDst 85 ?_; refine W1.iaddrz k rfl rfl rfl hk ?_) | (refine isDst 89 ?_; refine W1.iaddrz k rfl rfl rfl hk ?_) | (refine isDst 114 ?_; refine W1.iaddrz k rfl rfl rfl hk ?_) | (refine isDst 118 ?_; refine W1.iaddrz k rfl rfl rfl hk ?_) | (refine isDst 86 ?_; refine W1.loadI (j := k) (xs := x) rfl (by omega) (List.mem_cons_of_mem _ (List.mem_cons_self ..)) hkl ?_) | (refine isDst 115 ?_; refine W1.loadI (j := k) (xs := x) rfl (by omega) (List.mem_cons_of_mem _ (List.mem_cons_self ..)) hkl ?_) | (refine isTo 89 ?_; refine W1.storeI (xs := x) (j := k) rfl (by omega) rfl (.tail .head) hkl hbx ?_) | (refine isTo 118 ?_; refine W1.storeI (xs := x) (j := k) rfl (by omega) rfl (.tail .head) hkl hbx ?_) | refine W1.auto ?_) <;> (try refine ⟨fun _ => rfl, ?_⟩)))) | (first | refine Ws.seq ?_ | refine Ws.region ?_ | refine Ws.draw (fun bd hbd => ?_) | refine Ws.cond rfl ?_ | refine Ws.skip ?_ | refine Ws.scope ?_ | refine Ws.block ?_ | refine Ws.exit ?_ | refine Ws.ret ?_)))
            refine ⟨(i + 1, x, bx), ⟨rfl, rfl, rfl, rfl, trivial⟩, ?_, ⟨hic, hT', hbx⟩, by show _ - (i + 1) < _ - i; omega⟩
            first | rw [es] | rw [es2]
            exact .cons _ (List.Sublist.refl _)
          | @yes m x' b22 hb22 hab hm hr' ho hbut =>
            have hb' := hbut k rfl
            have hkl' : k < x'.length := by rw [hr'.1]; exact hk
            have hxk' := hr'.2 k hk
            have hst := push_true (high := true) (m := m) hN hk hT' hr' hm.1 (by simp only [cond_true, cond_false]; omega) ho hb'
            simp only [cond_true, cond_false] at hst
            (repeat' (first | (first | refine Wo.nil ?_ | refine Wd.nil ?_ | ((first | refine Wo.cons ?_ | refine Wd.cons ?_); (try refine W1.go rfl rfl ?_); ((first | refine k1 ?_ | refine k2 ?_ | (refine isDst 85 ?_; refine W1.iaddrz k rfl rfl rfl hk ?_) | (refine isDst 89 ?_; refine W1.iaddrz k rfl rfl rfl hk ?_) | (refine isDst 114 ?_; refine W1.iaddrz k rfl rfl rfl hk ?_) | (refine isDst 118 ?_; refine W1.iaddrz k rfl rfl rfl hk ?_) | (refine isDst 86 ?_; refine W1.loadI (j := k) (xs := x') rfl (by omega) (List.mem_cons_self ..) hkl' ?_) | (refine isDst 115 ?_; refine W1.loadI (j := k) (xs := x') rfl (by omega) (List.mem_cons_self ..) hkl' ?_) | (refine isTo 89 ?_; refine W1.storeI (xs := x') (j := k) rfl (by omega) rfl .head hkl' hb22 ?_) | (refine isTo 118 ?_; refine W1.storeI (xs := x') (j := k) rfl (by omega) rfl .head hkl' hb22 ?_) | refine W1.auto ?_) <;> (try refine ⟨fun _ => rfl, ?_⟩)))) | (first | refine Ws.seq ?_ | refine Ws.region ?_ | refine Ws.draw (fun bd hbd => ?_) | refine Ws.cond rfl ?_ | refine Ws.skip ?_ | refine Ws.scope ?_ | refine Ws.block ?_ | refine Ws.exit ?_ | refine Ws.ret ?_)))
            exact ⟨(i + 1, _, b22), ⟨rfl, rfl, rfl, rfl, trivial⟩, .cons_cons _ (.cons _ (.cons _ (List.Sublist.refl _))), ⟨hic, hst, hb22⟩, by show _ - (i + 1) < _ - i; omega⟩
        · (repeat' (first | (first | refine Wo.nil ?_ | refine Wd.nil ?_ | ((first | refine Wo.cons ?_ | refine Wd.cons ?_); (try refine W1.go rfl rfl ?_); ((first | refine k1 ?_ | refine k2 ?_ | (refine isDst 29 ?_; refine W1.lenZ hrow rfl ?_) | (refine isDst 30 ?_; refine W1.cO ?_) | (refine isDst 35 ?_; refine W1.iaddrZ i hrow rfl rfl rfl hic (fun b o la own hm hll hs => ?_); rw [hux] at hs) | (refine isDst 36 ?_; refine W1.load1 rfl hm (seg_get0 hs rfl) ?_) | (refine isDst 38 ?_; refine W1.load1 rfl (List.mem_cons_of_mem _ (List.mem_cons_self ..)) rfl ?_) | (refine isDst 39 ?_; refine W1.lenZ hfr rfl ?_) | (refine isDst 40 ?_; refine W1.convU rfl (by omega) ?_) | (refine isDst 41 ?_; refine W1.remN rfl rfl (by omega) (by omega) (fun _ _ => ?_); rw [hkk]) | (refine isDst 42 ?_; refine W1.convI rfl (by omega) ?_) | (refine isDst 44 ?_; refine W1.load1 rfl (List.mem_cons_of_mem _ (List.mem_cons_self ..)) rfl ?_) | (refine isDst 46 ?_; refine W1.iaddrF k hfr rfl rfl rfl hk (fun b o la own hm h0 h1 h2 h3 h4 h5 => ?_)) | (refine isDst 47 ?_; refine W1.load rfl hm h4 ?_) | (refine isDst 10 ?_; refine W1.alloc (fun b10 hb10 => ?_)) | (refine isDst 50 ?_; refine W1.iaddrZ i hrow.cons rfl rfl rfl hic (fun b o la own hm hll hs => ?_); rw [hux] at hs) | (refine isDst 51 ?_; refine W1.load1 rfl hm (seg_get0 hs rfl) ?_) | (refine isDst 52 ?_; refine W1.quoU rfl rfl (by omega) (by decide) (fun _ _ => ?_)) | (refine isDst 53 ?_; refine W1.remN rfl rfl (by decide) (by omega) (fun _ _ => ?_); rw [hmu]) | (refine isDst 54 ?_; refine W1.convI rfl (by omega) ?_) | (refine isDst 57 ?_; refine W1.iaddrZ i hrow.cons rfl rfl rfl hic (fun b o la own hm hll hs => ?_); rw [hux] at hs) | (refine isDst 58 ?_; refine W1.load1 rfl hm (seg_get0 hs rfl) ?_) | (refine isDst 59 ?_; refine W1.remN rfl rfl (by decide) (by omega) (fun _ _ => ?_)) | (refine isDst 60 ?_; refine W1.cO ?_) | (refine isDst 64 ?_; refine W1.load1 rfl (List.mem_cons_self ..) rfl ?_) | (refine isDst 67 ?_; refine W1.iaddrz k rfl rfl rfl hk ?_) | (refine isDst 68 ?_; refine W1.loadI (j := k) (xs := x) rfl (by omega) (List.mem_cons_of_mem _ (List.mem_cons_self ..)) hkl ?_) | (refine isDst 93 ?_; refine W1.iaddrz k rfl rfl rfl hk ?_) | (refine isDst 94 ?_; refine W1.loadI (j := k) (xs := x) rfl (by omega) (List.mem_cons_of_mem _ (List.mem_cons_self ..)) hkl ?_) | (refine isDst 97 ?_; refine W1.load1 rfl (List.mem_cons_self ..) rfl ?_) | (refine isDst 72 ?_; refine W1.loadA rfl (List.mem_cons_of_mem _ (List.mem_cons_of_mem _ (List.mem_cons_self ..))) rfl ?_) | (refine isDst 101 ?_; refine W1.loadA rfl (List.mem_cons_of_mem _ (List.mem_cons_of_mem _ (List.mem_cons_self ..))) rfl ?_) | (refine isDst 75 ?_; refine W1.load1 rfl (List.mem_cons_self ..) rfl ?_) | (refine isDst 77 ?_; refine W1.load1 rfl (List.mem_cons_self ..) rfl ?_) | (refine isDst 104 ?_; refine W1.load1 rfl (List.mem_cons_self ..) rfl ?_) | (refine isDst 106 ?_; refine W1.load1 rfl (List.mem_cons_self ..) rfl ?_) | refine W1.auto ?_) <;> (try refine ⟨fun _ => rfl, ?_⟩)))) | (first | refine Ws.seq ?_ | refine Ws.region ?_ | refine Ws.draw (fun bd hbd => ?_) | refine Ws.cond rfl ?_ | refine Ws.skip ?_ | refine Ws.scope ?_ | refine Ws.block ?_ | refine Ws.exit ?_ | refine Ws.ret ?_)))
          refine Wo.cons ?_
          refine W1.callM rfl rfl ((keyodd b10).mono ?_)
          rintro _ _ ⟨Fp, hp, rfl⟩
          cases hp with
          | no h =>
            have es : x.set k (x.getD k 0 + 0) = x := by rw [Int.add_zero, set_eq hkl]
            have es2 : x.set k (x.getD k 0 - 0) = x := by rw [Int.sub_zero, set_eq hkl]
            (repeat' (first | (first | refine Wo.nil ?_ | refine Wd.nil ?_ | ((first | refine Wo.cons ?_ | refine Wd.cons ?_); (try refine W1.go rfl rfl ?_); ((first | refine k1 ?_ | refine k2 ?_ | (refine isDst 85 ?_; refine W1.iaddrz k rfl rfl rfl hk ?_) | (refine isDst 89 ?_; refine W1.iaddrz k rfl rfl rfl hk ?_) | (refine isDst 114 ?_; refine W1.iaddrz k rfl rfl rfl hk ?_) | (refine isDst 118 ?_; refine W1.iaddrz k rfl rfl rfl hk ?_) | (refine isDst 86 ?_; refine W1.loadI (j := k) (xs := x) rfl (by omega) (List.mem_cons_of_mem _ (List.mem_cons_self ..)) hkl ?_) | (refine isDst 115 ?_; refine W1.loadI (j := k) (xs := x) rfl (by omega) (List.mem_cons_of_mem _ (List.mem_cons_self ..)) hkl ?_) | (refine isTo 89 ?_; refine W1.storeI (xs := x) (j := k) rfl (by omega) rfl (.tail .head) hkl hbx ?_) | (refine isTo 118 ?_; refine W1.storeI (xs := x) (j := k) rfl (by omega) rfl (.tail .head) hkl hbx ?_) | refine W1.auto ?_) <;> (try refine ⟨fun _ => rfl, ?_⟩)))) | (first | refine Ws.seq ?_ | refine Ws.region ?_ | refine Ws.draw (fun bd hbd => ?_) | refine Ws.cond rfl ?_ | refine Ws.skip ?_ | refine Ws.scope ?_ | refine Ws.block ?_ | refine Ws.exit ?_ | refine Ws.ret ?_)))
            refine ⟨(i + 1, x, bx), ⟨rfl, rfl, rfl, rfl, trivial⟩, ?_, ⟨hic, hT', hbx⟩, by show _ - (i + 1) < _ - i; omega⟩
            first | rw [es] | rw [es2]
            exact .cons _ (List.Sublist.refl _)
          | @yes m x' b22 hb22 hab hm hr' ho hbut =>
            have hb' := hbut k rfl
            have hkl' : k < x'.length := by rw [hr'.1]; exact hk
            have hxk' := hr'.2 k hk
            have hst := push_true (high := false) (m := m) hN hk hT' hr' hm.1 (by simp only [cond_true, cond_false]; omega) ho hb'
            simp only [cond_true, cond_false] at hst
            (repeat' (first | (first | refine Wo.nil ?_ | refine Wd.nil ?_ | ((first | refine Wo.cons ?_ | refine Wd.cons ?_); (try refine W1.go rfl rfl ?_); ((first | refine k1 ?_ | refine k2 ?_ | (refine isDst 85 ?_; refine W1.iaddrz k rfl rfl rfl hk ?_) | (refine isDst 89 ?_; refine W1.iaddrz k rfl rfl rfl hk ?_) | (refine isDst 114 ?_; refine W1.iaddrz k rfl rfl rfl hk ?_) | (refine isDst 118 ?_; refine W1.iaddrz k rfl rfl rfl hk ?_) | (refine isDst 86 ?_; refine W1.loadI (j := k) (xs := x') rfl (by omega) (List.mem_cons_self ..) hkl' ?_) | (refine isDst 115 ?_; refine W1.loadI (j := k) (xs := x') rfl (by omega) (List.mem_cons_self ..) hkl' ?_) | (refine isTo 89 ?_; refine W1.storeI (xs := x') (j := k) rfl (by omega) rfl .head hkl' hb22 ?_) | (refine isTo 118 ?_; refine W1.storeI (xs := x') (j := k) rfl (by omega) rfl .head hkl' hb22 ?_) | refine W1.auto ?_) <;> (try refine ⟨fun _ => rfl, ?_⟩)))) | (first | refine Ws.seq ?_ | refine Ws.region ?_ | refine Ws.draw (fun bd hbd => ?_) | refine Ws.cond rfl ?_ | refine Ws.skip ?_ | refine Ws.scope ?_ | refine Ws.block ?_ | refine Ws.exit ?_ | refine Ws.ret ?_)))
            exact ⟨(i + 1, _, b22), ⟨rfl, rfl, rfl, rfl, trivial⟩, .cons_cons _ (.cons _ (.cons _ (List.Sublist.refl _))), ⟨hic, hst, hb22⟩, by show _ - (i + 1) < _ - i; omega⟩
      · obtain rfl : i = us.length := by omega
        (repeat' (first | (first | refine Wo.nil ?_ | refine Wd.nil ?_ | ((first | refine Wo.cons ?_ | refine Wd.cons ?_); (try refine W1.go rfl rfl ?_); ((first | refine k1 ?_ | refine k2 ?_ | (refine isDst 29 ?_; refine W1.lenZ hrow rfl ?_) | (refine isDst 30 ?_; refine W1.cO ?_) | refine W1.auto ?_) <;> (try refine ⟨fun _ => rfl, ?_⟩)))) | (first | refine Ws.seq ?_ | refine Ws.region ?_ | refine Ws.draw (fun bd hbd => ?_) | refine Ws.cond rfl ?_ | refine Ws.skip ?_ | refine Ws.scope ?_ | refine Ws.block ?_ | refine Ws.exit ?_ | refine Ws.ret ?_)))
        exact FnEnd.ret (F' := [(bx, .cells (ints x) true)] ++ F) (vs := [_, _]) (.tmp rfl (.tmp rfl .nil)) (.cons_cons _ (.cons _ (List.Sublist.refl _))) ⟨_, .yes hT' (.row hbx hT'.r.1 h0'), rfl⟩
end Go.Ax
