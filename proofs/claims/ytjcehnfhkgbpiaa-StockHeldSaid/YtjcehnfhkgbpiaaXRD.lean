/-
  Contracts: a set that proves an end.
-/
import Derived.Test.YtjcehnfhkgbpiaaXRC
namespace Go.Ax
set_option maxHeartbeats 1000000
set_option maxRecDepth 6000
set_option linter.unusedSimpArgs false
set_option linter.unusedVariables false
attribute [-simp] List.getD_eq_getElem?_getD
variable {lo : Nat} {F : Hp}
section
variable {tbl : Nat → Option AFn} {bd : Nat} {E : FE} {d : Option Nat} {R : FE → Hp → Cls → Prop} {x s : AO}
theorem W1.copyN {sz n c es m c2 es2 : Nat} {ex ex2 : Bool} {p : Option (Nat × Nat)} (hx : xev E x = .slc p n c ex es) (hs : xev E s = .slc none m c2 ex2 es2) (k : R (fput E d (.int .i64 0)) F .n) : W1 tbl lo bd ⟨d, .copy sz x s, none⟩ E F R := by
  refine W1.val (v := .int .i64 0) ?_ k
  cases p <;> simp only [opLocF, hx, hs]
theorem W1.copyI {db sb c c2 es es2 : Nat} {ex ex2 own : Bool} {zs xs : List Int} {F' : Hp} (hx : xev E x = .slc (some (db, 0)) xs.length c ex es) (hs : xev E s = .slc (some (sb, 0)) xs.length c2 ex2 es2) (hl : zs.length = xs.length) (h1 : (db, .cells (ints zs) true) ∈ F) (h2 : (sb, .cells (ints xs) own) ∈ F) (hu : Upd F db (.cells (ints zs) true) (.cells (ints xs) true) F') (hb : lo ≤ db) (k : R (fput E d (.int .i64 (xs.length : Nat))) F' .x) : W1 tbl lo bd ⟨d, .copy 1 x s, none⟩ E F R := by
  refine W1.loc rfl fun h aid hF hfr hlo hw _ => ?_
  refine ⟨.int .i64 (xs.length : Nat), h.put db (.cells (ints xs) true), .loc [db, sb] [db] none, F', .x, ?_, hF.put hu, Nat.le_refl _, by show lo ≤ min h.wmin db; omega, trivial, fun p hp => ?_, k⟩
  · have e : splice (ints zs) 0 (((ints xs).drop 0).take (min xs.length xs.length * 1)) = ints xs := by
      unfold splice
      rw [Nat.min_self, Nat.mul_one, List.drop_zero, List.take_of_length_le (show (ints xs).length ≤ xs.length by simp)]
      simp [hl]
    simp only [opLocF, hx, hs]
    simp only [Loc.run, getAll, hF.get _ h1, hF.get _ h2]
    rw [if_pos (by simp [hl]), e, Nat.min_self]
    rfl
  · have h2 : p.1 ∈ F'.map (·.1) := List.mem_map.2 ⟨p, hp, rfl⟩
    rw [hu.ids] at h2
    obtain ⟨q, hq, hqe⟩ := List.mem_map.1 h2
    exact .inl ⟨q, hq, hqe⟩
end
inductive BouR (lo : Nat) (T : Int) (fs : List Fl) (k : Int) (high : Bool) : AV → Hp → Prop
  | err (h : errN T fs k ≠ 0) : BouR lo T fs k high (.tup [(AV.slc none 0 0 true 0), .int .i64 (errN T fs k)]) []
  | ok {set : List Int} {rv : AV} {Fo : Hp} {w : Int} (h : errN T fs k = 0) (ho : OwnI lo true rv Fo set) (hb : bndR T fs k high set = (w, 0)) (he : EndR T fs k.toNat high w) (hl : set.length ≤ 13) : BouR lo T fs k high (.tup [rv, .int .i64 0]) Fo
theorem f30_ok {T k : Int} {fs : List Fl} {high : Bool} {v : AV} (hr : FRow F v fs) (hl : fs.length ≤ 9223372036854775807) : Fn tblW lo (fnv 30) [netV T v, .int .i64 k, .bool high] F (fun r F' => ∃ Fo, BouR lo T fs k high r Fo ∧ F' = Fo ++ F) := by
  refine Fn.func (fn := af30) rfl rfl ?_
  (repeat' (first | (first | refine Wo.nil ?_ | refine Wd.nil ?_ | ((first | refine Wo.cons ?_ | refine Wd.cons ?_); (try refine W1.go rfl rfl ?_); ((first | refine k1 ?_ | refine k2 ?_ | (refine isDst 3 ?_; refine W1.boxA rfl (fun b3 hb3 => ?_)) | (refine isDst 15 ?_; refine W1.callM rfl rfl ((f59_ok hr.cons hl).mono ?_); intro rs G hop) | refine W1.auto ?_) <;> (try refine ⟨fun _ => rfl, ?_⟩)))) | (first | refine Ws.seq ?_ | refine Ws.region ?_ | refine Ws.draw (fun bd hbd => ?_) | refine Ws.cond rfl ?_ | refine Ws.skip ?_ | refine Ws.scope ?_ | refine Ws.block ?_ | refine Ws.exit ?_ | refine Ws.ret ?_)))
  cases hop with
  | err he =>
    (repeat' (first | (first | refine Wo.nil ?_ | refine Wd.nil ?_ | ((first | refine Wo.cons ?_ | refine Wd.cons ?_); (try refine W1.go rfl rfl ?_); ((first | refine k1 ?_ | refine k2 ?_ | refine W1.cO ?_ | refine W1.auto ?_) <;> (try refine ⟨fun _ => rfl, ?_⟩)))) | (first | refine Ws.seq ?_ | refine Ws.region ?_ | refine Ws.draw (fun bd hbd => ?_) | refine Ws.cond rfl ?_ | refine Ws.skip ?_ | refine Ws.scope ?_ | refine Ws.block ?_ | refine Ws.exit ?_ | refine Ws.ret ?_)))
    exact FnEnd.ret (F' := F) (vs := [_, _]) (.tmp rfl (.tmp rfl .nil)) (.cons _ (List.Sublist.refl _)) ⟨[], .err he, rfl⟩
  | @ok x S bk bx he hT hS hbk hbx =>
    obtain ⟨hN, hk0, hkn, _⟩ := errN_zero he
    obtain ⟨j, rfl⟩ : ∃ j : Nat, k = (j : Nat) := ⟨k.toNat, by omega⟩
    have hj : j < fs.length := by omega
    have hn := hN.n
    have hTT := hN.t
    have hu := hN.u j hj
    (repeat' (first | (first | refine Wo.nil ?_ | refine Wd.nil ?_ | ((first | refine Wo.cons ?_ | refine Wd.cons ?_); (try refine W1.go rfl rfl ?_); ((first | refine k1 ?_ | refine k2 ?_ | (refine isDst 19 ?_; refine W1.cO ?_) | (refine isDst 24 ?_; refine W1.callM rfl rfl ((f60_ok hN hr.cons hT hbk hbx hS hj).mono ?_); rintro r1 _ ⟨x1, S1, Fo1, hT1, hS1, hst1, rfl⟩) | refine W1.auto ?_) <;> (try refine ⟨fun _ => rfl, ?_⟩)))) | (first | refine Ws.seq ?_ | refine Ws.region ?_ | refine Ws.draw (fun bd hbd => ?_) | refine Ws.cond rfl ?_ | refine Ws.skip ?_ | refine Ws.scope ?_ | refine Ws.block ?_ | refine Ws.exit ?_ | refine Ws.ret ?_)))
    have hfin := hst1.fin hN hj hT1
    cases hst1 with
    | own h =>
      (repeat' (first | (first | refine Wo.nil ?_ | refine Wd.nil ?_ | ((first | refine Wo.cons ?_ | refine Wd.cons ?_); (try refine W1.go rfl rfl ?_); ((first | refine k1 ?_ | refine k2 ?_ | (refine isDst 26 ?_; refine W1.lenv rfl ?_) | (refine isDst 27 ?_; refine W1.mkslcI (n := 0) rfl rfl (by unfold room; omega) (fun b27 hb27 => ?_)) | refine W1.copyN rfl rfl ?_ | refine W1.auto ?_) <;> (try refine ⟨fun _ => rfl, ?_⟩)))) | (first | refine Ws.seq ?_ | refine Ws.region ?_ | refine Ws.draw (fun bd hbd => ?_) | refine Ws.cond rfl ?_ | refine Ws.skip ?_ | refine Ws.scope ?_ | refine Ws.block ?_ | refine Ws.exit ?_ | refine Ws.ret ?_)))
      exact FnEnd.ret (F' := [(b27, .cells (ints []) true)] ++ F) (vs := [_, _]) (.tmp rfl (.tmp rfl .nil)) (.cons_cons _ (.cons _ (.cons _ (.cons _ (List.Sublist.refl _))))) ⟨_, .ok he (.row' hb27 rfl rfl) (by rw [bndR_nil hN hj, ← h]) (by rw [Int.toNat_natCast]; exact hfin) (by simp), rfl⟩
    | @set r Fo1 p ho h1 h2 h =>
      have hlen : (pickL T p).length ≤ 13 := by have := pickN_len p (T.toNat + 1); rw [pickL_N]; omega
      have hbd := bndR_of (high := high) hN hj h1 h2
      rw [h] at hbd
      have hne : (pickL T p).length ≠ 0 := fun hn => by
        have := (mem_pick (T := T) p (t := (gF fs j).f)).2 ⟨by omega, h1⟩
        rw [List.length_eq_zero_iff.1 hn] at this
        cases this
      generalize pickL T p = l at *
      cases ho with
      | nil => exact absurd rfl hne
      | @row b xs hb =>
        (repeat' (first | (first | refine Wo.nil ?_ | refine Wd.nil ?_ | ((first | refine Wo.cons ?_ | refine Wd.cons ?_); (try refine W1.go rfl rfl ?_); ((first | refine k1 ?_ | refine k2 ?_ | (refine isDst 26 ?_; refine W1.lenv rfl ?_) | (refine isDst 27 ?_; refine W1.mkslcI (n := l.length) rfl rfl (by unfold room; omega) (fun b27 hb27 => ?_)) | refine W1.copyI (zs := List.replicate l.length 0) (xs := l) rfl rfl List.length_replicate (List.mem_cons_self ..) (List.mem_cons_of_mem _ (List.mem_cons_self ..)) .head hb27 ?_ | refine W1.auto ?_) <;> (try refine ⟨fun _ => rfl, ?_⟩)))) | (first | refine Ws.seq ?_ | refine Ws.region ?_ | refine Ws.draw (fun bd hbd => ?_) | refine Ws.cond rfl ?_ | refine Ws.skip ?_ | refine Ws.scope ?_ | refine Ws.block ?_ | refine Ws.exit ?_ | refine Ws.ret ?_)))
        exact FnEnd.ret (F' := [(b27, .cells (ints l) true)] ++ F) (vs := [_, _]) (.tmp rfl (.tmp rfl .nil)) (.cons_cons _ (.cons _ (.cons _ (.cons _ (.cons _ (List.Sublist.refl _)))))) ⟨_, .ok he (.row' hb27 rfl rfl) hbd (by rw [Int.toNat_natCast]; exact hfin) hlen, rfl⟩
end Go.Ax
