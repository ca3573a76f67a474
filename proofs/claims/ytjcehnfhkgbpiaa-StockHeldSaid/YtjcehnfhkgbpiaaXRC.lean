/-
  Contracts: the span of a flow, a truth with its end, a set that proves it.
-/
import Derived.Test.YtjcehnfhkgbpiaaXRB
import Derived.Test.YtjcehnfhkgbpiaaXNZ
namespace Go.Ax
set_option maxHeartbeats 1000000
set_option maxRecDepth 6000
set_option linter.unusedSimpArgs false
set_option linter.unusedVariables false
attribute [-simp] List.getD_eq_getElem?_getD
variable {lo : Nat} {F : Hp}
theorem f60_ok {T : Int} {fs : List Fl} {x S : List Int} {k : Nat} {high : Bool} {v : AV} {bk bx : Nat} (hN : Net T fs) (hr : FRow F v fs) (hT' : IsT T fs x) (hbk : lo ≤ bk) (hbx : lo ≤ bx) (hS : S.length = 13) (hk : k < fs.length) :
    Fn tblW lo (fnv 60) [.ptr (some (bk, 0)), .int .i64 (k : Nat), .bool high] ((bk, .cells (bookC T v (AV.slc (some (bx, 0)) fs.length fs.length false 1) S) true) :: (bx, .cells (ints x) true) :: F)
      (fun r F' => ∃ x' S' Fo, IsT T fs x' ∧ S'.length = 13 ∧ StrR lo T fs k high x' r Fo ∧ F' = Fo ++ ((bk, .cells (bookC T v (AV.slc (some (bx, 0)) fs.length fs.length false 1) S') true) :: (bx, .cells (ints x') true) :: F)) := by
  cases high
  · exact f60_false hN hr hT' hbk hbx hS hk
  · exact f60_true hN hr hT' hbk hbx hS hk
def EndR (T : Int) (fs : List Fl) (k : Nat) (high : Bool) (v : Int) : Prop := bif high then HiEnd T fs k v else LoEnd T fs k v
theorem EndR.uniq {T : Int} {fs : List Fl} {k : Nat} {high : Bool} {v w : Int} (h : EndR T fs k high v) (h' : EndR T fs k high w) : v = w := by
  cases high
  · exact LoEnd.uniq h h'
  · exact HiEnd.uniq h h'
theorem StrR.fin {T : Int} {fs : List Fl} {x : List Int} {k : Nat} {high : Bool} {r : AV} {Fo : Hp} (hN : Net T fs) (hk : k < fs.length) (hT : IsT T fs x) (h : StrR lo T fs k high x r Fo) : EndR T fs k high (x.getD k 0) := by
  unfold EndR
  cases h with
  | own h =>
    cases high with
    | true => exact ⟨⟨x, hT, rfl⟩, fun y hy => by rw [h]; exact (hy.r.2 k hk).2⟩
    | false => exact ⟨⟨x, hT, rfl⟩, fun y hy => by rw [h]; exact (hy.r.2 k hk).1⟩
  | set ho h1 h2 h =>
    cases high with
    | true => exact ⟨⟨x, hT, rfl⟩, fun y hy => by rw [← h]; exact (hy.bound hN.ends hk h1 h2).2⟩
    | false => exact ⟨⟨x, hT, rfl⟩, fun y hy => by rw [← h]; exact (hy.bound hN.ends hk h1 h2).1⟩
inductive SpnR (T : Int) (fs : List Fl) (k : Int) : AV → Prop
  | err (h : errN T fs k ≠ 0) : SpnR T fs k (rv ((0, 0), errN T fs k))
  | ok {a b : Int} (h : errN T fs k = 0) (ha : EndR T fs k.toNat false a) (hb : EndR T fs k.toNat true b) : SpnR T fs k (rv ((a, b), 0))
theorem f25_ok {T k : Int} {fs : List Fl} {v : AV} (hr : FRow F v fs) (hl : fs.length ≤ 9223372036854775807) : Fn tblW lo (fnv 25) [netV T v, .int .i64 k] F (fun r F' => SpnR T fs k r ∧ F' = F) := by
  refine Fn.func (fn := af25) rfl rfl ?_
  (repeat' (first | (first | refine Wo.nil ?_ | refine Wd.nil ?_ | ((first | refine Wo.cons ?_ | refine Wd.cons ?_); (try refine W1.go rfl rfl ?_); ((first | refine k1 ?_ | refine k2 ?_ | (refine isDst 2 ?_; refine W1.boxA rfl (fun b2 hb2 => ?_)) | (refine isDst 4 ?_; refine W1.alloc (fun b4 hb4 => ?_)) | (refine isDst 12 ?_; refine W1.callM rfl rfl ((f59_ok hr.cons.cons hl).mono ?_); intro rs G hop) | refine W1.auto ?_) <;> (try refine ⟨fun _ => rfl, ?_⟩)))) | (first | refine Ws.seq ?_ | refine Ws.region ?_ | refine Ws.draw (fun bd hbd => ?_) | refine Ws.cond rfl ?_ | refine Ws.skip ?_ | refine Ws.scope ?_ | refine Ws.block ?_ | refine Ws.exit ?_ | refine Ws.ret ?_)))
  cases hop with
  | err he =>
    (repeat' (first | (first | refine Wo.nil ?_ | refine Wd.nil ?_ | ((first | refine Wo.cons ?_ | refine Wd.cons ?_); (try refine W1.go rfl rfl ?_); ((first | refine k1 ?_ | refine k2 ?_ | refine W1.cO ?_ | refine W1.auto ?_) <;> (try refine ⟨fun _ => rfl, ?_⟩)))) | (first | refine Ws.seq ?_ | refine Ws.region ?_ | refine Ws.draw (fun bd hbd => ?_) | refine Ws.cond rfl ?_ | refine Ws.skip ?_ | refine Ws.scope ?_ | refine Ws.block ?_ | refine Ws.exit ?_ | refine Ws.ret ?_)))
    exact FnEnd.ret (F' := F) (vs := [_, _]) (.cell rfl (List.mem_cons_self ..) rfl (.tmp rfl .nil)) (.cons _ (.cons _ (List.Sublist.refl _))) ⟨.err he, rfl⟩
  | @ok x S bk bx he hT hS hbk hbx =>
    obtain ⟨hN, hk0, hkn, _⟩ := errN_zero he
    obtain ⟨j, rfl⟩ : ∃ j : Nat, k = (j : Nat) := ⟨k.toNat, by omega⟩
    have hj : j < fs.length := by omega
    have hn := hN.n
    (repeat' (first | (first | refine Wo.nil ?_ | refine Wd.nil ?_ | ((first | refine Wo.cons ?_ | refine Wd.cons ?_); (try refine W1.go rfl rfl ?_); ((first | refine k1 ?_ | refine k2 ?_ | (refine isDst 16 ?_; refine W1.cO ?_) | (refine isDst 21 ?_; refine W1.callM rfl rfl ((f60_ok hN hr.cons.cons hT hbk hbx hS hj).mono ?_); rintro r1 _ ⟨x1, S1, Fo1, hT1, hS1, hst1, rfl⟩) | (refine isDst 25 ?_; refine W1.load1 rfl (List.mem_append_right _ (List.mem_cons_self ..)) rfl ?_) | (refine isDst 27 ?_; refine W1.iaddrz j rfl rfl rfl hj ?_) | (refine isDst 28 ?_; refine W1.loadI (j := j) (xs := x1) rfl (by omega) (List.mem_append_right _ (List.mem_cons_of_mem _ (List.mem_cons_self ..))) (by have := hT1.r.1; omega) ?_) | (refine isDst 31 ?_; refine W1.callM rfl rfl (Fn.weak (List.sublist_append_right _ _) ((f60_ok hN hr.cons.cons hT1 hbk hbx hS1 hj).mono ?_)); rintro r2 _ ⟨x2, S2, Fo2, hT2, hS2, hst2, rfl⟩) | (refine isDst 36 ?_; refine W1.load1 rfl (List.mem_append_right _ (List.mem_cons_self ..)) rfl ?_) | (refine isDst 38 ?_; refine W1.iaddrz j rfl rfl rfl hj ?_) | (refine isDst 39 ?_; refine W1.loadI (j := j) (xs := x2) rfl (by omega) (List.mem_append_right _ (List.mem_cons_of_mem _ (List.mem_cons_self ..))) (by have := hT2.r.1; omega) ?_) | (refine isTo 4 ?_; refine W1.storeN (cs := [.int .i64 (x1.getD j 0), .int .i64 (x2.getD j 0)]) (l := [.int .i64 0, .int .i64 0]) (l' := [.int .i64 (x1.getD j 0), .int .i64 (x2.getD j 0)]) rfl rfl rfl (List.mem_append_right _ (List.mem_cons_of_mem _ (List.mem_cons_of_mem _ (List.mem_cons_self ..)))) rfl inU inN hb4 ?_) | (refine isDst 40 ?_; refine W1.build (l := [.int .i64 (x1.getD j 0), .int .i64 (x2.getD j 0)]) (fill_all (catF1 rfl rfl (catF1 rfl rfl catF0)) rfl) ?_) | refine W1.auto ?_) <;> (try refine ⟨fun _ => rfl, ?_⟩)))) | (first | refine Ws.seq ?_ | refine Ws.region ?_ | refine Ws.draw (fun bd hbd => ?_) | refine Ws.cond rfl ?_ | refine Ws.skip ?_ | refine Ws.scope ?_ | refine Ws.block ?_ | refine Ws.exit ?_ | refine Ws.ret ?_)))
    exact FnEnd.ret (F' := F) (vs := [_, _]) (.cell rfl (List.mem_append_right _ (List.mem_cons_of_mem _ (List.mem_cons_of_mem _ (List.mem_cons_self ..)))) rfl (.tmp rfl .nil)) (List.Sublist.trans (.cons _ (.cons _ (.cons _ (.cons _ (List.Sublist.refl _))))) (List.sublist_append_right _ _)) ⟨.ok he (by rw [Int.toNat_natCast]; exact hst1.fin hN hj hT1) (by rw [Int.toNat_natCast]; exact hst2.fin hN hj hT2), rfl⟩
inductive RchR (lo : Nat) (T : Int) (fs : List Fl) (k : Int) (high : Bool) : AV → Hp → Prop
  | err (h : errN T fs k ≠ 0) : RchR lo T fs k high (.tup [(AV.slc none 0 0 true 0), .int .i64 (errN T fs k)]) []
  | ok {x : List Int} {rv : AV} {Fo : Hp} (h : errN T fs k = 0) (hT : IsT T fs x) (ho : OwnI lo false rv Fo x) (he : EndR T fs k.toNat high (x.getD k.toNat 0)) : RchR lo T fs k high (.tup [rv, .int .i64 0]) Fo
theorem f27_ok {T k : Int} {fs : List Fl} {high : Bool} {v : AV} (hr : FRow F v fs) (hl : fs.length ≤ 9223372036854775807) : Fn tblW lo (fnv 27) [netV T v, .int .i64 k, .bool high] F (fun r F' => ∃ Fo, RchR lo T fs k high r Fo ∧ F' = Fo ++ F) := by
  refine Fn.func (fn := af27) rfl rfl ?_
  (repeat' (first | (first | refine Wo.nil ?_ | refine Wd.nil ?_ | ((first | refine Wo.cons ?_ | refine Wd.cons ?_); (try refine W1.go rfl rfl ?_); ((first | refine k1 ?_ | refine k2 ?_ | (refine isDst 3 ?_; refine W1.boxA rfl (fun b3 hb3 => ?_)) | (refine isDst 13 ?_; refine W1.callM rfl rfl ((f59_ok hr.cons hl).mono ?_); intro rs G hop) | refine W1.auto ?_) <;> (try refine ⟨fun _ => rfl, ?_⟩)))) | (first | refine Ws.seq ?_ | refine Ws.region ?_ | refine Ws.draw (fun bd hbd => ?_) | refine Ws.cond rfl ?_ | refine Ws.skip ?_ | refine Ws.scope ?_ | refine Ws.block ?_ | refine Ws.exit ?_ | refine Ws.ret ?_)))
  cases hop with
  | err he =>
    (repeat' (first | (first | refine Wo.nil ?_ | refine Wd.nil ?_ | ((first | refine Wo.cons ?_ | refine Wd.cons ?_); (try refine W1.go rfl rfl ?_); ((first | refine k1 ?_ | refine k2 ?_ | refine W1.cO ?_ | refine W1.auto ?_) <;> (try refine ⟨fun _ => rfl, ?_⟩)))) | (first | refine Ws.seq ?_ | refine Ws.region ?_ | refine Ws.draw (fun bd hbd => ?_) | refine Ws.cond rfl ?_ | refine Ws.skip ?_ | refine Ws.scope ?_ | refine Ws.block ?_ | refine Ws.exit ?_ | refine Ws.ret ?_)))
    exact FnEnd.ret (F' := F) (vs := [_, _]) (.tmp rfl (.tmp rfl .nil)) (.cons _ (List.Sublist.refl _)) ⟨[], .err he, rfl⟩
  | @ok x S bk bx he hT hS hbk hbx =>
    obtain ⟨hN, hk0, hkn, _⟩ := errN_zero he
    obtain ⟨j, rfl⟩ : ∃ j : Nat, k = (j : Nat) := ⟨k.toNat, by omega⟩
    have hj : j < fs.length := by omega
    have hn := hN.n
    have hlit : ∀ {x1 : List Int} {G : Hp}, x1.length = fs.length → (bx, ABlk.cells (ints x1) true) ∈ G → Lit' G (AV.slc (some (bx, 0)) fs.length fs.length false 1) x1 := fun h1 h2 => ⟨RowI.lit h2 h1.symm, fun h => by subst h; simp at h1; omega⟩
    (repeat' (first | (first | refine Wo.nil ?_ | refine Wd.nil ?_ | ((first | refine Wo.cons ?_ | refine Wd.cons ?_); (try refine W1.go rfl rfl ?_); ((first | refine k1 ?_ | refine k2 ?_ | (refine isDst 17 ?_; refine W1.cO ?_) | (refine isDst 22 ?_; refine W1.callM rfl rfl ((f60_ok hN hr.cons hT hbk hbx hS hj).mono ?_); rintro r1 _ ⟨x1, S1, Fo1, hT1, hS1, hst1, rfl⟩) | (refine isDst 24 ?_; refine W1.callM rfl rfl ((f57_ok (List.mem_append_right _ (List.mem_cons_self ..)) (hlit hT1.r.1 (List.mem_append_right _ (List.mem_cons_of_mem _ (List.mem_cons_self ..)))) (by have := hT1.r.1; omega)).mono ?_); rintro rv _ ⟨Fv, hv, rfl⟩) | refine W1.auto ?_) <;> (try refine ⟨fun _ => rfl, ?_⟩)))) | (first | refine Ws.seq ?_ | refine Ws.region ?_ | refine Ws.draw (fun bd hbd => ?_) | refine Ws.cond rfl ?_ | refine Ws.skip ?_ | refine Ws.scope ?_ | refine Ws.block ?_ | refine Ws.exit ?_ | refine Ws.ret ?_)))
    exact FnEnd.ret (F' := Fv ++ F) (vs := [_, _]) (.tmp rfl (.tmp rfl .nil)) (List.Sublist.append (List.Sublist.refl _) (List.Sublist.trans (.cons _ (.cons _ (.cons _ (List.Sublist.refl _)))) (List.sublist_append_right _ _))) ⟨Fv, .ok he hT1 hv (by rw [Int.toNat_natCast]; exact hst1.fin hN hj hT1), rfl⟩
end Go.Ax
