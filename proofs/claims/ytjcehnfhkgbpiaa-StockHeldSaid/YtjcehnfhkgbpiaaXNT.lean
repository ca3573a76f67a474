/-
  Contracts: looking for a way: the search, whole.
-/
import Derived.Test.YtjcehnfhkgbpiaaXNS
namespace Go.Ax
set_option maxHeartbeats 1000000
set_option maxRecDepth 6000
set_option linter.unusedSimpArgs false
set_option linter.unusedVariables false
attribute [-simp] List.getD_eq_getElem?_getD
variable {lo : Nat} {F : Hp}
def FEnd (T : Int) (fs : List Fl) (x : List Int) (but a : Int) (g : Int → Bool) (s : FS) (e : Int) : Prop :=
  (e = -1 ∧ ∀ t, t ∈ nodes a s.D → DoneR fs x but a s.D t fs.length ∧ g t = false) ∨ (e ∈ nodes a s.D ∧ 0 ≤ e ∧ e ≤ T ∧ g e = true)
theorem f78_out {T : Int} {fs : List Fl} {x : List Int} {but a most : Int} {g : Int → Bool} {v gv : AV} {bk bx bm : Nat} {s0 : FS} {B : FE} (hN : Net T fs) (hr : FRow F v fs) (hxr : inRg fs x) (hbk : lo ≤ bk) (hbm : lo ≤ bm) (hg : ∀ H : Hp, F.Sublist H → ∀ t, 0 ≤ t → t ≤ T → Pure tblW gv [.int .i64 t] H (.bool (g t))) (h0 : FInv lo T fs x but a s0) (haT : 0 ≤ a ∧ a ≤ T) (hD0 : s0.D = []) (hQ0 : s0.Q = [a]) :
    Ws tblW lo none (af78.body.loopAt 0) (upds B ((13, s0.qv) :: (14, .int .i64 (-1)) :: [(0, .ptr (some (bk, 0))), (1, .int .i64 a), (2, .int .i64 but), (3, .int .i64 most), (4, gv), (12, .map (some bm))])) (gS T v (AV.slc (some (bx, 0)) x.length x.length false 1) bm bk ((bx, ABlk.cells (ints x) true) :: F) s0)
      fun r E' H => r = .exit 0 ∧ ∃ s e, FInv lo T fs x but a s ∧ FEnd T fs x but a g s e ∧ Holds E' ((14, .int .i64 e) :: [(0, .ptr (some (bk, 0))), (1, .int .i64 a), (2, .int .i64 but), (3, .int .i64 most), (4, gv), (12, .map (some bm))]) ∧ H = gS T v (AV.slc (some (bx, 0)) x.length x.length false 1) bm bk ((bx, ABlk.cells (ints x) true) :: F) s := by
  show Ws tblW lo none (.loop _) _ _ _
  refine Ws.shrink ?_
  have hn := hN.n
  have hT := hN.t
  refine Ws.loopG (X := FS) (fun s => (13, s.qv) :: (14, .int .i64 (-1)) :: [(0, .ptr (some (bk, 0))), (1, .int .i64 a), (2, .int .i64 but), (3, .int .i64 most), (4, gv), (12, .map (some bm))]) (fun s => gS T v (AV.slc (some (bx, 0)) x.length x.length false 1) bm bk ((bx, ABlk.cells (ints x) true) :: F) s) (fun s => FInv lo T fs x but a s ∧ s.Q.length ≤ s.D.length + 1 ∧ ∀ t, t ∈ nodes a s.D → t ∈ s.Q ∨ (DoneR fs x but a s.D t fs.length ∧ g t = false)) (fun s => 13 - s.D.length + s.Q.length) s0 ⟨rfl, rfl, rfl, rfl, rfl, rfl, rfl, rfl, trivial⟩ (List.Sublist.refl _) ⟨h0, by rw [hD0, hQ0]; simp, fun t ht => by rw [hD0] at ht; rw [hQ0]; simp only [nodes, List.map_nil, List.nil_append] at ht; exact .inl ht⟩ ?_
  rintro s B2 ⟨hI, hQl, hP⟩
  have hDl := hI.tr.len haT
  have hq := hI.q
  have mbk : (bk, ABlk.cells (bookC T v (AV.slc (some (bx, 0)) x.length x.length false 1) s.S) true) ∈ gS T v (AV.slc (some (bx, 0)) x.length x.length false 1) bm bk ((bx, ABlk.cells (ints x) true) :: F) s := List.mem_cons_of_mem _ (List.mem_cons_of_mem _ (List.mem_cons_self ..))
  have hfrow : FRow (gS T v (AV.slc (some (bx, 0)) x.length x.length false 1) bm bk ((bx, ABlk.cells (ints x) true) :: F) s) v fs := hr.cons.cons.cons.cons
  have hsubF : F.Sublist (gS T v (AV.slc (some (bx, 0)) x.length x.length false 1) bm bk ((bx, ABlk.cells (ints x) true) :: F) s) := .cons _ (.cons _ (.cons _ (.cons _ (List.Sublist.refl _))))
  rcases hQe : s.Q with _ | ⟨at', Q'⟩
  · rw [hQe] at hq hP
    have hz : (([] : List Int).length : Int) = 0 := rfl
    (repeat' (first | (first | refine Wo.nil ?_ | refine Wd.nil ?_ | ((first | refine Wo.cons ?_ | refine Wd.cons ?_); (try refine W1.go rfl rfl ?_); ((first | refine k1 ?_ | refine k2 ?_ | (refine isDst 39 ?_; refine hq.len rfl ?_) | (refine isDst 40 ?_; refine W1.cO ?_) | refine W1.auto ?_) <;> (try refine ⟨fun _ => rfl, ?_⟩)))) | (first | refine Ws.seq ?_ | refine Ws.region ?_ | refine Ws.draw (fun bd hbd => ?_) | refine Ws.cond rfl ?_ | refine Ws.skip ?_ | refine Ws.scope ?_ | refine Ws.block ?_ | refine Ws.exit ?_ | refine Ws.ret ?_)))
    refine ⟨_, List.Sublist.refl _, rfl, s, -1, hI, .inl ⟨rfl, fun t ht => ?_⟩, ⟨rfl, rfl, rfl, rfl, rfl, rfl, rfl, trivial⟩, rfl⟩
    rcases hP t ht with h | h
    · cases h
    · exact h
  · rw [hQe] at hq hP hQl
    have hatn : at' ∈ nodes a s.D := hI.qs _ (by rw [hQe]; exact List.mem_cons_self ..)
    have hatT := hI.tr.node_range haT at' hatn
    have hlen : ((at' :: Q').length : Int) = Q'.length + 1 := by simp
    cases hge : g at' with
    | true =>
      have cg : Pure tblW gv [.int .i64 at'] (gS T v (AV.slc (some (bx, 0)) x.length x.length false 1) bm bk ((bx, ABlk.cells (ints x) true) :: F) s) (.bool true) := by have h := hg _ hsubF at' hatT.1 hatT.2; rwa [hge] at h
      (repeat' (first | (first | refine Wo.nil ?_ | refine Wd.nil ?_ | ((first | refine Wo.cons ?_ | refine Wd.cons ?_); (try refine W1.go rfl rfl ?_); ((first | refine k1 ?_ | refine k2 ?_ | (refine isDst 39 ?_; refine hq.len rfl ?_) | (refine isDst 40 ?_; refine W1.cO ?_) | (refine isDst 42 ?_; refine hq.head rfl rfl (fun hh => ?_)) | (refine isDst 43 ?_; refine W1.load1 rfl (List.mem_cons_self ..) hh ?_) | (refine isDst 45 ?_; refine hq.pop rfl rfl (fun v' hq' => ?_)) | (refine isDst 54 ?_; refine W1.load1 rfl mbk rfl ?_) | (refine isDst 55 ?_; refine W1.lenZ hfrow rfl ?_) | (refine isDst 48 ?_; refine W1.pure rfl rfl cg ?_) | refine W1.auto ?_) <;> (try refine ⟨fun _ => rfl, ?_⟩)))) | (first | refine Ws.seq ?_ | refine Ws.region ?_ | refine Ws.draw (fun bd hbd => ?_) | refine Ws.cond rfl ?_ | refine Ws.skip ?_ | refine Ws.scope ?_ | refine Ws.block ?_ | refine Ws.exit ?_ | refine Ws.ret ?_)))
      exact ⟨_, List.Sublist.refl _, rfl, s, at', hI, .inr ⟨hatn, hatT.1, hatT.2, hge⟩, ⟨rfl, rfl, rfl, rfl, rfl, rfl, rfl, trivial⟩, rfl⟩
    | false =>
      have cg : Pure tblW gv [.int .i64 at'] (gS T v (AV.slc (some (bx, 0)) x.length x.length false 1) bm bk ((bx, ABlk.cells (ints x) true) :: F) s) (.bool false) := by have h := hg _ hsubF at' hatT.1 hatT.2; rwa [hge] at h
      (repeat' (first | (first | refine Wo.nil ?_ | refine Wd.nil ?_ | ((first | refine Wo.cons ?_ | refine Wd.cons ?_); (try refine W1.go rfl rfl ?_); ((first | refine k1 ?_ | refine k2 ?_ | (refine isDst 39 ?_; refine hq.len rfl ?_) | (refine isDst 40 ?_; refine W1.cO ?_) | (refine isDst 42 ?_; refine hq.head rfl rfl (fun hh => ?_)) | (refine isDst 43 ?_; refine W1.load1 rfl (List.mem_cons_self ..) hh ?_) | (refine isDst 45 ?_; refine hq.pop rfl rfl (fun v' hq' => ?_)) | (refine isDst 54 ?_; refine W1.load1 rfl mbk rfl ?_) | (refine isDst 55 ?_; refine W1.lenZ hfrow rfl ?_) | (refine isDst 48 ?_; refine W1.pure rfl rfl cg ?_) | refine W1.auto ?_) <;> (try refine ⟨fun _ => rfl, ?_⟩)))) | (first | refine Ws.seq ?_ | refine Ws.region ?_ | refine Ws.draw (fun bd hbd => ?_) | refine Ws.cond rfl ?_ | refine Ws.skip ?_ | refine Ws.scope ?_ | refine Ws.block ?_ | refine Ws.exit ?_ | refine Ws.ret ?_)))
      have hI1 : FInv lo T fs x but a { s with qv := v', qo := s.qo + 1, Q := Q' } := ⟨hI.tr, hI.sl, hI.sv, hI.ml, hq', hI.qb, fun t ht => hI.qs t (by rw [hQe]; exact List.mem_cons_of_mem _ ht)⟩
      refine Ws.fresh (l := (13, v') :: (56, .int .i64 0) :: (14, .int .i64 (-1)) :: (15, .int .i64 at') :: (55, .int .i64 fs.length) :: [(0, .ptr (some (bk, 0))), (1, .int .i64 a), (2, .int .i64 but), (3, .int .i64 most), (4, gv), (12, .map (some bm))]) ⟨rfl, rfl, rfl, rfl, rfl, rfl, rfl, rfl, rfl, rfl, rfl, trivial⟩ (fun B3 => ?_)
      refine (f78_in (gv := gv) (most := most) hN hr hxr hbk hbm hI1 haT hatn (by have : Q'.length + 1 ≤ s.D.length + 1 := hQl; show Q'.length ≤ 20; omega)).mono ?_
      rintro r E' H ⟨rfl, s2, hI2, hR2, hD2, hE', rfl⟩
      have hl := hR2.l
      have hDl2 := hI2.tr.len haT
      dsimp only at hl
      have hQl' : Q'.length + 1 ≤ s.D.length + 1 := hQl
      refine ⟨s2, hE', List.Sublist.refl _, ⟨hI2, by omega, fun t ht => ?_⟩, by simp only [List.length_cons]; omega⟩
      rcases hR2.n t ht with h | h
      · rcases hP t h with h | h
        · rcases List.mem_cons.1 h with rfl | h
          · exact .inr ⟨hD2, hge⟩
          · exact .inl (hR2.q t h)
        · exact .inr ⟨h.1.mono hR2.d, h.2⟩
      · exact .inl h
end Go.Ax
