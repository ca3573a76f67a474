/-
  Contracts: looking for a way: the whole.
-/
import Derived.Test.YtjcehnfhkgbpiaaXNU
namespace Go.Ax
set_option maxHeartbeats 1000000
set_option maxRecDepth 6000
set_option linter.unusedSimpArgs false
set_option linter.unusedVariables false
attribute [-simp] List.getD_eq_getElem?_getD
variable {lo : Nat} {F : Hp}
inductive FindR (T : Int) (fs : List Fl) (x : List Int) (but a most : Int) (g : Int → Bool) : Int → Int → List Int → List Int → Prop
  | no {S : List Int} (c : Clo fs x but (seenB S)) (ha : seenB S a = true) (hg : ∀ t, 0 ≤ t → t ≤ T → seenB S t = true → g t = false) : FindR T fs x but a most g 0 (-1) x S
  | yes {m e : Int} {x' S : List Int} (he : 0 ≤ e ∧ e ≤ T) (hg : g e = true) (hm : 0 < m ∧ m ≤ most) (hr : inRg fs x') (ho : ∀ t, ov fs x' fs.length t = ov fs x fs.length t + (if t = e then m else 0) - (if t = a then m else 0)) (hb : ∀ j : Nat, (j : Int) = but → x'.getD j 0 = x.getD j 0) : FindR T fs x but a most g m e x' S
theorem FInv.seen {T : Int} {fs : List Fl} {x : List Int} {but a : Int} {s : FS} (h : FInv lo T fs x but a s) (hT : T ≤ 12) {t : Int} (ht : 0 ≤ t ∧ t ≤ T) : seenB s.S t = true ↔ t ∈ nodes a s.D := by
  have := h.sv t.toNat (by omega)
  rw [show ((t.toNat : Nat) : Int) = t by omega] at this
  unfold seenB
  rw [decide_eq_true_eq, this]
  by_cases hm : t ∈ nodes a s.D
  · rw [if_pos hm]; exact ⟨fun _ => hm, fun _ => rfl⟩
  · rw [if_neg hm]; exact ⟨fun h => (by cases h), fun h => absurd h hm⟩
theorem FEnd.no {T : Int} {fs : List Fl} {x : List Int} {but a most : Int} {g : Int → Bool} {s : FS} (hN : Net T fs) (haT : 0 ≤ a ∧ a ≤ T) (h : FInv lo T fs x but a s) (hd : ∀ t, t ∈ nodes a s.D → DoneR fs x but a s.D t fs.length ∧ g t = false) : FindR T fs x but a most g 0 (-1) x s.S := by
  have hT := hN.t
  have hs := fun {t} ht => h.seen (t := t) hT.2 ht
  refine .no ⟨fun i hi hb hf hx => ?_, fun i hi hb hf hx => ?_⟩ ((hs haT).2 nodes_root) (fun t h1 h2 h3 => (hd t ((hs ⟨h1, h2⟩).1 h3)).2)
  · have hu := hN.u i hi
    have := (hd _ ((hs ⟨hu.1, hu.2.1⟩).1 hf)).1 i hi hb (by unfold roomR; rw [if_pos rfl]; omega)
    unfold toR at this
    rw [if_pos rfl] at this
    exact (hs ⟨hu.2.2.1, hu.2.2.2.1⟩).2 this
  · have hu := hN.u i hi
    have := (hd _ ((hs ⟨hu.2.2.1, hu.2.2.2.1⟩).1 hf)).1 i hi hb (by unfold roomR; rw [if_neg hu.2.2.2.2.1, if_pos rfl]; omega)
    unfold toR at this
    rw [if_neg hu.2.2.2.2.1, if_pos rfl] at this
    exact (hs ⟨hu.1, hu.2.1⟩).2 this
theorem f78_ok {T : Int} {fs : List Fl} {x S : List Int} {but a most : Int} {g : Int → Bool} {v gv : AV} {bk bx : Nat} (hN : Net T fs) (hr : FRow F v fs) (hxr : inRg fs x) (hbk : lo ≤ bk) (hbx : lo ≤ bx) (hS : S.length = 13) (haT : 0 ≤ a ∧ a ≤ T) (hm : 0 < most ∧ most ≤ 100000000)
    (hg : ∀ H : Hp, F.Sublist H → ∀ t, 0 ≤ t → t ≤ T → Pure tblW gv [.int .i64 t] H (.bool (g t))) :
    Fn tblW lo (fnv 78) [.ptr (some (bk, 0)), .int .i64 a, .int .i64 but, .int .i64 most, gv] ((bk, .cells (bookC T v (AV.slc (some (bx, 0)) x.length x.length false 1) S) true) :: (bx, .cells (ints x) true) :: F)
      (fun r F' => ∃ m e x' S', r = rv1 (m, e) ∧ x'.length = x.length ∧ S'.length = 13 ∧ FindR T fs x but a most g m e x' S' ∧ F' = (bk, .cells (bookC T v (AV.slc (some (bx, 0)) x.length x.length false 1) S') true) :: (bx, .cells (ints x') true) :: F) := by
  refine Fn.func (fn := af78) rfl rfl ?_
  have hn := hN.n
  have hT := hN.t
  obtain ⟨aa, rfl⟩ : ∃ aa : Nat, a = (aa : Nat) := ⟨a.toNat, by omega⟩
  have ha13 : aa < 13 := by omega
  have hz : (List.replicate 13 (0 : Int)).length = 13 := List.length_replicate
  (repeat' (first | (first | refine Wo.nil ?_ | refine Wd.nil ?_ | ((first | refine Wo.cons ?_ | refine Wd.cons ?_); (try refine W1.go rfl rfl ?_); ((first | refine k1 ?_ | refine k2 ?_ | (refine isDst 29 ?_; refine W1.slcAll rfl ?_) | (refine isDst 32 ?_; refine W1.bslice (l := [.int .i64 ((aa : Nat) : Int)]) (fill_all (catF1 rfl rfl catF0) rfl) (fun bq hbq => ?_)) | (refine isDst 37 ?_; refine W1.iaddrA aa rfl rfl rfl ha13 ?_) | (refine isTo 37 ?_; refine W1.storeN (cs := [.int .i64 1]) (l := bookC T v (AV.slc (some (bx, 0)) x.length x.length false 1) (List.replicate 13 0)) (l' := bookC T v (AV.slc (some (bx, 0)) x.length x.length false 1) ((List.replicate 13 0).set aa 1)) rfl rfl rfl (List.mem_cons_of_mem _ (List.mem_cons_of_mem _ (List.mem_cons_self ..))) (book_set (by omega) (by omega)) (.tail (.tail .head)) (by rw [book_len]; omega) hbk ?_) | (refine isClrs ?_; refine W1.clrSI rfl (by decide) (book_clr hS) .head (by rw [book_len, hS]; decide) hbk ?_) | (refine isMkmap ?_; refine W1.mkmapM key1 hopv (fun bm hbm => ?_)) | refine W1.auto ?_) <;> (try refine ⟨fun _ => rfl, ?_⟩)))) | (first | refine Ws.seq ?_ | refine Ws.region ?_ | refine Ws.draw (fun bd hbd => ?_) | refine Ws.cond rfl ?_ | refine Ws.skip ?_ | refine Ws.scope ?_ | refine Ws.block ?_ | refine Ws.exit ?_ | refine Ws.ret ?_)))
  have hI0 : FInv lo T fs x but (aa : Nat) ⟨[], [], 0, .slc (some (bq, 0)) 1 1 true 1, bq, 0, [.int .i64 ((aa : Nat) : Int)], [((aa : Nat) : Int)], (List.replicate 13 0).set aa 1⟩ := by
    refine ⟨.nil, by simp, fun t ht => ?_, fun t => rfl, QS.one (Nat.le_refl _), hbq, fun t ht => by rw [List.mem_singleton] at ht; subst ht; exact nodes_root⟩
    dsimp only
    rw [getD_setI (by rw [hz]; exact ha13), rep0]
    by_cases e : t = aa
    · subst e; rw [if_pos rfl, if_pos nodes_root]
    · rw [if_neg e, if_neg fun k => by simp only [nodes, List.map_nil, List.nil_append, List.mem_singleton] at k; omega]
  refine Ws.fresh (l := (13, .slc (some (bq, 0)) 1 1 true 1) :: (14, .int .i64 (-1)) :: [(0, .ptr (some (bk, 0))), (1, .int .i64 (aa : Nat)), (2, .int .i64 but), (3, .int .i64 most), (4, gv), (12, .map (some bm))]) ⟨rfl, rfl, rfl, rfl, rfl, rfl, rfl, rfl, trivial⟩ (fun B => ?_)
  refine (f78_out (g := g) hN hr hxr hbk hbm hg hI0 haT rfl rfl).mono ?_
  rintro r E' H ⟨rfl, s, e, hI, hE, hE', rfl⟩
  refine Ws.fresh hE' (fun B2 => ?_)
  have hDl := hI.tr.len haT
  rcases hE with ⟨rfl, hd⟩ | ⟨hen, he0, heT, hge⟩
  · (repeat' (first | (first | refine Wo.nil ?_ | refine Wd.nil ?_ | ((first | refine Wo.cons ?_ | refine Wd.cons ?_); (try refine W1.go rfl rfl ?_); ((first | refine k1 ?_ | refine k2 ?_ | refine W1.cO ?_ | refine W1.auto ?_) <;> (try refine ⟨fun _ => rfl, ?_⟩)))) | (first | refine Ws.seq ?_ | refine Ws.region ?_ | refine Ws.draw (fun bd hbd => ?_) | refine Ws.cond rfl ?_ | refine Ws.skip ?_ | refine Ws.scope ?_ | refine Ws.block ?_ | refine Ws.exit ?_ | refine Ws.ret ?_)))
    exact FnEnd.ret (F' := (bk, .cells (bookC T v (AV.slc (some (bx, 0)) x.length x.length false 1) s.S) true) :: (bx, .cells (ints x) true) :: F) (vs := [_, _]) (.tmp rfl (.tmp rfl .nil)) (.cons _ (.cons _ (List.Sublist.refl _))) ⟨0, -1, x, s.S, rfl, rfl, hI.sl, FEnd.no hN haT hI hd, rfl⟩
  · (repeat' (first | (first | refine Wo.nil ?_ | refine Wd.nil ?_ | ((first | refine Wo.cons ?_ | refine Wd.cons ?_); (try refine W1.go rfl rfl ?_); ((first | refine k1 ?_ | refine k2 ?_ | refine W1.cO ?_ | refine W1.auto ?_) <;> (try refine ⟨fun _ => rfl, ?_⟩)))) | (first | refine Ws.seq ?_ | refine Ws.region ?_ | refine Ws.draw (fun bd hbd => ?_) | refine Ws.cond rfl ?_ | refine Ws.skip ?_ | refine Ws.scope ?_ | refine Ws.block ?_ | refine Ws.exit ?_ | refine Ws.ret ?_)))
    refine Ws.fresh (l := (3, .int .i64 most) :: (19, .slc none 0 0 true 0) :: (20, .int .i64 e) :: [(0, .ptr (some (bk, 0))), (1, .int .i64 (aa : Nat)), (12, .map (some bm)), (14, .int .i64 e)]) ⟨rfl, rfl, rfl, rfl, rfl, rfl, rfl, trivial⟩ (fun B3 => ?_)
    refine Ws.weak (List.sublist_cons_self _ _) ?_
    refine (f78_back (e := e) (D := s.D) hN hr hxr hbk hbm haT ⟨hI.tr, hen, rfl, fun u _ => hI.ml u, Int.le_refl _, hm.1, fun h hh => (by cases hh), by simp; omega⟩).mono ?_
    rintro r E2 H ⟨rfl, mm, wv, Fw, hrm, hm0, hml, hw, hE2, rfl⟩
    refine Ws.fresh hE2 (fun B4 => ?_)
    have hwl : (wayT s.D e).length ≤ 40 := by
      have : ∀ (D : List Cm) (e : Int), (wayT D e).length ≤ D.length := by
        intro D
        induction D with
        | nil => intro e; exact Nat.le_refl _
        | cons c D ih =>
          intro e
          obtain ⟨t, i, b⟩ := c
          unfold wayT
          split
          · simp only [List.length_cons]; have := ih b; omega
          · simp only [List.length_cons]; have := ih e; omega
      have := this s.D e
      omega
    have hW : ∀ h ∈ wayT s.D e, h.1 < fs.length ∧ mm ≤ roomR fs x h.1 h.2 := fun h hh => ⟨(hI.tr.hops h hh).1, hrm h hh⟩
    obtain ⟨q1, q2, q3⟩ := hI.tr.sent hN.ne hen hxr (Int.le_of_lt hm0) hrm
    have hnd := hI.tr.nodup hN.ne (e := e)
    generalize wayT s.D e = W at *
    (repeat' (first | (first | refine Wo.nil ?_ | refine Wd.nil ?_ | ((first | refine Wo.cons ?_ | refine Wd.cons ?_); (try refine W1.go rfl rfl ?_); ((first | refine k1 ?_ | refine k2 ?_ | (refine isDst 132 ?_; refine W1.lenZ (hw.rowZ hopc_len (List.subset_append_left _ _)) rfl ?_) | refine W1.cO ?_ | refine W1.auto ?_) <;> (try refine ⟨fun _ => rfl, ?_⟩)))) | (first | refine Ws.seq ?_ | refine Ws.region ?_ | refine Ws.draw (fun bd hbd => ?_) | refine Ws.cond rfl ?_ | refine Ws.skip ?_ | refine Ws.scope ?_ | refine Ws.block ?_ | refine Ws.exit ?_ | refine Ws.ret ?_)))
    refine Ws.fresh (l := (133, .int .i64 0) :: [(0, .ptr (some (bk, 0))), (3, .int .i64 mm), (14, .int .i64 e), (131, wv), (132, .int .i64 W.length)]) ⟨rfl, rfl, rfl, rfl, rfl, rfl, trivial⟩ (fun B5 => ?_)
    refine (f78_send hN hr hxr hbk hbx ⟨hm0, by omega⟩ hw (by omega) hW hnd).mono ?_
    rintro r E3 H ⟨rfl, hE3, rfl⟩
    refine Ws.fresh hE3 (fun B6 => ?_)
    (repeat' (first | (first | refine Wo.nil ?_ | refine Wd.nil ?_ | ((first | refine Wo.cons ?_ | refine Wd.cons ?_); (try refine W1.go rfl rfl ?_); ((first | refine k1 ?_ | refine k2 ?_ | (refine isDst 132 ?_; refine W1.lenZ (hw.rowZ hopc_len (List.subset_append_left _ _)) rfl ?_) | refine W1.cO ?_ | refine W1.auto ?_) <;> (try refine ⟨fun _ => rfl, ?_⟩)))) | (first | refine Ws.seq ?_ | refine Ws.region ?_ | refine Ws.draw (fun bd hbd => ?_) | refine Ws.cond rfl ?_ | refine Ws.skip ?_ | refine Ws.scope ?_ | refine Ws.block ?_ | refine Ws.exit ?_ | refine Ws.ret ?_)))
    exact FnEnd.ret (F' := (bk, .cells (bookC T v (AV.slc (some (bx, 0)) x.length x.length false 1) s.S) true) :: (bx, .cells (ints (pushW fs mm x W)) true) :: F) (vs := [_, _]) (.tmp rfl (.tmp rfl .nil)) (List.Sublist.refl _) ⟨mm, e, pushW fs mm x W, s.S, rfl, pushW_len, hI.sl, .yes ⟨he0, heT⟩ hge ⟨hm0, hml⟩ q1 q2 q3, rfl⟩
end Go.Ax
