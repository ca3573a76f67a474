/-
  Contracts: the reference's way: the search.
-/
import Derived.Test.YtjcehnfhkgbpiaaXNK
import Derived.Test.YtjcehnfhkgbpiaaXNV
namespace Go.Ax
set_option maxHeartbeats 1000000
set_option maxRecDepth 6000
set_option linter.unusedSimpArgs false
set_option linter.unusedVariables false
attribute [-simp] List.getD_eq_getElem?_getD
variable {lo : Nat} {F : Hp}
def byV (fs : List Fl) (a : Int) (D : List Cm) (t : Int) : Int := if t = a then (fs.length : Int) + 1 else match dv D t with | some (i, b) => if (gF fs i).f = b then (i : Int) + 1 else -((i : Int) + 1) | none => 0
theorem dv_mem {a : Int} : ∀ {D : List Cm} {u : Int}, u ∈ nodes a D → u ≠ a → dv D u ≠ none
  | [], u, h, hne => by
    simp only [nodes, List.map_nil, List.nil_append, List.mem_singleton] at h
    exact absurd h hne
  | (t, i, b) :: D, u, h, hne => by
    by_cases e : u = t
    · subst e; rw [dv_head]; simp
    · rw [dv_tail e]
      rcases nodes_cons.1 h with h | h
      · exact absurd h e
      · exact dv_mem h hne
theorem byV_zero {fs : List Fl} {a : Int} {D : List Cm} {t : Int} : byV fs a D t = 0 ↔ t ∉ nodes a D := by
  unfold byV
  constructor
  · intro h hm
    by_cases e : t = a
    · rw [if_pos e] at h; omega
    · rw [if_neg e] at h
      cases hd : dv D t with
      | none => exact dv_mem hm e hd
      | some w =>
        obtain ⟨i, b⟩ := w
        rw [hd] at h
        dsimp only at h
        split at h <;> omega
  · intro h
    rw [if_neg (fun e => h (by rw [e]; exact nodes_root)), dv_none h]
structure PInv (lo : Nat) (T : Int) (fs : List Fl) (x : List Int) (but a : Int) (s : FS) : Prop where
  tr : Tr T fs x but a s.D
  bl : s.S.length = T.toNat + 1
  bv : ∀ t : Nat, t < T.toNat + 1 → s.S.getD t 0 = byV fs a s.D (t : Nat)
  q : QS s.qv s.qb s.qo s.ql s.Q
  qb : lo ≤ s.qb
  qs : ∀ t ∈ s.Q, t ∈ nodes a s.D
theorem PInv.more {T : Int} {fs : List Fl} {x : List Int} {but a at' : Int} {s : FS} {i ta : Nat} {v' : AV} {b' : Nat} {z : Int} (hN : Net T fs) (h : PInv lo T fs x but a s) (hi : i < fs.length) (hbut : (i : Int) ≠ but) (hat : at' ∈ nodes a s.D) (haT : 0 ≤ at' ∧ at' ≤ T) (hr : 0 < roomR fs x i at') (hta : toR fs i at' = (ta : Nat)) (ht : ta < T.toNat + 1) (hs : s.S.getD ta 0 = 0) (hq : QS v' b' 0 (ints (s.Q ++ [((ta : Nat) : Int)])) (s.Q ++ [((ta : Nat) : Int)])) (hb : lo ≤ b') (hz : z = if (gF fs i).f = at' then (i : Int) + 1 else -((i : Int) + 1)) :
    PInv lo T fs x but a ⟨((ta : Nat), i, at') :: s.D, [], 0, v', b', 0, ints (s.Q ++ [((ta : Nat) : Int)]), s.Q ++ [((ta : Nat) : Int)], s.S.set ta z⟩ ∧ FRel a s ⟨((ta : Nat), i, at') :: s.D, [], 0, v', b', 0, ints (s.Q ++ [((ta : Nat) : Int)]), s.Q ++ [((ta : Nat) : Int)], s.S.set ta z⟩ := by
  have hnew : ((ta : Nat) : Int) ∉ nodes a s.D := byV_zero.1 (by rw [← h.bv ta ht]; exact hs)
  have ⟨he, ho⟩ := room_end hr
  have htT := toR_in hN hi haT
  rw [hta] at ho htT
  refine ⟨⟨.cons h.tr hnew hat htT hi hbut he ho hr, by simp [h.bl], fun t ht' => ?_, hq, hb, fun t hm => ?_⟩, ⟨fun t hm => nodes_cons.2 (.inr hm), fun t hm => List.mem_append_left _ hm, fun t hm => ?_, by simp; omega⟩⟩
  · dsimp only
    rw [getD_setI (by rw [h.bl]; exact ht)]
    by_cases e : t = ta
    · subst e
      rw [if_pos rfl]
      unfold byV
      rw [if_neg (fun k => hnew (by rw [k]; exact nodes_root)), dv_head]
      exact hz
    · rw [if_neg e, h.bv t ht']
      unfold byV
      rw [dv_tail (fun k : ((t : Nat) : Int) = ((ta : Nat) : Int) => e (by omega))]
  · rcases List.mem_append.1 hm with hm | hm
    · exact nodes_cons.2 (.inr (h.qs t hm))
    · rw [List.mem_singleton] at hm; exact nodes_cons.2 (.inl hm)
  · rcases nodes_cons.1 hm with hm | hm
    · exact .inr (List.mem_append_right _ (by rw [hm]; exact List.mem_singleton.2 rfl))
    · exact .inl hm
def pS (T : Int) (v : AV) (b14 b6 : Nat) (F : Hp) (s : FS) : Hp := (s.qb, .cells s.ql true) :: (b14, .cells (ints s.S) true) :: (b6, .cells [.int .i64 T, v] true) :: F
theorem f58_in {T : Int} {fs : List Fl} {x : List Int} {but a b most at' : Int} {v xv : AV} {b14 b6 : Nat} {s0 : FS} {B : FE} (hN : Net T fs) (hr : FRow F v fs) (hx : RowI F xv x) (hxr : inRg fs x) (hb14 : lo ≤ b14) (h0 : PInv lo T fs x but a s0) (haT : 0 ≤ a ∧ a ≤ T) (hat : at' ∈ nodes a s0.D) (hQ0 : s0.Q.length ≤ 20) :
    Ws tblW lo none (af58.body.loopAt 1) (upds B ((15, s0.qv) :: (17, .int .i64 0) :: (16, .int .i64 at') :: [(1, xv), (2, .int .i64 a), (3, .int .i64 b), (4, .int .i64 but), (5, .int .i64 most), (6, .ptr (some (b6, 0))), (14, (AV.slc (some (b14, 0)) (T.toNat + 1) (T.toNat + 1) true 1))])) (pS T v b14 b6 F s0)
      fun r E' H => r = .exit 2 ∧ ∃ s, PInv lo T fs x but a s ∧ FRel a s0 s ∧ DoneR fs x but a s.D at' fs.length ∧ Holds E' ((15, s.qv) :: [(1, xv), (2, .int .i64 a), (3, .int .i64 b), (4, .int .i64 but), (5, .int .i64 most), (6, .ptr (some (b6, 0))), (14, (AV.slc (some (b14, 0)) (T.toNat + 1) (T.toNat + 1) true 1))]) ∧ H = pS T v b14 b6 F s := by
  show Ws tblW lo none (.loop _) _ _ _
  refine Ws.shrink ?_
  have hn := hN.n
  have hT := hN.t
  have hatT := h0.tr.node_range haT at' hat
  refine Ws.loopG (X := Nat × FS) (fun X => (15, X.2.qv) :: (17, .int .i64 (X.1 : Nat)) :: (16, .int .i64 at') :: [(1, xv), (2, .int .i64 a), (3, .int .i64 b), (4, .int .i64 but), (5, .int .i64 most), (6, .ptr (some (b6, 0))), (14, (AV.slc (some (b14, 0)) (T.toNat + 1) (T.toNat + 1) true 1))]) (fun X => pS T v b14 b6 F X.2) (fun X => X.1 ≤ fs.length ∧ PInv lo T fs x but a X.2 ∧ FRel a s0 X.2 ∧ DoneR fs x but a X.2.D at' X.1) (fun X => fs.length - X.1) (0, s0) ⟨rfl, rfl, rfl, rfl, rfl, rfl, rfl, rfl, rfl, rfl, trivial⟩ (List.Sublist.refl _) ⟨Nat.zero_le _, h0, FRel.refl a s0, fun i hi => absurd hi (Nat.not_lt_zero i)⟩ ?_
  rintro ⟨i, s⟩ B2 ⟨hi, hI, hR, hD⟩
  have hi : i ≤ fs.length := hi
  have hI : PInv lo T fs x but a s := hI
  have hR : FRel a s0 s := hR
  have hD : DoneR fs x but a s.D at' i := hD
  dsimp only
  have mb6 : (b6, ABlk.cells [.int .i64 T, v] true) ∈ pS T v b14 b6 F s := List.mem_cons_of_mem _ (List.mem_cons_of_mem _ (List.mem_cons_self ..))
  have hfrow : FRow (pS T v b14 b6 F s) v fs := hr.cons.cons.cons
  by_cases hic : i < fs.length
  · have hsl := hI.bl
    have hq := hI.q
    have hqb := hI.qb
    have hu := hN.u i hic
    have hxi := hxr.2 i hic
    have hxl : i < x.length := by rw [hxr.1]; exact hic
    have hQl : s.Q.length ≤ 40 := by
      have := hR.l
      have hd := hI.tr.len haT
      omega
    obtain ⟨ta, hta⟩ : ∃ ta : Nat, (gF fs i).t = (ta : Nat) := ⟨(gF fs i).t.toNat, by omega⟩
    obtain ⟨fa, hfa⟩ : ∃ fa : Nat, (gF fs i).f = (fa : Nat) := ⟨(gF fs i).f.toNat, by omega⟩
    have hgo : ∀ (D : List Cm), (∀ t, t ∈ nodes a s.D → t ∈ nodes a D) → ((i : Int) ≠ but → 0 < roomR fs x i at' → toR fs i at' ∈ nodes a D) → DoneR fs x but a D at' (i + 1) := fun D hd hD' j hj h1 h2 => by
      rcases Nat.lt_succ_iff_lt_or_eq.1 hj with hj | rfl
      · exact hd _ (hD j hj h1 h2)
      · exact hD' h1 h2
    have stay : ((i : Int) ≠ but → 0 < roomR fs x i at' → toR fs i at' ∈ nodes a s.D) → (i + 1 ≤ fs.length ∧ PInv lo T fs x but a s ∧ FRel a s0 s ∧ DoneR fs x but a s.D at' (i + 1)) := fun h => ⟨hic, hI, hR, hgo s.D (fun _ h => h) h⟩
    have hx2 : ∀ {c : Nat × ABlk}, RowI (c :: pS T v b14 b6 F s) xv x := fun {c} => hx.cons.cons.cons.cons
    have mby : ∀ {c : Nat × ABlk}, (b14, ABlk.cells (ints s.S) true) ∈ c :: pS T v b14 b6 F s := fun {c} => List.mem_cons_of_mem _ (List.mem_cons_of_mem _ (List.mem_cons_self ..))
    by_cases hbt : (i : Int) = but
    · (repeat' (first | (first | refine Wo.nil ?_ | refine Wd.nil ?_ | ((first | refine Wo.cons ?_ | refine Wd.cons ?_); (try refine W1.go rfl rfl ?_); ((first | refine k1 ?_ | refine k2 ?_ | (refine isDst 54 ?_; refine W1.load1 rfl mb6 rfl ?_) | (refine isDst 55 ?_; refine W1.lenZ hfrow rfl ?_) | (refine isDst 56 ?_; refine W1.cO ?_) | (refine isDst 60 ?_; refine W1.load1 rfl mb6 rfl ?_) | (refine isDst 62 ?_; refine W1.iaddrF i hfrow rfl rfl rfl hic (fun b o la own hm h0 h1 h2 h3 h4 h5 => ?_)) | (refine isDst 63 ?_; refine W1.load rfl hm h4 ?_) | (refine isDst 18 ?_; refine W1.alloc (fun b18 hb18 => ?_)) | (refine isDst 66 ?_; refine W1.cO ?_) | (refine isDst 70 ?_; refine W1.cO ?_) | (refine isDst 75 ?_; refine W1.iaddrz ta rfl rfl hta (by omega) ?_) | (refine isDst 76 ?_; refine W1.loadI (j := ta) (xs := s.S) rfl (by omega) mby (by omega) ?_) | (refine isDst 77 ?_; refine W1.cO ?_) | (refine isDst 82 ?_; refine W1.iaddrI hx2 rfl rfl hxl (fun b o l' own hm h1 => ?_)) | (refine isDst 83 ?_; refine W1.load1 rfl hm h1 ?_) | (refine isDst 87 ?_; refine W1.cO ?_) | (refine isDst 103 ?_; refine W1.cO ?_) | (refine isDst 108 ?_; refine W1.iaddrz fa rfl rfl hfa (by omega) ?_) | (refine isDst 109 ?_; refine W1.loadI (j := fa) (xs := s.S) rfl (by omega) mby (by omega) ?_) | (refine isDst 110 ?_; refine W1.cO ?_) | (refine isDst 115 ?_; refine W1.iaddrI hx2 rfl rfl hxl (fun b o l' own hm h1 => ?_)) | (refine isDst 116 ?_; refine W1.load1 rfl hm h1 ?_) | (refine isDst 120 ?_; refine W1.cO ?_) | refine W1.auto ?_) <;> (try refine ⟨fun _ => rfl, ?_⟩)))) | (first | refine Ws.seq ?_ | refine Ws.region ?_ | refine Ws.draw (fun bd hbd => ?_) | refine Ws.cond rfl ?_ | refine Ws.skip ?_ | refine Ws.scope ?_ | refine Ws.block ?_ | refine Ws.exit ?_ | refine Ws.ret ?_)))
      refine ⟨(i + 1, s), ⟨rfl, rfl, rfl, rfl, rfl, rfl, rfl, rfl, rfl, rfl, trivial⟩, inS, stay ?_, by show _ - (i + 1) < _ - i; omega⟩
      exact fun h => absurd hbt h
    by_cases h1 : (gF fs i).f = at'
    · have h2 : ¬ (gF fs i).t = at' := fun h => hu.2.2.2.2.1 (h1.trans h.symm)
      have htoR : toR fs i at' = (ta : Nat) := by unfold toR; rw [if_pos h1]; exact hta
      have hrm : roomR fs x i at' = (gF fs i).hi - x.getD i 0 := by unfold roomR; rw [if_pos h1]
      by_cases hs : s.S.getD ta 0 = 0
      · by_cases hxx : x.getD i 0 < (gF fs i).hi
        · have hmr := fun v' b' (hb' : lo ≤ b') hq' => hI.more (v' := v') (b' := b') (z := (i : Int) + 1) hN hic hbt (hR.d _ hat) hatT (by rw [hrm]; omega) htoR (by omega) hs hq' hb' (by rw [if_pos h1])
          (repeat' (first | (first | refine Wo.nil ?_ | refine Wd.nil ?_ | ((first | refine Wo.cons ?_ | refine Wd.cons ?_); (try refine W1.go rfl rfl ?_); ((first | refine k1 ?_ | refine k2 ?_ | (refine isDst 54 ?_; refine W1.load1 rfl mb6 rfl ?_) | (refine isDst 55 ?_; refine W1.lenZ hfrow rfl ?_) | (refine isDst 56 ?_; refine W1.cO ?_) | (refine isDst 60 ?_; refine W1.load1 rfl mb6 rfl ?_) | (refine isDst 62 ?_; refine W1.iaddrF i hfrow rfl rfl rfl hic (fun b o la own hm h0 h1 h2 h3 h4 h5 => ?_)) | (refine isDst 63 ?_; refine W1.load rfl hm h4 ?_) | (refine isDst 18 ?_; refine W1.alloc (fun b18 hb18 => ?_)) | (refine isDst 66 ?_; refine W1.cO ?_) | (refine isDst 70 ?_; refine W1.cO ?_) | (refine isDst 75 ?_; refine W1.iaddrz ta rfl rfl hta (by omega) ?_) | (refine isDst 76 ?_; refine W1.loadI (j := ta) (xs := s.S) rfl (by omega) mby (by omega) ?_) | (refine isDst 77 ?_; refine W1.cO ?_) | (refine isDst 82 ?_; refine W1.iaddrI hx2 rfl rfl hxl (fun b o l' own hm h1 => ?_)) | (refine isDst 83 ?_; refine W1.load1 rfl hm h1 ?_) | (refine isDst 87 ?_; refine W1.cO ?_) | (refine isDst 94 ?_; refine W1.iaddrz ta rfl rfl hta (by omega) ?_) | (refine isTo 94 ?_; refine W1.storeI (xs := s.S) (j := ta) rfl (by omega) rfl (.tail (.tail .head)) (by omega) hb14 ?_) | (refine isDst 98 ?_; refine W1.bslice (l := [.int .i64 (gF fs i).t]) (fill_all (catF1 rfl rfl catF0) rfl) (fun b98 hb98 => ?_); rw [hta]) | (refine isDst 99 ?_; refine hq.app (F1 := [_, _]) hqb rfl rfl rfl (List.mem_cons_self ..) (by omega) (fun v' b' hb' hq' => ?_); simp only [List.cons_append, List.nil_append]) | (refine isDst 103 ?_; refine W1.cO ?_) | refine W1.auto ?_) <;> (try refine ⟨fun _ => rfl, ?_⟩)))) | (first | refine Ws.seq ?_ | refine Ws.region ?_ | refine Ws.draw (fun bd hbd => ?_) | refine Ws.cond rfl ?_ | refine Ws.skip ?_ | refine Ws.scope ?_ | refine Ws.block ?_ | refine Ws.exit ?_ | refine Ws.ret ?_)))
          obtain ⟨m1, m2⟩ := hmr v' b' hb' hq'
          refine ⟨(i + 1, ⟨((ta : Nat), i, at') :: s.D, [], 0, v', b', 0, ints (s.Q ++ [((ta : Nat) : Int)]), s.Q ++ [((ta : Nat) : Int)], s.S.set ta ((i : Int) + 1)⟩), ⟨rfl, rfl, rfl, rfl, rfl, rfl, rfl, rfl, rfl, rfl, trivial⟩, ?_, ⟨hic, m1, hR.trans m2, hgo _ m2.d fun _ _ => by rw [htoR]; exact nodes_cons.2 (.inl rfl)⟩, by show _ - (i + 1) < _ - i; omega⟩
          exact .cons_cons _ (.cons _ (.cons _ (List.Sublist.refl _)))
        · (repeat' (first | (first | refine Wo.nil ?_ | refine Wd.nil ?_ | ((first | refine Wo.cons ?_ | refine Wd.cons ?_); (try refine W1.go rfl rfl ?_); ((first | refine k1 ?_ | refine k2 ?_ | (refine isDst 54 ?_; refine W1.load1 rfl mb6 rfl ?_) | (refine isDst 55 ?_; refine W1.lenZ hfrow rfl ?_) | (refine isDst 56 ?_; refine W1.cO ?_) | (refine isDst 60 ?_; refine W1.load1 rfl mb6 rfl ?_) | (refine isDst 62 ?_; refine W1.iaddrF i hfrow rfl rfl rfl hic (fun b o la own hm h0 h1 h2 h3 h4 h5 => ?_)) | (refine isDst 63 ?_; refine W1.load rfl hm h4 ?_) | (refine isDst 18 ?_; refine W1.alloc (fun b18 hb18 => ?_)) | (refine isDst 66 ?_; refine W1.cO ?_) | (refine isDst 70 ?_; refine W1.cO ?_) | (refine isDst 75 ?_; refine W1.iaddrz ta rfl rfl hta (by omega) ?_) | (refine isDst 76 ?_; refine W1.loadI (j := ta) (xs := s.S) rfl (by omega) mby (by omega) ?_) | (refine isDst 77 ?_; refine W1.cO ?_) | (refine isDst 82 ?_; refine W1.iaddrI hx2 rfl rfl hxl (fun b o l' own hm h1 => ?_)) | (refine isDst 83 ?_; refine W1.load1 rfl hm h1 ?_) | (refine isDst 87 ?_; refine W1.cO ?_) | (refine isDst 94 ?_; refine W1.iaddrz ta rfl rfl hta (by omega) ?_) | (refine isTo 94 ?_; refine W1.storeI (xs := s.S) (j := ta) rfl (by omega) rfl (.tail (.tail .head)) (by omega) hb14 ?_) | (refine isDst 98 ?_; refine W1.bslice (l := [.int .i64 (gF fs i).t]) (fill_all (catF1 rfl rfl catF0) rfl) (fun b98 hb98 => ?_); rw [hta]) | (refine isDst 99 ?_; refine hq.app (F1 := [_, _]) hqb rfl rfl rfl (List.mem_cons_self ..) (by omega) (fun v' b' hb' hq' => ?_); simp only [List.cons_append, List.nil_append]) | (refine isDst 103 ?_; refine W1.cO ?_) | refine W1.auto ?_) <;> (try refine ⟨fun _ => rfl, ?_⟩)))) | (first | refine Ws.seq ?_ | refine Ws.region ?_ | refine Ws.draw (fun bd hbd => ?_) | refine Ws.cond rfl ?_ | refine Ws.skip ?_ | refine Ws.scope ?_ | refine Ws.block ?_ | refine Ws.exit ?_ | refine Ws.ret ?_)))
          refine ⟨(i + 1, s), ⟨rfl, rfl, rfl, rfl, rfl, rfl, rfl, rfl, rfl, rfl, trivial⟩, inS, stay ?_, by show _ - (i + 1) < _ - i; omega⟩
          exact fun _ h => absurd h (by rw [hrm]; omega)
      · (repeat' (first | (first | refine Wo.nil ?_ | refine Wd.nil ?_ | ((first | refine Wo.cons ?_ | refine Wd.cons ?_); (try refine W1.go rfl rfl ?_); ((first | refine k1 ?_ | refine k2 ?_ | (refine isDst 54 ?_; refine W1.load1 rfl mb6 rfl ?_) | (refine isDst 55 ?_; refine W1.lenZ hfrow rfl ?_) | (refine isDst 56 ?_; refine W1.cO ?_) | (refine isDst 60 ?_; refine W1.load1 rfl mb6 rfl ?_) | (refine isDst 62 ?_; refine W1.iaddrF i hfrow rfl rfl rfl hic (fun b o la own hm h0 h1 h2 h3 h4 h5 => ?_)) | (refine isDst 63 ?_; refine W1.load rfl hm h4 ?_) | (refine isDst 18 ?_; refine W1.alloc (fun b18 hb18 => ?_)) | (refine isDst 66 ?_; refine W1.cO ?_) | (refine isDst 70 ?_; refine W1.cO ?_) | (refine isDst 75 ?_; refine W1.iaddrz ta rfl rfl hta (by omega) ?_) | (refine isDst 76 ?_; refine W1.loadI (j := ta) (xs := s.S) rfl (by omega) mby (by omega) ?_) | (refine isDst 77 ?_; refine W1.cO ?_) | (refine isDst 82 ?_; refine W1.iaddrI hx2 rfl rfl hxl (fun b o l' own hm h1 => ?_)) | (refine isDst 83 ?_; refine W1.load1 rfl hm h1 ?_) | (refine isDst 87 ?_; refine W1.cO ?_) | (refine isDst 94 ?_; refine W1.iaddrz ta rfl rfl hta (by omega) ?_) | (refine isTo 94 ?_; refine W1.storeI (xs := s.S) (j := ta) rfl (by omega) rfl (.tail (.tail .head)) (by omega) hb14 ?_) | (refine isDst 98 ?_; refine W1.bslice (l := [.int .i64 (gF fs i).t]) (fill_all (catF1 rfl rfl catF0) rfl) (fun b98 hb98 => ?_); rw [hta]) | (refine isDst 99 ?_; refine hq.app (F1 := [_, _]) hqb rfl rfl rfl (List.mem_cons_self ..) (by omega) (fun v' b' hb' hq' => ?_); simp only [List.cons_append, List.nil_append]) | (refine isDst 103 ?_; refine W1.cO ?_) | refine W1.auto ?_) <;> (try refine ⟨fun _ => rfl, ?_⟩)))) | (first | refine Ws.seq ?_ | refine Ws.region ?_ | refine Ws.draw (fun bd hbd => ?_) | refine Ws.cond rfl ?_ | refine Ws.skip ?_ | refine Ws.scope ?_ | refine Ws.block ?_ | refine Ws.exit ?_ | refine Ws.ret ?_)))
        refine ⟨(i + 1, s), ⟨rfl, rfl, rfl, rfl, rfl, rfl, rfl, rfl, rfl, rfl, trivial⟩, inS, stay ?_, by show _ - (i + 1) < _ - i; omega⟩
        exact fun _ _ => by rw [htoR]; exact Decidable.byContradiction fun h => hs (by rw [hI.bv ta (by omega)]; exact byV_zero.2 h)
    by_cases h2 : (gF fs i).t = at'
    · have htoR : toR fs i at' = (fa : Nat) := by unfold toR; rw [if_neg h1, if_pos h2]; exact hfa
      have hrm : roomR fs x i at' = x.getD i 0 - (gF fs i).lo := by unfold roomR; rw [if_neg h1, if_pos h2]
      by_cases hs : s.S.getD fa 0 = 0
      · by_cases hxx : (gF fs i).lo < x.getD i 0
        · have hmr := fun v' b' (hb' : lo ≤ b') hq' => hI.more (v' := v') (b' := b') (z := -(i : Int) - 1) hN hic hbt (hR.d _ hat) hatT (by rw [hrm]; omega) htoR (by omega) hs hq' hb' (by rw [if_neg h1]; omega)
          (repeat' (first | (first | refine Wo.nil ?_ | refine Wd.nil ?_ | ((first | refine Wo.cons ?_ | refine Wd.cons ?_); (try refine W1.go rfl rfl ?_); ((first | refine k1 ?_ | refine k2 ?_ | (refine isDst 54 ?_; refine W1.load1 rfl mb6 rfl ?_) | (refine isDst 55 ?_; refine W1.lenZ hfrow rfl ?_) | (refine isDst 56 ?_; refine W1.cO ?_) | (refine isDst 60 ?_; refine W1.load1 rfl mb6 rfl ?_) | (refine isDst 62 ?_; refine W1.iaddrF i hfrow rfl rfl rfl hic (fun b o la own hm h0 h1 h2 h3 h4 h5 => ?_)) | (refine isDst 63 ?_; refine W1.load rfl hm h4 ?_) | (refine isDst 18 ?_; refine W1.alloc (fun b18 hb18 => ?_)) | (refine isDst 66 ?_; refine W1.cO ?_) | (refine isDst 70 ?_; refine W1.cO ?_) | (refine isDst 103 ?_; refine W1.cO ?_) | (refine isDst 108 ?_; refine W1.iaddrz fa rfl rfl hfa (by omega) ?_) | (refine isDst 109 ?_; refine W1.loadI (j := fa) (xs := s.S) rfl (by omega) mby (by omega) ?_) | (refine isDst 110 ?_; refine W1.cO ?_) | (refine isDst 115 ?_; refine W1.iaddrI hx2 rfl rfl hxl (fun b o l' own hm h1 => ?_)) | (refine isDst 116 ?_; refine W1.load1 rfl hm h1 ?_) | (refine isDst 120 ?_; refine W1.cO ?_) | (refine isDst 128 ?_; refine W1.iaddrz fa rfl rfl hfa (by omega) ?_) | (refine isTo 128 ?_; refine W1.storeI (xs := s.S) (j := fa) rfl (by omega) rfl (.tail (.tail .head)) (by omega) hb14 ?_) | (refine isDst 132 ?_; refine W1.bslice (l := [.int .i64 (gF fs i).f]) (fill_all (catF1 rfl rfl catF0) rfl) (fun b98 hb98 => ?_); rw [hfa]) | (refine isDst 133 ?_; refine hq.app (F1 := [_, _]) hqb rfl rfl rfl (List.mem_cons_self ..) (by omega) (fun v' b' hb' hq' => ?_); simp only [List.cons_append, List.nil_append]) | refine W1.auto ?_) <;> (try refine ⟨fun _ => rfl, ?_⟩)))) | (first | refine Ws.seq ?_ | refine Ws.region ?_ | refine Ws.draw (fun bd hbd => ?_) | refine Ws.cond rfl ?_ | refine Ws.skip ?_ | refine Ws.scope ?_ | refine Ws.block ?_ | refine Ws.exit ?_ | refine Ws.ret ?_)))
          obtain ⟨m1, m2⟩ := hmr v' b' hb' hq'
          refine ⟨(i + 1, ⟨((fa : Nat), i, at') :: s.D, [], 0, v', b', 0, ints (s.Q ++ [((fa : Nat) : Int)]), s.Q ++ [((fa : Nat) : Int)], s.S.set fa (-(i : Int) - 1)⟩), ⟨rfl, rfl, rfl, rfl, rfl, rfl, rfl, rfl, rfl, rfl, trivial⟩, ?_, ⟨hic, m1, hR.trans m2, hgo _ m2.d fun _ _ => by rw [htoR]; exact nodes_cons.2 (.inl rfl)⟩, by show _ - (i + 1) < _ - i; omega⟩
          exact .cons_cons _ (.cons _ (.cons _ (List.Sublist.refl _)))
        · (repeat' (first | (first | refine Wo.nil ?_ | refine Wd.nil ?_ | ((first | refine Wo.cons ?_ | refine Wd.cons ?_); (try refine W1.go rfl rfl ?_); ((first | refine k1 ?_ | refine k2 ?_ | (refine isDst 54 ?_; refine W1.load1 rfl mb6 rfl ?_) | (refine isDst 55 ?_; refine W1.lenZ hfrow rfl ?_) | (refine isDst 56 ?_; refine W1.cO ?_) | (refine isDst 60 ?_; refine W1.load1 rfl mb6 rfl ?_) | (refine isDst 62 ?_; refine W1.iaddrF i hfrow rfl rfl rfl hic (fun b o la own hm h0 h1 h2 h3 h4 h5 => ?_)) | (refine isDst 63 ?_; refine W1.load rfl hm h4 ?_) | (refine isDst 18 ?_; refine W1.alloc (fun b18 hb18 => ?_)) | (refine isDst 66 ?_; refine W1.cO ?_) | (refine isDst 70 ?_; refine W1.cO ?_) | (refine isDst 103 ?_; refine W1.cO ?_) | (refine isDst 108 ?_; refine W1.iaddrz fa rfl rfl hfa (by omega) ?_) | (refine isDst 109 ?_; refine W1.loadI (j := fa) (xs := s.S) rfl (by omega) mby (by omega) ?_) | (refine isDst 110 ?_; refine W1.cO ?_) | (refine isDst 115 ?_; refine W1.iaddrI hx2 rfl rfl hxl (fun b o l' own hm h1 => ?_)) | (refine isDst 116 ?_; refine W1.load1 rfl hm h1 ?_) | (refine isDst 120 ?_; refine W1.cO ?_) | (refine isDst 128 ?_; refine W1.iaddrz fa rfl rfl hfa (by omega) ?_) | (refine isTo 128 ?_; refine W1.storeI (xs := s.S) (j := fa) rfl (by omega) rfl (.tail (.tail .head)) (by omega) hb14 ?_) | (refine isDst 132 ?_; refine W1.bslice (l := [.int .i64 (gF fs i).f]) (fill_all (catF1 rfl rfl catF0) rfl) (fun b98 hb98 => ?_); rw [hfa]) | (refine isDst 133 ?_; refine hq.app (F1 := [_, _]) hqb rfl rfl rfl (List.mem_cons_self ..) (by omega) (fun v' b' hb' hq' => ?_); simp only [List.cons_append, List.nil_append]) | refine W1.auto ?_) <;> (try refine ⟨fun _ => rfl, ?_⟩)))) | (first | refine Ws.seq ?_ | refine Ws.region ?_ | refine Ws.draw (fun bd hbd => ?_) | refine Ws.cond rfl ?_ | refine Ws.skip ?_ | refine Ws.scope ?_ | refine Ws.block ?_ | refine Ws.exit ?_ | refine Ws.ret ?_)))
          refine ⟨(i + 1, s), ⟨rfl, rfl, rfl, rfl, rfl, rfl, rfl, rfl, rfl, rfl, trivial⟩, inS, stay ?_, by show _ - (i + 1) < _ - i; omega⟩
          exact fun _ h => absurd h (by rw [hrm]; omega)
      · (repeat' (first | (first | refine Wo.nil ?_ | refine Wd.nil ?_ | ((first | refine Wo.cons ?_ | refine Wd.cons ?_); (try refine W1.go rfl rfl ?_); ((first | refine k1 ?_ | refine k2 ?_ | (refine isDst 54 ?_; refine W1.load1 rfl mb6 rfl ?_) | (refine isDst 55 ?_; refine W1.lenZ hfrow rfl ?_) | (refine isDst 56 ?_; refine W1.cO ?_) | (refine isDst 60 ?_; refine W1.load1 rfl mb6 rfl ?_) | (refine isDst 62 ?_; refine W1.iaddrF i hfrow rfl rfl rfl hic (fun b o la own hm h0 h1 h2 h3 h4 h5 => ?_)) | (refine isDst 63 ?_; refine W1.load rfl hm h4 ?_) | (refine isDst 18 ?_; refine W1.alloc (fun b18 hb18 => ?_)) | (refine isDst 66 ?_; refine W1.cO ?_) | (refine isDst 70 ?_; refine W1.cO ?_) | (refine isDst 103 ?_; refine W1.cO ?_) | (refine isDst 108 ?_; refine W1.iaddrz fa rfl rfl hfa (by omega) ?_) | (refine isDst 109 ?_; refine W1.loadI (j := fa) (xs := s.S) rfl (by omega) mby (by omega) ?_) | (refine isDst 110 ?_; refine W1.cO ?_) | (refine isDst 115 ?_; refine W1.iaddrI hx2 rfl rfl hxl (fun b o l' own hm h1 => ?_)) | (refine isDst 116 ?_; refine W1.load1 rfl hm h1 ?_) | (refine isDst 120 ?_; refine W1.cO ?_) | (refine isDst 128 ?_; refine W1.iaddrz fa rfl rfl hfa (by omega) ?_) | (refine isTo 128 ?_; refine W1.storeI (xs := s.S) (j := fa) rfl (by omega) rfl (.tail (.tail .head)) (by omega) hb14 ?_) | (refine isDst 132 ?_; refine W1.bslice (l := [.int .i64 (gF fs i).f]) (fill_all (catF1 rfl rfl catF0) rfl) (fun b98 hb98 => ?_); rw [hfa]) | (refine isDst 133 ?_; refine hq.app (F1 := [_, _]) hqb rfl rfl rfl (List.mem_cons_self ..) (by omega) (fun v' b' hb' hq' => ?_); simp only [List.cons_append, List.nil_append]) | refine W1.auto ?_) <;> (try refine ⟨fun _ => rfl, ?_⟩)))) | (first | refine Ws.seq ?_ | refine Ws.region ?_ | refine Ws.draw (fun bd hbd => ?_) | refine Ws.cond rfl ?_ | refine Ws.skip ?_ | refine Ws.scope ?_ | refine Ws.block ?_ | refine Ws.exit ?_ | refine Ws.ret ?_)))
        refine ⟨(i + 1, s), ⟨rfl, rfl, rfl, rfl, rfl, rfl, rfl, rfl, rfl, rfl, trivial⟩, inS, stay ?_, by show _ - (i + 1) < _ - i; omega⟩
        exact fun _ _ => by rw [htoR]; exact Decidable.byContradiction fun h => hs (by rw [hI.bv fa (by omega)]; exact byV_zero.2 h)
    · have hrm : roomR fs x i at' = 0 := by unfold roomR; rw [if_neg h1, if_neg h2]
      (repeat' (first | (first | refine Wo.nil ?_ | refine Wd.nil ?_ | ((first | refine Wo.cons ?_ | refine Wd.cons ?_); (try refine W1.go rfl rfl ?_); ((first | refine k1 ?_ | refine k2 ?_ | (refine isDst 54 ?_; refine W1.load1 rfl mb6 rfl ?_) | (refine isDst 55 ?_; refine W1.lenZ hfrow rfl ?_) | (refine isDst 56 ?_; refine W1.cO ?_) | (refine isDst 60 ?_; refine W1.load1 rfl mb6 rfl ?_) | (refine isDst 62 ?_; refine W1.iaddrF i hfrow rfl rfl rfl hic (fun b o la own hm h0 h1 h2 h3 h4 h5 => ?_)) | (refine isDst 63 ?_; refine W1.load rfl hm h4 ?_) | (refine isDst 18 ?_; refine W1.alloc (fun b18 hb18 => ?_)) | (refine isDst 66 ?_; refine W1.cO ?_) | (refine isDst 70 ?_; refine W1.cO ?_) | (refine isDst 103 ?_; refine W1.cO ?_) | refine W1.auto ?_) <;> (try refine ⟨fun _ => rfl, ?_⟩)))) | (first | refine Ws.seq ?_ | refine Ws.region ?_ | refine Ws.draw (fun bd hbd => ?_) | refine Ws.cond rfl ?_ | refine Ws.skip ?_ | refine Ws.scope ?_ | refine Ws.block ?_ | refine Ws.exit ?_ | refine Ws.ret ?_)))
      refine ⟨(i + 1, s), ⟨rfl, rfl, rfl, rfl, rfl, rfl, rfl, rfl, rfl, rfl, trivial⟩, inS, stay ?_, by show _ - (i + 1) < _ - i; omega⟩
      exact fun _ h => absurd h (by rw [hrm]; omega)
  · obtain rfl : i = fs.length := by omega
    (repeat' (first | (first | refine Wo.nil ?_ | refine Wd.nil ?_ | ((first | refine Wo.cons ?_ | refine Wd.cons ?_); (try refine W1.go rfl rfl ?_); ((first | refine k1 ?_ | refine k2 ?_ | (refine isDst 54 ?_; refine W1.load1 rfl mb6 rfl ?_) | (refine isDst 55 ?_; refine W1.lenZ hfrow rfl ?_) | (refine isDst 56 ?_; refine W1.cO ?_) | refine W1.auto ?_) <;> (try refine ⟨fun _ => rfl, ?_⟩)))) | (first | refine Ws.seq ?_ | refine Ws.region ?_ | refine Ws.draw (fun bd hbd => ?_) | refine Ws.cond rfl ?_ | refine Ws.skip ?_ | refine Ws.scope ?_ | refine Ws.block ?_ | refine Ws.exit ?_ | refine Ws.ret ?_)))
    exact ⟨_, List.Sublist.refl _, rfl, s, hI, hR, hD, ⟨rfl, rfl, rfl, rfl, rfl, rfl, rfl, rfl, trivial⟩, rfl⟩
end Go.Ax
