/-
  Contracts: the reference's way: what is sent, and the whole.
-/
import Derived.Test.YtjcehnfhkgbpiaaXRH
namespace Go.Ax
set_option maxHeartbeats 1000000
set_option maxRecDepth 6000
set_option linter.unusedSimpArgs false
set_option linter.unusedVariables false
attribute [-simp] List.getD_eq_getElem?_getD
variable {lo : Nat} {F : Hp}
theorem f58_send {T : Int} {fs : List Fl} {x BY : List Int} {but a m : Int} {bb : Nat} {D : List Cm} {v : AV} {b14 b6 b22 : Nat} {B : FE} (hN : Net T fs) (hr : FRow F v fs) (hxr : inRg fs x) (haT : 0 ≤ a ∧ a ≤ T) (hbl : BY.length = T.toNat + 1) (hbv : ∀ t : Nat, t < T.toNat + 1 → BY.getD t 0 = byV fs a D (t : Nat)) (hD : Tr T fs x but a D) (hbn : ((bb : Nat) : Int) ∈ nodes a D) (hb22 : lo ≤ b22) (hm0 : 0 ≤ m) (hm1 : m ≤ 100000000) (hrm : ∀ h ∈ wayT D (bb : Nat), m ≤ roomR fs x h.1 h.2) :
    Ws tblW lo none (af58.body.loopAt 3) (upds B ((23, .int .i64 (bb : Nat)) :: [(2, .int .i64 a), (5, .int .i64 m), (6, .ptr (some (b6, 0))), (14, (AV.slc (some (b14, 0)) (T.toNat + 1) (T.toNat + 1) true 1)), (22, (AV.slc (some (b22, 0)) fs.length fs.length false 1))])) ((b22, .cells (ints x) true) :: ((b14, ABlk.cells (ints BY) true) :: (b6, .cells [.int .i64 T, v] true) :: F))
      fun r E' H => r = .exit 6 ∧ Holds E' [(5, .int .i64 m), (22, (AV.slc (some (b22, 0)) fs.length fs.length false 1))] ∧ H = (b22, .cells (ints (pushW fs m x (wayT D (bb : Nat)))) true) :: ((b14, ABlk.cells (ints BY) true) :: (b6, .cells [.int .i64 T, v] true) :: F) := by
  show Ws tblW lo none (.loop _) _ _ _
  refine Ws.shrink ?_
  have hn := hN.n
  have hT := hN.t
  have hnd := hD.nodup hN.ne (e := (bb : Nat))
  have hhops := hD.hops (e := (bb : Nat))
  refine Ws.loopG (X := WS) (fun s => (23, .int .i64 s.at') :: [(2, .int .i64 a), (5, .int .i64 m), (6, .ptr (some (b6, 0))), (14, (AV.slc (some (b14, 0)) (T.toNat + 1) (T.toNat + 1) true 1)), (22, (AV.slc (some (b22, 0)) fs.length fs.length false 1))]) (fun s => (b22, .cells (ints (pushW fs m x s.W)) true) :: ((b14, ABlk.cells (ints BY) true) :: (b6, .cells [.int .i64 T, v] true) :: F)) (fun s => WInv T fs x but a D (bb : Nat) s.at' s.W s.D') (fun s => s.D'.length) ⟨(bb : Nat), [], m, D⟩ ⟨rfl, rfl, rfl, rfl, rfl, rfl, trivial⟩ (List.Sublist.refl _) ⟨hD, hbn, rfl, fun _ _ => rfl⟩ ?_
  rintro ⟨at', W, m', D'⟩ B2 hI
  dsimp only at hI ⊢
  by_cases hne : at' = a
  · have hwe : wayT D (bb : Nat) = W := by rw [hI.w, hne, wayT_root hI.tr, List.append_nil]
    (repeat' (first | (first | refine Wo.nil ?_ | refine Wd.nil ?_ | ((first | refine Wo.cons ?_ | refine Wd.cons ?_); (try refine W1.go rfl rfl ?_); ((first | refine k1 ?_ | refine k2 ?_ | (refine isDst 212 ?_; refine W1.cO ?_) | refine W1.auto ?_) <;> (try refine ⟨fun _ => rfl, ?_⟩)))) | (first | refine Ws.seq ?_ | refine Ws.region ?_ | refine Ws.draw (fun bd hbd => ?_) | refine Ws.cond rfl ?_ | refine Ws.skip ?_ | refine Ws.scope ?_ | refine Ws.block ?_ | refine Ws.exit ?_ | refine Ws.ret ?_)))
    exact ⟨_, List.Sublist.refl _, rfl, ⟨rfl, rfl, trivial⟩, by rw [hwe]⟩
  · obtain ⟨i, c, D2, q1, q2, q3, q4, q5⟩ := hI.step hne
    have hatT := hI.tr.node_range haT at' hI.hat
    obtain ⟨ta, rfl⟩ : ∃ ta : Nat, at' = (ta : Nat) := ⟨at'.toNat, by omega⟩
    have hby := hbv ta (by omega)
    rw [byV_split hne q2] at hby
    have hu := hN.u i q4
    have hX : inRg fs (pushW fs m x W) := by
      have hw := hI.w
      refine pushW_inRg hm0 hxr (fun h hh => ⟨(hhops h (by rw [hw]; exact List.mem_append_left _ hh)).1, hrm h (by rw [hw]; exact List.mem_append_left _ hh)⟩) ?_
      rw [hw, List.map_append] at hnd
      exact (List.nodup_append.1 hnd).1
    have hXi := hX.2 i q4
    have hXl : i < (pushW fs m x W).length := by rw [hX.1]; exact q4
    have htk : pushW fs m x (W ++ [((i, c) : Hop)]) = push1 fs m (pushW fs m x W) (i, c) := pushW_snoc
    generalize eX : pushW fs m x W = X at *
    have hfrow : ∀ {d : Nat × ABlk}, FRow (d :: ((b14, ABlk.cells (ints BY) true) :: (b6, .cells [.int .i64 T, v] true) :: F)) v fs := fun {d} => hr.cons.cons.cons
    have mby : ∀ {d : Nat × ABlk}, (b14, ABlk.cells (ints BY) true) ∈ d :: ((b14, ABlk.cells (ints BY) true) :: (b6, .cells [.int .i64 T, v] true) :: F) := fun {d} => List.mem_cons_of_mem _ (List.mem_cons_self ..)
    have mb6 : ∀ {d : Nat × ABlk}, (b6, ABlk.cells [.int .i64 T, v] true) ∈ d :: ((b14, ABlk.cells (ints BY) true) :: (b6, .cells [.int .i64 T, v] true) :: F) := fun {d} => List.mem_cons_of_mem _ (List.mem_cons_of_mem _ (List.mem_cons_self ..))
    by_cases hfb : (gF fs i).f = c
    · have hby' : BY.getD ta 0 = (i : Int) + 1 := by rw [hby, if_pos hfb]
      have hp1 : push1 fs m X (i, c) = X.set i (X.getD i 0 + m) := by unfold push1; rw [if_pos hfb]
      (repeat' (first | (first | refine Wo.nil ?_ | refine Wd.nil ?_ | ((first | refine Wo.cons ?_ | refine Wd.cons ?_); (try refine W1.go rfl rfl ?_); ((first | refine k1 ?_ | refine k2 ?_ | (refine isDst 212 ?_; refine W1.cO ?_) | (refine isDst 217 ?_; refine W1.cO ?_) | (refine isDst 215 ?_; refine W1.iaddrz ta rfl rfl rfl (by omega) ?_) | (refine isDst 216 ?_; refine W1.loadI (j := ta) (xs := BY) rfl (by omega) mby (by omega) ?_; rw [hby']) | (refine isDst 221 ?_; refine W1.iaddrz ta rfl rfl rfl (by omega) ?_) | (refine isDst 222 ?_; refine W1.loadI (j := ta) (xs := BY) rfl (by omega) mby (by omega) ?_; rw [hby']) | (refine isDst 224 ?_; refine W1.iaddrz i rfl rfl (by omega) q4 ?_) | (refine isDst 225 ?_; refine W1.loadI (j := i) (xs := X) rfl (by omega) (List.mem_cons_self ..) hXl ?_) | (refine isDst 228 ?_; refine W1.iaddrz i rfl rfl (by omega) q4 ?_) | (refine isTo 228 ?_; refine W1.storeI (xs := X) (j := i) rfl (by omega) rfl .head hXl hb22 ?_) | (refine isDst 230 ?_; refine W1.load1 rfl mb6 rfl ?_) | (refine isDst 233 ?_; refine W1.iaddrz ta rfl rfl rfl (by omega) ?_) | (refine isDst 234 ?_; refine W1.loadI (j := ta) (xs := BY) rfl (by omega) mby (by omega) ?_; rw [hby']) | (refine isDst 236 ?_; refine W1.iaddrF i hfrow rfl rfl (by omega) q4 (fun b o la own hm h0 h1 h2 h3 h4 h5 => ?_)) | (refine isDst 238 ?_; refine W1.load1 rfl hm h0 ?_) | refine W1.auto ?_) <;> (try refine ⟨fun _ => rfl, ?_⟩)))) | (first | refine Ws.seq ?_ | refine Ws.region ?_ | refine Ws.draw (fun bd hbd => ?_) | refine Ws.cond rfl ?_ | refine Ws.skip ?_ | refine Ws.scope ?_ | refine Ws.block ?_ | refine Ws.exit ?_ | refine Ws.ret ?_)))
      refine ⟨⟨c, W ++ [((i, c) : Hop)], m, D2⟩, ⟨by rw [← hfb]; rfl, rfl, rfl, rfl, rfl, rfl, trivial⟩, ?_, q1, q3⟩
      show List.Sublist ((b22, ABlk.cells (ints (pushW fs m x (W ++ [((i, c) : Hop)]))) true) :: _) _
      rw [htk, hp1]
      exact List.Sublist.refl _
    · have hby' : BY.getD ta 0 = -((i : Int) + 1) := by rw [hby, if_neg hfb]
      obtain ⟨he, _⟩ := room_end q5
      have htb : (gF fs i).t = c := by rcases he with h | h; exact absurd h hfb; exact h
      have hp1 : push1 fs m X (i, c) = X.set i (X.getD i 0 - m) := by unfold push1; rw [if_neg hfb]
      (repeat' (first | (first | refine Wo.nil ?_ | refine Wd.nil ?_ | ((first | refine Wo.cons ?_ | refine Wd.cons ?_); (try refine W1.go rfl rfl ?_); ((first | refine k1 ?_ | refine k2 ?_ | (refine isDst 212 ?_; refine W1.cO ?_) | (refine isDst 217 ?_; refine W1.cO ?_) | (refine isDst 215 ?_; refine W1.iaddrz ta rfl rfl rfl (by omega) ?_) | (refine isDst 216 ?_; refine W1.loadI (j := ta) (xs := BY) rfl (by omega) mby (by omega) ?_; rw [hby']) | (refine isDst 242 ?_; refine W1.iaddrz ta rfl rfl rfl (by omega) ?_) | (refine isDst 243 ?_; refine W1.loadI (j := ta) (xs := BY) rfl (by omega) mby (by omega) ?_; rw [hby']) | (refine isDst 246 ?_; refine W1.iaddrz i rfl rfl (by omega) q4 ?_) | (refine isDst 247 ?_; refine W1.loadI (j := i) (xs := X) rfl (by omega) (List.mem_cons_self ..) hXl ?_) | (refine isDst 250 ?_; refine W1.iaddrz i rfl rfl (by omega) q4 ?_) | (refine isTo 250 ?_; refine W1.storeI (xs := X) (j := i) rfl (by omega) rfl .head hXl hb22 ?_) | (refine isDst 252 ?_; refine W1.load1 rfl mb6 rfl ?_) | (refine isDst 255 ?_; refine W1.iaddrz ta rfl rfl rfl (by omega) ?_) | (refine isDst 256 ?_; refine W1.loadI (j := ta) (xs := BY) rfl (by omega) mby (by omega) ?_; rw [hby']) | (refine isDst 259 ?_; refine W1.iaddrF i hfrow rfl rfl (by omega) q4 (fun b o la own hm h0 h1 h2 h3 h4 h5 => ?_)) | (refine isDst 261 ?_; refine W1.load1 rfl hm h1 ?_) | refine W1.auto ?_) <;> (try refine ⟨fun _ => rfl, ?_⟩)))) | (first | refine Ws.seq ?_ | refine Ws.region ?_ | refine Ws.draw (fun bd hbd => ?_) | refine Ws.cond rfl ?_ | refine Ws.skip ?_ | refine Ws.scope ?_ | refine Ws.block ?_ | refine Ws.exit ?_ | refine Ws.ret ?_)))
      refine ⟨⟨c, W ++ [((i, c) : Hop)], m, D2⟩, ⟨by rw [← htb]; rfl, rfl, rfl, rfl, rfl, rfl, trivial⟩, ?_, q1, q3⟩
      show List.Sublist ((b22, ABlk.cells (ints (pushW fs m x (W ++ [((i, c) : Hop)]))) true) :: _) _
      rw [htk, hp1]
      exact List.Sublist.refl _
end Go.Ax
