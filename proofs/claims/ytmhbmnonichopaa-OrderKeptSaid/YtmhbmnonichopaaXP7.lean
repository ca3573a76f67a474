/-
  The law OrderKept: the least and the most sales of all days.
-/
import Derived.Test.YtmhbmnonichopaaXW4
import Derived.Test.YtmhbmnonichopaaXM3
namespace Go.Ax
set_option maxHeartbeats 1000000
set_option maxRecDepth 6000
set_option linter.unusedSimpArgs false
set_option linter.unusedVariables false
variable {lo : Nat} {F : Hp}
theorem okP_n (c : Cls) : okP c .n = true ∧ okP .n c = true := ⟨by cases c <;> rfl, by cases c <;> rfl⟩
theorem okC_n {uno : List (Nat × Nat)} {cs : List Cls} {i : Nat} : okC uno cs i .n = true := by
  unfold okC
  rw [List.all_eq_true]
  rintro ⟨a, b⟩ _
  simp only [Bool.and_eq_true]
  refine ⟨?_, ?_⟩
  · cases Nat.beq a i with
    | false => rfl
    | true => cases cs[b]? with
      | none => rfl
      | some g => exact (okP_n g).2
  · cases Nat.beq b i with
    | false => rfl
    | true => cases cs[a]? with
      | none => rfl
      | some g => exact (okP_n g).1
theorem nC {uno : List (Nat × Nat)} {cs : List Cls} {i : Nat} {P Q : Prop} (h : Q) : (P → okC uno cs i .n = true) ∧ Q := ⟨fun _ => okC_n, h⟩
theorem eq_of_getD {a b : List Int} (hl : a.length = b.length) (h : ∀ j, j < a.length → a.getD j 0 = b.getD j 0) : a = b := by
  refine List.ext_getElem hl fun j h1 h2 => ?_
  have := h j h1
  simpa [List.getD, List.getElem?_eq_getElem h1, List.getElem?_eq_getElem h2] using this
theorem ok91 {b4 bs b82 b91 bd : Nat} {lx : List Nat} {Fx Fx' Fy H : Hp} {y91 y82 : ABlk} (nd : (((b91, y91) :: (Fx' ++ (((b82, y82) :: Fy) ++ H))).map (·.1)).Nodup) (h4 : b4 < bd) (hs : bs < bd) (h82 : bd ≤ b82) (h91 : bd ≤ b91) (hFx : ∀ p ∈ Fx, p.1 < bd)
    (hl : ∀ b ∈ lx, (∃ p ∈ Fx, p.1 = b) ∨ b = b82 ∨ ∃ p ∈ Fx', p.1 = b) : ¬ b4 = b91 ∧ ¬ bs = b91 ∧ ¬ b82 = b91 ∧ ∀ x ∈ lx, ¬ x = b91 := by
  have hne := (List.nodup_cons.1 (show (b91 :: (Fx' ++ (((b82, y82) :: Fy) ++ H)).map (·.1)).Nodup from nd)).1
  have h3 : ¬ b82 = b91 := fun e => hne (List.mem_map.2 ⟨(b82, y82), List.mem_append_right _ (List.mem_cons_self ..), e⟩)
  refine ⟨by omega, by omega, h3, fun x hx he => ?_⟩
  rcases hl x hx with ⟨p, hp, hpe⟩ | rfl | ⟨p, hp, hpe⟩
  · have := hFx p hp; omega
  · exact h3 he
  · exact hne (List.mem_map.2 ⟨p, List.mem_append_left _ hp, hpe.trans he⟩)
theorem f7_lm {k : K} {sv cv bov zs tv : AV} {e start : Int} {b4 : Nat} {H : Hp} {B : FE} (hk : KVal H k sv cv) (hv : Vk k) (hm : (b4, .cells (kl k sv cv) true) ∈ H) :
    Ws tblW lo none (af7.body.loopAt 0) (upds B ((15, .slc none 0 0 true 0) :: (16, .slc none 0 0 true 0) :: (17, .int .i64 0) :: [(4, .ptr (some (b4, 0))), (9, bov), (11, .int .i64 e), (12, zs), (13, .int .i64 start), (14, tv)])) H
      fun r E' G => r = .exit 0 ∧ ∃ xv yv Fx Fy, Holds E' ((15, xv) :: (16, yv) :: [(4, .ptr (some (b4, 0))), (9, bov), (11, .int .i64 e), (12, zs), (13, .int .i64 start), (14, tv)]) ∧ RowI G xv (leastS k) ∧ RowI G yv (mostS k) ∧ G = Fy ++ (Fx ++ H) := by
  show Ws tblW lo none (.loop _) _ _ _
  have h7 := hv.n2
  obtain ⟨⟨p, cap, ex, es, rfl, hj⟩, hkc, _, _⟩ := hk
  refine Ws.shrink ?_
  refine Ws.loopG (X := Nat × (AV × Hp × List Int) × (AV × Hp × List Int)) (fun p => (15, p.2.1.1) :: (16, p.2.2.1) :: (17, .int .i64 (p.1 : Nat)) :: [(4, .ptr (some (b4, 0))), (9, bov), (11, .int .i64 e), (12, zs), (13, .int .i64 start), (14, tv)]) (fun p => p.2.2.2.1 ++ (p.2.1.2.1 ++ H))
    (fun p => p.1 ≤ k.sales.length ∧ OwnI lo false p.2.1.1 p.2.1.2.1 p.2.1.2.2 ∧ OwnI lo false p.2.2.1 p.2.2.2.1 p.2.2.2.2 ∧ p.2.1.2.2.length = p.1 ∧ p.2.2.2.2.length = p.1 ∧ (∀ j, j < p.1 → p.2.1.2.2.getD j 0 = (k.sales.getD j (0, 0)).1) ∧ (∀ j, j < p.1 → p.2.2.2.2.getD j 0 = (k.sales.getD j (0, 0)).2))
    (fun p => k.sales.length - p.1) (0, (.slc none 0 0 true 0, [], []), (.slc none 0 0 true 0, [], [])) ⟨rfl, rfl, rfl, rfl, rfl, rfl, rfl, rfl, rfl, trivial⟩ (List.Sublist.refl _) ⟨Nat.zero_le _, .nil, .nil, rfl, rfl, fun j hj => absurd hj (Nat.not_lt_zero j), fun j hj => absurd hj (Nat.not_lt_zero j)⟩ ?_
  rintro ⟨i, ⟨xv, Fx, xs⟩, ⟨yv, Fy, ys⟩⟩ B2 ⟨hi, hox, hoy, hxl, hyl, hxs, hys⟩
  simp only at hi hox hoy hxl hyl hxs hys ⊢
  have hmc : (b4, ABlk.cells (kl k (.slc p k.sales.length cap ex es) cv) true) ∈ Fy ++ (Fx ++ H) := List.mem_append_right _ (List.mem_append_right _ hm)
  by_cases hid : i < k.sales.length
  · obtain ⟨bs, os, ls, osn, rfl, hms, h1, h2⟩ := hj i hid
    have hmsc : (bs, ABlk.cells ls osn) ∈ Fy ++ (Fx ++ H) := List.mem_append_right _ (List.mem_append_right _ hms)
    (repeat' (first | (first | refine Wo.nil ?_ | refine Wd.nil ?_ | ((first | refine Wo.cons ?_ | refine Wd.cons ?_); (try refine W1.go rfl rfl ?_); ((first | refine k1 ?_ | refine k2 ?_ | (refine isDst 77 ?_; refine W1.loadO rfl hmc rfl ?_) | (refine isDst 79 ?_; refine W1.iaddrz i rfl rfl rfl hid ?_) | (refine isDst 88 ?_; refine W1.iaddrz i rfl rfl rfl hid ?_) | (refine isDst 81 ?_; refine W1.loadO rfl hmsc h1 ?_) | (refine isDst 82 ?_; have hb4 := ltAll hbd hmc; have hbs := ltAll hbd hmsc; refine W1.bsliceO (l := [.int .i64 (k.sales.getD i (0, 0)).1]) (fill_all (catF1 rfl rfl catF0) rfl) (fun b82 hb82 hbd82 => ?_)) | (refine isDst 83 ?_; refine W1.appIO (F1 := (_, _) :: Fy) (by simp only [List.cons_append, List.nil_append, List.append_assoc]; rfl) hox rfl rfl (List.mem_cons_self ..) (by omega) (fun xv' Fx' lx hox' hlx1 hlx2 => ?_)) | (refine isDst 86 ?_; refine W1.loadO rfl (List.mem_append_right _ (List.mem_append_right _ hm)) rfl ?_; refine ⟨fun _ => by (have f1 : ¬ b82 = b4 := by omega); (have f2 : ∀ x ∈ lx, ¬ x = b4 := fun x hx he => by have := hlx1 x hx _ (List.mem_append_right _ hm) he.symm; omega); simp (decide := true) [okC, okP, apart_iff, f1]; exact f2, ?_⟩) | (refine isDst 90 ?_; refine W1.loadO rfl (List.mem_append_right _ (List.mem_append_right _ hms)) h2 ?_; refine ⟨fun _ => by (have f1 : ¬ b82 = bs := by omega); (have f2 : ∀ x ∈ lx, ¬ x = bs := fun x hx he => by have := hlx1 x hx _ (List.mem_append_right _ hms) he.symm; omega); simp (decide := true) [okC, okP, apart_iff, f1]; exact f2, ?_⟩) | (refine isDst 91 ?_; refine W1.bsliceO (l := [.int .i64 (k.sales.getD i (0, 0)).2]) (fill_all (catF1 rfl rfl catF0) rfl) (fun b91 hb91 hbd91 => ?_); refine ⟨fun nd => by obtain ⟨f1, f2, f3, f4⟩ := ok91 nd hb4 hbs hbd82 hbd91 (fun p hp => hbd p (List.mem_append_right _ (List.mem_append_left _ hp))) hlx2; simp (decide := true) [okC, okP, apart_iff, f1, f2, f3]; exact f4, ?_⟩) | (refine isDst 92 ?_; refine W1.appI (F1 := (_, _) :: (Fx' ++ [_])) (by simp only [List.cons_append, List.nil_append, List.append_assoc]; rfl) hoy rfl rfl (List.mem_cons_self ..) (by omega) (fun yv' Fy' hoy' => ?_)) | (refine isBinLss ?_; first | refine W1.lssT rfl rfl (by omega) ?_ | refine W1.lssF rfl rfl (by omega) ?_) | refine W1.auto ?_ | ((first | refine kA ?_ | refine kB ?_ | refine kC ?_ | refine kD ?_ | refine kE ?_ | refine kF ?_ | refine kG ?_); refine ⟨fun _ => ?_, fun _ => ?_⟩) | refine W1.alloc (fun _ _ => ?_) | refine W1.boxA rfl (fun _ _ => ?_) | refine kq (fun _ _ => ?_) | refine kp ?_ | (refine isIaddrs ?_; first | refine W1.iaddrI inI rfl rfl (by omega) (fun _ _ _ _ _ _ => ?_) | refine W1.iaddrR inR rfl rfl (by omega) (fun _ _ _ _ _ _ _ => ?_)) | (refine isBox ?_; refine W1.boxS inW (by rfl) (fun _ _ => ?_)) | (refine isBslice ?_; refine W1.bslice (fill_all inC rfl) (fun _ _ => ?_))) <;> (try (first | (with_reducible refine nC ?_) | ((with_reducible refine ownC ?_); refine ⟨inO, ?_⟩) | refine ⟨fun _ => by simp (decide := true) [okC, okP], ?_⟩))))) | (first | refine Ws.seq ?_ | refine Ws.region ?_ | refine Ws.draw (fun bd hbd => ?_) | refine Ws.cond rfl ?_ | refine Ws.skip ?_ | refine Ws.scope ?_ | refine Ws.block ?_ | refine Ws.exit ?_ | refine Ws.ret ?_)))
    refine ⟨(i + 1, (xv', Fx', xs ++ [(k.sales.getD i (0, 0)).1]), (yv', Fy', ys ++ [(k.sales.getD i (0, 0)).2])), ⟨rfl, rfl, rfl, rfl, rfl, rfl, rfl, rfl, rfl, trivial⟩, ?_, ⟨hid, hox', hoy', by simp [hxl], by simp [hyl], fun j hj => ?_, fun j hj => ?_⟩, by show _ - (i + 1) < _ - i; omega⟩
    · exact List.Sublist.append (List.Sublist.refl _) (List.Sublist.cons _ (List.Sublist.append (List.sublist_append_left _ _) (List.Sublist.refl _)))
    · rcases Nat.lt_succ_iff_lt_or_eq.1 hj with hj | rfl
      · exact (getD_snoc (by omega)).trans (hxs j hj)
      · exact getD_last hxl.symm
    · rcases Nat.lt_succ_iff_lt_or_eq.1 hj with hj | rfl
      · exact (getD_snoc (by omega)).trans (hys j hj)
      · exact getD_last hyl.symm
  · (repeat' (first | (first | refine Wo.nil ?_ | refine Wd.nil ?_ | ((first | refine Wo.cons ?_ | refine Wd.cons ?_); (try refine W1.go rfl rfl ?_); ((first | refine k1 ?_ | refine k2 ?_ | (refine isDst 77 ?_; refine W1.loadO rfl hmc rfl ?_) | (refine isDst 79 ?_; refine W1.iaddrz i rfl rfl rfl hid ?_) | (refine isDst 88 ?_; refine W1.iaddrz i rfl rfl rfl hid ?_) | (refine isDst 81 ?_; refine W1.loadO rfl hmsc h1 ?_) | (refine isDst 82 ?_; have hb4 := ltAll hbd hmc; have hbs := ltAll hbd hmsc; refine W1.bsliceO (l := [.int .i64 (k.sales.getD i (0, 0)).1]) (fill_all (catF1 rfl rfl catF0) rfl) (fun b82 hb82 hbd82 => ?_)) | (refine isDst 83 ?_; refine W1.appIO (F1 := (_, _) :: Fy) (by simp only [List.cons_append, List.nil_append, List.append_assoc]; rfl) hox rfl rfl (List.mem_cons_self ..) (by omega) (fun xv' Fx' lx hox' hlx1 hlx2 => ?_)) | (refine isDst 86 ?_; refine W1.loadO rfl (List.mem_append_right _ (List.mem_append_right _ hm)) rfl ?_; refine ⟨fun _ => by (have f1 : ¬ b82 = b4 := by omega); (have f2 : ∀ x ∈ lx, ¬ x = b4 := fun x hx he => by have := hlx1 x hx _ (List.mem_append_right _ hm) he.symm; omega); simp (decide := true) [okC, okP, apart_iff, f1]; exact f2, ?_⟩) | (refine isDst 90 ?_; refine W1.loadO rfl (List.mem_append_right _ (List.mem_append_right _ hms)) h2 ?_; refine ⟨fun _ => by (have f1 : ¬ b82 = bs := by omega); (have f2 : ∀ x ∈ lx, ¬ x = bs := fun x hx he => by have := hlx1 x hx _ (List.mem_append_right _ hms) he.symm; omega); simp (decide := true) [okC, okP, apart_iff, f1]; exact f2, ?_⟩) | (refine isDst 91 ?_; refine W1.bsliceO (l := [.int .i64 (k.sales.getD i (0, 0)).2]) (fill_all (catF1 rfl rfl catF0) rfl) (fun b91 hb91 hbd91 => ?_); refine ⟨fun nd => by obtain ⟨f1, f2, f3, f4⟩ := ok91 nd hb4 hbs hbd82 hbd91 (fun p hp => hbd p (List.mem_append_right _ (List.mem_append_left _ hp))) hlx2; simp (decide := true) [okC, okP, apart_iff, f1, f2, f3]; exact f4, ?_⟩) | (refine isDst 92 ?_; refine W1.appI (F1 := (_, _) :: (Fx' ++ [_])) (by simp only [List.cons_append, List.nil_append, List.append_assoc]; rfl) hoy rfl rfl (List.mem_cons_self ..) (by omega) (fun yv' Fy' hoy' => ?_)) | (refine isBinLss ?_; first | refine W1.lssT rfl rfl (by omega) ?_ | refine W1.lssF rfl rfl (by omega) ?_) | refine W1.auto ?_ | ((first | refine kA ?_ | refine kB ?_ | refine kC ?_ | refine kD ?_ | refine kE ?_ | refine kF ?_ | refine kG ?_); refine ⟨fun _ => ?_, fun _ => ?_⟩) | refine W1.alloc (fun _ _ => ?_) | refine W1.boxA rfl (fun _ _ => ?_) | refine kq (fun _ _ => ?_) | refine kp ?_ | (refine isIaddrs ?_; first | refine W1.iaddrI inI rfl rfl (by omega) (fun _ _ _ _ _ _ => ?_) | refine W1.iaddrR inR rfl rfl (by omega) (fun _ _ _ _ _ _ _ => ?_)) | (refine isBox ?_; refine W1.boxS inW (by rfl) (fun _ _ => ?_)) | (refine isBslice ?_; refine W1.bslice (fill_all inC rfl) (fun _ _ => ?_))) <;> (try (first | (with_reducible refine nC ?_) | ((with_reducible refine ownC ?_); refine ⟨inO, ?_⟩) | refine ⟨fun _ => by simp (decide := true) [okC, okP], ?_⟩))))) | (first | refine Ws.seq ?_ | refine Ws.region ?_ | refine Ws.draw (fun bd hbd => ?_) | refine Ws.cond rfl ?_ | refine Ws.skip ?_ | refine Ws.scope ?_ | refine Ws.block ?_ | refine Ws.exit ?_ | refine Ws.ret ?_)))
    have e1 : xs = leastS k := eq_of_getD (by simp [leastS]; omega) (fun j hj => by rw [hxs j (by omega), leastS_get (by omega)])
    have e2 : ys = mostS k := eq_of_getD (by simp [mostS]; omega) (fun j hj => by rw [hys j (by omega), mostS_get (by omega)])
    rw [← e1, ← e2]
    exact ⟨_, List.Sublist.refl _, rfl, xv, yv, Fx, Fy, ⟨rfl, rfl, rfl, rfl, rfl, rfl, rfl, rfl, trivial⟩, hox.rowI (fun z hz => List.mem_append_right _ (List.mem_append_left _ hz)), hoy.rowI (fun z hz => List.mem_append_left _ hz), rfl⟩
end Go.Ax
