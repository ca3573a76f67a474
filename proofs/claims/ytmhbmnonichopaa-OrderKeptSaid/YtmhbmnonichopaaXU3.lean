/-
  Contracts: the least costs, by the program.
-/
import Derived.Test.YtmhbmnonichopaaXU2
namespace Go.Ax
set_option maxHeartbeats 4000000
set_option maxRecDepth 20000
set_option linter.unusedSimpArgs false
set_option linter.unusedVariables false
variable {lo : Nat} {F : Hp}

attribute [local irreducible] part lrowL lrow lmin outer lcand nd rm bsuf bx ents nevs chl minP

theorem f61_cells {k : K} {sv cv ov : AV} {bb mb b1 b3' b5 dn clk : Nat} {lst : List Int} {L : BL} {B : FE} (hv : Vk k) (hc : RowI F cv k.costs) (hov : RowR F ov (bnds k k.sales.length)) (hd : dn < k.sales.length) (hbr0 : BRow k dn 0 lst) (hmr0 : MRow k dn 0 L) (hb5 : lo ≤ b5) (hmb : lo ≤ mb) (hbb : lo ≤ bb) :
    Ws tblW lo none (af61.body.loopAt 2) (upds B [(1, .ptr (some (b1, 0))), (2, fnv 69), (3, .ptr (some (b3', 0))), (5, .ptr (some (b5, 0)))])
      ((b5, .cells [.int .i64 0] true) :: (b3', .cells [.int .i64 (dn : Nat)] true) :: (mb, bmap L clk) :: (b1, .cells [.ptr (some (bb, 0))] true) :: (bb, board k sv cv ov lst mb) :: F)
      fun r E' G => r = .exit 4 ∧ Holds E' [(1, .ptr (some (b1, 0))), (2, fnv 69), (3, .ptr (some (b3', 0)))] ∧ ∃ lst' L' clk', BOk k dn lst' ∧ MOk k dn L' ∧
        ((b3', ABlk.cells [.int .i64 (dn : Nat)] true) :: (mb, bmap L' clk') :: (b1, .cells [.ptr (some (bb, 0))] true) :: (bb, board k sv cv ov lst' mb) :: F).Sublist G := by
  have h7 := hv.n2
  have h8 := hv.n3
  have hm1 := hv.most1
  have hm2 := hv.most2
  have hmm := nm_dn hv hd
  have hdm := dM_le hv (show dn ≤ k.sales.length by omega)
  have hm201 := mOf_le hv
  have hnv : never = 1125899906842624 := rfl
  show Ws tblW lo none (.loop _) _ _ _
  refine Ws.loopG (X := Nat × List Int × BL × Nat × Nat) (fun p => [(1, .ptr (some (b1, 0))), (2, fnv 69), (3, .ptr (some (b3', 0))), (5, .ptr (some (p.2.2.2.2, 0)))])
      (fun p => (p.2.2.2.2, .cells [.int .i64 (p.1 : Nat)] true) :: (b3', .cells [.int .i64 (dn : Nat)] true) :: (mb, bmap p.2.2.1 p.2.2.2.1) :: (b1, .cells [.ptr (some (bb, 0))] true) :: (bb, board k sv cv ov p.2.1 mb) :: F)
      (fun p => p.1 ≤ dn * k.most.toNat + 1 ∧ BRow k dn p.1 p.2.1 ∧ MRow k dn p.1 p.2.2.1 ∧ lo ≤ p.2.2.2.2) (fun p => dn * k.most.toNat + 2 - p.1) (0, lst, L, clk, b5) ⟨rfl, rfl, rfl, rfl, trivial⟩ inS ⟨Nat.zero_le _, hbr0, hmr0, hb5⟩ ?_
  clear hbr0 hmr0 hb5
  rintro ⟨c, lst2, L2, clk2, b5'⟩ B3 ⟨hc2, hbr, hmr, hb5'⟩
  simp only at hc2 hbr hmr hb5' ⊢
  have hl2 := hbr.len
  (repeat' (first | (first | refine Wo.nil ?_ | refine Wd.nil ?_ | ((first | refine Wo.cons ?_ | refine Wd.cons ?_); (try refine W1.go rfl rfl ?_); ((first | refine k1 ?_ | refine k2 ?_ | refine W1.slcAll rfl ?_ | (refine isApp ?_; refine W1.appZ (F1 := [_]) (f := pr2) (z := ((n : Int), _)) (fun _ => rfl) rfl ho rfl rfl inF rfl (by omega) (by omega) (fun av' Fo' ho' => ?_)) | (refine isStore ?_; first | refine W1.storeN rfl ho'.cell rfl inF inL inU inN (by omega) ?_ | refine W1.storeN rfl rfl rfl inF (board_set' (lst := lst2) (dn := dn) (c := c) (by omega)) inU (by rw [board_len (by omega)]; omega) (by omega) ?_ | refine W1.storeN (l' := bcells k sv cv ov (brest (List.replicate 4221 0) (.map (some mb)))) rfl rfl rfl inF (board_setmap (by rw [List.length_replicate])) inU (by rw [board_len (by rw [List.length_replicate])]; omega) (by omega) ?_ | refine W1.storeN (l' := bcells k sv cv ov (brest (nevs lst (dn * 201) (c + 1)) (.map (some mb)))) rfl rfl rfl inF ((board_set' (by omega)).trans (by rw [nevs_succ])) inU (by rw [board_len (by omega)]; omega) (by omega) ?_) | (refine isIaddra ?_; first | refine W1.iaddrA (dn + 1) rfl rfl (by omega) (by omega) ?_ | refine W1.iaddrA (c + n) rfl rfl (by omega) (by omega) ?_ | refine W1.iaddrA k.sales.length rfl rfl rfl (by omega) ?_ | refine W1.iaddrA dn rfl rfl (by omega) (by omega) ?_ | refine W1.iaddrA c rfl rfl (by omega) (by omega) ?_) | (refine isLoad ?_; first | refine W1.load1R rfl inF (board_get' (lst := lst2) (dn := dn + 1) (c := c + n) (by omega)) inB ?_ | refine W1.load1R rfl inF (show (bcells k sv cv ov _)[0 + 0 + 6]? = some cv from rfl) inB ?_ | refine W1.load1R rfl inF (board_map (lst := lst2.set _ _) (by rw [List.length_set]; omega)) inB ?_ | refine W1.load1 rfl inF (board_map (lst := lst2.set _ _) (by rw [List.length_set]; omega)) ?_ | refine W1.load1 rfl inF (show (bcells k sv cv ov _)[0 + 0 + 2]? = some (.int .i64 k.most) from rfl) ?_ | refine W1.load1R rfl inF (show (bcells k sv cv ov _)[0 + 0 + 2]? = some (.int .i64 k.most) from rfl) inB ?_ | refine W1.load1R rfl inF (show (bcells k sv cv ov _)[0 + 0 + 5]? = some sv from rfl) inB ?_ | refine W1.load1 rfl inF (show (bcells k sv cv ov _)[0 + 0 + 5]? = some sv from rfl) ?_) | (refine isCall ?_; first | refine W1.pure (v := .agg [.int .i64 mp.1, .int .i64 mp.2]) rfl rfl (by rw [← hmp]; exact f71_ok inF hrl.1 (by omega) (fun _ _ _ => f69_ok)) ?_ | refine W1.callM rfl rfl ((f70_ok (k := k) (sv := sv) (cv := cv) (ov := ov) (rest := _) (bb := bb) (d := dn) (c := c) inF inR (by omega)).mono fun fv F' h => ?_)) | (refine isMapup ?_; refine W1.mapupM (vf := intV) (kk2 dn c) _ key2_ok rfl rfl rfl (hmr.nor c (Nat.le_refl _)) inU (by omega) ?_) | (refine isMkmap ?_; refine W1.mkmapM key2 intV (fun mb hmb => ?_)) | (refine isLen ?_; refine W1.lenR inR rfl ?_) | (refine isClrs ?_; refine W1.clrSI rfl (by decide) (board_clear (by omega)) inU (by rw [board_len (by rw [List.length_replicate])]; simp; omega) (by omega) ?_) | refine W1.auto ?_ | ((first | refine kA ?_ | refine kB ?_ | refine kC ?_ | refine kD ?_ | refine kE ?_ | refine kF ?_ | refine kG ?_); refine ⟨fun _ => ?_, fun _ => ?_⟩) | refine W1.alloc (fun _ _ => ?_) | refine W1.boxA rfl (fun _ _ => ?_) | refine kq (fun _ _ => ?_) | refine kp ?_ | (refine isIaddrs ?_; first | refine W1.iaddrI inI rfl rfl (by omega) (fun _ _ _ _ _ _ => ?_) | refine W1.iaddrR inR rfl rfl (by omega) (fun _ _ _ _ _ _ _ => ?_)) | (refine isBox ?_; refine W1.boxS inW (by rfl) (fun _ _ => ?_)) | (refine isBslice ?_; refine W1.bslice (fill_all inC rfl) (fun _ _ => ?_))) <;> (try refine ⟨fun _ => rfl, ?_⟩)))) | (first | refine Ws.seq ?_ | refine Ws.region ?_ | refine Ws.draw (fun bd hbd => ?_) | refine Ws.cond rfl ?_ | refine Ws.skip ?_ | refine Ws.scope ?_ | refine Ws.block ?_ | refine Ws.exit ?_ | refine Ws.ret ?_)))
  · rename_i hcm b6 hb6 bs hbs b7 hb7
    obtain ⟨b2c, b3c, b5c, hb2c, hb3c, hb5c, rfl, rfl⟩ := h
    have hcn : c ≤ dn * k.most.toNat := by omega
    refine Ws.envs (l := [(1, .ptr (some (b1, 0))), (2, fnv 69), (3, .ptr (some (b3', 0))), (5, .ptr (some (b5', 0))), (6, .ptr (some (b6, 0))), (7, .ptr (some (b7, 0))), (65, .fn (.func 72) [] [.ptr (some (b2c, 0)), .ptr (some (b3c, 0)), .ptr (some (b5c, 0))])]) ⟨rfl, rfl, rfl, rfl, rfl, rfl, rfl, trivial⟩ ?_
    refine (f61_range hv hc (by omega) hcn hbr hbs hb7).mono ?_
    rintro r E' G ⟨rfl, hE', ex, av, Fo, ho, rfl⟩
    clear hbd
    refine Ws.envs hE' ?_
    obtain ⟨bz, hbz, rfl, rfl⟩ := own_row ho (chl_len ..).1
    have hday := chl_day hv (show dn < k.sales.length by omega) hcn
    have hrl := (chl_len k dn (lrow k (mK k) (k.sales.length - (dn + 1))) c (k.most.toNat + 1))
    revert hday hrl
    generalize chl k dn (lrow k (mK k) (k.sales.length - (dn + 1))) c (k.most.toNat + 1) = rs
    generalize hmp : minP rs (rs.length - 1) = mp
    intro hday hrl
    (repeat' (first | (first | refine Wo.nil ?_ | refine Wd.nil ?_ | ((first | refine Wo.cons ?_ | refine Wd.cons ?_); (try refine W1.go rfl rfl ?_); ((first | refine k1 ?_ | refine k2 ?_ | refine W1.slcAll rfl ?_ | (refine isApp ?_; refine W1.appZ (F1 := [_]) (f := pr2) (z := ((n : Int), _)) (fun _ => rfl) rfl ho rfl rfl inF rfl (by omega) (by omega) (fun av' Fo' ho' => ?_)) | (refine isStore ?_; first | refine W1.storeN rfl ho'.cell rfl inF inL inU inN (by omega) ?_ | refine W1.storeN rfl rfl rfl inF (board_set' (lst := lst2) (dn := dn) (c := c) (by omega)) inU (by rw [board_len (by omega)]; omega) (by omega) ?_ | refine W1.storeN (l' := bcells k sv cv ov (brest (List.replicate 4221 0) (.map (some mb)))) rfl rfl rfl inF (board_setmap (by rw [List.length_replicate])) inU (by rw [board_len (by rw [List.length_replicate])]; omega) (by omega) ?_ | refine W1.storeN (l' := bcells k sv cv ov (brest (nevs lst (dn * 201) (c + 1)) (.map (some mb)))) rfl rfl rfl inF ((board_set' (by omega)).trans (by rw [nevs_succ])) inU (by rw [board_len (by omega)]; omega) (by omega) ?_) | (refine isIaddra ?_; first | refine W1.iaddrA (dn + 1) rfl rfl (by omega) (by omega) ?_ | refine W1.iaddrA (c + n) rfl rfl (by omega) (by omega) ?_ | refine W1.iaddrA k.sales.length rfl rfl rfl (by omega) ?_ | refine W1.iaddrA dn rfl rfl (by omega) (by omega) ?_ | refine W1.iaddrA c rfl rfl (by omega) (by omega) ?_) | (refine isLoad ?_; first | refine W1.load1R rfl inF (board_get' (lst := lst2) (dn := dn + 1) (c := c + n) (by omega)) inB ?_ | refine W1.load1R rfl inF (show (bcells k sv cv ov _)[0 + 0 + 6]? = some cv from rfl) inB ?_ | refine W1.load1R rfl inF (board_map (lst := lst2.set _ _) (by rw [List.length_set]; omega)) inB ?_ | refine W1.load1 rfl inF (board_map (lst := lst2.set _ _) (by rw [List.length_set]; omega)) ?_ | refine W1.load1 rfl inF (show (bcells k sv cv ov _)[0 + 0 + 2]? = some (.int .i64 k.most) from rfl) ?_ | refine W1.load1R rfl inF (show (bcells k sv cv ov _)[0 + 0 + 2]? = some (.int .i64 k.most) from rfl) inB ?_ | refine W1.load1R rfl inF (show (bcells k sv cv ov _)[0 + 0 + 5]? = some sv from rfl) inB ?_ | refine W1.load1 rfl inF (show (bcells k sv cv ov _)[0 + 0 + 5]? = some sv from rfl) ?_) | (refine isCall ?_; first | refine W1.pure (v := .agg [.int .i64 mp.1, .int .i64 mp.2]) rfl rfl (by rw [← hmp]; exact f71_ok inF hrl.1 (by omega) (fun _ _ _ => f69_ok)) ?_ | refine W1.callM rfl rfl ((f70_ok (k := k) (sv := sv) (cv := cv) (ov := ov) (rest := _) (bb := bb) (d := dn) (c := c) inF inR (by omega)).mono fun fv F' h => ?_)) | (refine isMapup ?_; refine W1.mapupM (vf := intV) (kk2 dn c) _ key2_ok rfl rfl rfl (hmr.nor c (Nat.le_refl _)) inU (by omega) ?_) | (refine isMkmap ?_; refine W1.mkmapM key2 intV (fun mb hmb => ?_)) | (refine isLen ?_; refine W1.lenR inR rfl ?_) | (refine isClrs ?_; refine W1.clrSI rfl (by decide) (board_clear (by omega)) inU (by rw [board_len (by rw [List.length_replicate])]; simp; omega) (by omega) ?_) | refine W1.auto ?_ | ((first | refine kA ?_ | refine kB ?_ | refine kC ?_ | refine kD ?_ | refine kE ?_ | refine kF ?_ | refine kG ?_); refine ⟨fun _ => ?_, fun _ => ?_⟩) | refine W1.alloc (fun _ _ => ?_) | refine W1.boxA rfl (fun _ _ => ?_) | refine kq (fun _ _ => ?_) | refine kp ?_ | (refine isIaddrs ?_; first | refine W1.iaddrI inI rfl rfl (by omega) (fun _ _ _ _ _ _ => ?_) | refine W1.iaddrR inR rfl rfl (by omega) (fun _ _ _ _ _ _ _ => ?_)) | (refine isBox ?_; refine W1.boxS inW (by rfl) (fun _ _ => ?_)) | (refine isBslice ?_; refine W1.bslice (fill_all inC rfl) (fun _ _ => ?_))) <;> (try refine ⟨fun _ => rfl, ?_⟩)))) | (first | refine Ws.seq ?_ | refine Ws.region ?_ | refine Ws.draw (fun bd hbd => ?_) | refine Ws.cond rfl ?_ | refine Ws.skip ?_ | refine Ws.scope ?_ | refine Ws.block ?_ | refine Ws.exit ?_ | refine Ws.ret ?_)))
    · rename_i b9 hb9 hlt bn hbn bdq hbdq
      obtain ⟨hd1, hd2⟩ := hday
      exact ⟨(c + 1, lst2.set (dn * 201 + c) mp.2, L2 ++ [(kk2 dn c, mp.1, clk2)], clk2 + 1, bdq), ⟨rfl, rfl, rfl, rfl, trivial⟩, inS, ⟨by show c + 1 ≤ _; omega, hbr.set hv hd hcn hd1, hmr.add clk2 (hd2 (by omega)), hbdq⟩, by show _ - (c + 1) < _ - c; omega⟩
    · rename_i b9 hb9 hlt bdq hbdq
      obtain ⟨hd1, hd2⟩ := hday
      exact ⟨(c + 1, lst2, L2, clk2, bdq), ⟨rfl, rfl, rfl, rfl, trivial⟩, inS, ⟨by show c + 1 ≤ _; omega, hbr.skip hv hd hcn (by omega), hmr.skip (by omega), hbdq⟩, by show _ - (c + 1) < _ - c; omega⟩
  · rename_i hcm
    have hce : c = dn * k.most.toNat + 1 := by omega
    subst hce
    exact ⟨rfl, ⟨rfl, rfl, rfl, trivial⟩, lst2, L2, clk2, hbr.done, hmr.done, .cons _ (List.Sublist.refl _)⟩
end Go.Ax
