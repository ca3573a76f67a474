/-
  Contracts: the best plan out of the filled board.
-/
import Derived.Test.YtmhbmnonichopaaXU4
namespace Go.Ax
set_option maxHeartbeats 4000000
set_option maxRecDepth 20000
set_option linter.unusedSimpArgs false
set_option linter.unusedVariables false
variable {lo : Nat} {F : Hp}

theorem leafsEq_ints : ∀ {xs ys : List Int} {n : Nat}, xs.length = n → ys.length = n → leafsEq (List.replicate n .int) (ints xs) (ints ys) = some (decide (xs = ys))
  | [], [], 0, _, _ => rfl
  | [], _ :: _, 0, _, h => nomatch h
  | _ :: _, _, 0, h, _ => nomatch h
  | [], _, _ + 1, h, _ => nomatch h
  | _ :: _, [], _ + 1, _, h => nomatch h
  | x :: xs, y :: ys, n + 1, h1, h2 => by
    have ih := leafsEq_ints (xs := xs) (ys := ys) (n := n) (by simpa using h1) (by simpa using h2)
    simp only [ints] at ih
    simp only [List.replicate_succ, ints, List.map_cons, leafsEq, leafEq, if_true, ih]
    congr 1
    rw [Bool.eq_iff_iff]
    simp
theorem eq201 {xs ys : List Int} (h1 : xs.length = 201) (h2 : ys.length = 201) : eqAV true (List.replicate 201 .int) (.agg (ints xs)) (.agg (ints ys)) = some (decide (xs = ys)) := leafsEq_ints h1 h2
theorem splice_all {z cs : List AV} (h : z.length = cs.length) : splice z 0 cs = cs := by
  simp only [splice]
  rw [List.take_zero, Nat.zero_add, List.drop_of_length_le (by omega)]
  simp
theorem board_row0 {k : K} {sv cv ov mv : AV} {lst : List Int} (hl : lst.length = 4221) : partC (bcells k sv cv ov (brest lst mv)) (0 + 8 + 0 * 201) (some 201) = some (.agg (ints (lst.take 201))) := by
  have h1 := board_len (k := k) (sv := sv) (cv := cv) (ov := ov) (mv := mv) hl
  simp only [partC]
  rw [if_pos (by omega)]
  congr 2
  show List.take 201 (ints lst ++ [mv]) = _
  rw [List.take_append_of_le_length (by simp [ints]; omega)]
  simp [ints]
theorem nevs0_succ (xs : List Int) (c : Nat) : (nevs xs 0 c).set c never = nevs xs 0 (c + 1) := by rw [nevs, Nat.zero_add]
theorem nevs0_all {xs : List Int} (h : xs.length = 201) : nevs xs 0 201 = List.replicate 201 never := by
  refine List.ext_getElem? fun i => ?_
  have hl : (nevs xs 0 201).length = 201 := by rw [nevs_len, h]
  by_cases hi : i < 201
  · have := @nevs_get xs 0 201 i (by omega)
    rw [if_pos (by omega)] at this
    rw [List.getElem?_eq_getElem (by omega), List.getElem?_eq_getElem (by simpa using hi), List.getElem_replicate]
    simp only [List.getD, List.getElem?_eq_getElem (show i < (nevs xs 0 201).length by omega), Option.getD_some] at this
    rw [this]
  · rw [List.getElem?_eq_none (by omega), List.getElem?_eq_none (by simp; omega)]
/-- is the first row one of which nothing can be? -/
theorem row0_iff {k : K} (hv : Vk k) {lst : List Int} (h : BOk k 0 lst) : lst.take 201 = List.replicate 201 never ↔ never ≤ lrow k (mK k) k.sales.length 0 := by
  have hv0 := h.val 0 0 (Nat.le_refl _) (Nat.zero_le _) (Nat.zero_le _)
  rw [Nat.sub_zero, Nat.zero_mul, Nat.zero_add] at hv0
  have hle := (lrow_in hv (mK k) k.sales.length (Nat.le_refl _) 0).2
  have h1 := hv.n1
  constructor
  · intro he
    have : (lst.take 201).getD 0 0 = never := by rw [he]; rfl
    have h2 : (lst.take 201).getD 0 0 = lst.getD 0 0 := by simp [List.getD]
    omega
  · intro hn
    refine List.ext_getElem? fun i => ?_
    by_cases hi : i < 201
    · have e : lst.getD i 0 = never := by
        cases i with
        | zero => omega
        | succ i =>
          have := h.out 0 (i + 1) (Nat.le_refl _) (by omega) (by omega) hi
          rwa [Nat.zero_mul, Nat.zero_add] at this
      have hl : i < lst.length := by rw [h.len]; omega
      simp only [List.getD, List.getElem?_eq_getElem hl, Option.getD_some] at e
      rw [List.getElem?_take, if_pos hi, List.getElem?_eq_getElem hl, e, List.getElem?_replicate, if_pos hi]
    · rw [List.getElem?_eq_none (by simp; omega), List.getElem?_eq_none (by simp; omega)]
theorem W1.lookY {tbl : Nat → Option AFn} {bd : Nat} {E : FE} {F : Hp} {d : Option Nat} {R : FE → Hp → Cls → Prop} {κ ν : Type} [DecidableEq κ] {kf : κ → AV} {vf : ν → AV} {ag : Bool} {ks : List Leaf} {m k : AO} {z : AV} {r c i : Nat} {u : ν} {L : List (κ × ν × Nat)} (a : κ) (hk : KeyOk kf ag ks) (hm : xev E m = .map (some r)) (hx : xev E k = kf a) (hf : mfind L a = some (i, u)) (hb : (r, .map (ents kf vf L) c) ∈ F) (kk : R (fput E d (vf u)) F .x) : W1 tbl lo bd ⟨d, .look ag ks z m k false, none⟩ E F R := by
  refine W1.lookM a hk hm hx hb ?_
  rw [show mval vf z L a = vf u by unfold mval; rw [hf]]
  exact kk
/-- what the plan's walk leaves -/
def PlanR (lo : Nat) (k : K) (G : Hp) (v : AV) (F' : Hp) : Prop := (never ≤ lrow k (mK k) k.sales.length 0 ∧ v = .tup [.slc none 0 0 true 0, .bool false] ∧ F' = G) ∨
  (lrow k (mK k) k.sales.length 0 < never ∧ ∃ pv Fo, OwnI lo false pv Fo (bsuf k k.sales.length 0) ∧ v = .tup [pv, .bool true] ∧ F' = Fo ++ G)
attribute [local irreducible] part lrowL lrow lmin outer lcand nd rm bsuf bx ents nevs chl minP

theorem f62_ok {k : K} {sv cv ov : AV} {bb mb clk : Nat} {lst : List Int} {L : BL} (hk : KVal F k sv cv) (hv : Vk k) (hbo : BOk k 0 lst) (hm : MOk k 0 L) (hbb : lo ≤ bb) (hmb : lo ≤ mb) :
    Fn tblW lo (fnv 62) [.ptr (some (bb, 0))] ((mb, bmap L clk) :: (bb, board k sv cv ov lst mb) :: F) (PlanR lo k ((bb, board k sv cv ov lst mb) :: F)) := by
  have hls := hk.ls
  have hs := hk.s
  have h7 := hv.n2
  have hll := hbo.len
  refine Fn.func (fn := af62) rfl rfl ?_
  (repeat' (first | (first | refine Wo.nil ?_ | refine Wd.nil ?_ | ((first | refine Wo.cons ?_ | refine Wd.cons ?_); (try refine W1.go rfl rfl ?_); ((first | refine W1.skip rfl rfl ?_ | refine W1.lookY (vf := intV) (kk2 d c) key2_ok rfl rfl hf inF ?_ | (refine isEqf ?_; first | refine W1.neq2 rfl rfl (fun hx => absurd rfl hx) (fun _ => ?_) | refine W1.neq2 rfl rfl (fun _ => ?_) (fun hx => absurd hx (fun h => hdn (by have := congrArg Prod.fst h; simp only at this; omega))) | refine W1.eqfB rfl rfl (eq201 (by simp; omega) (by rw [nevs_len]; simp; omega)) (fun hb => ?_) (fun hb => ?_)) | (refine isDel ?_; refine W1.delM (vf := intV) (kk2 d c) key2_ok rfl rfl hf inU (by omega) ?_) | (refine isApp ?_; refine W1.appI (F1 := [_, _]) rfl hown rfl rfl inF (by omega) (fun ov2 Fo' ho' => ?_)) | (refine isLoad ?_; first | refine W1.load1R rfl inF (board_map (lst := lst) hll) inB ?_ | refine W1.load1R rfl inF (show (bcells k sv cv ov _)[0 + 0 + 5]? = some sv from rfl) inB ?_ | refine W1.load rfl inF (board_row0 (lst := lst) hll) ?_ | refine W1.loadR rfl inF (board_row0 (lst := lst) hll) inB ?_ | refine W1.loadAR (l := ints (nevs (lst.take 201) 0 201)) rfl inF (by simp [ints, nevs_len]; omega) inB ?_) | (refine isStore ?_; first | refine W1.storeN (l' := ints (lst.take 201)) rfl rfl (by simp [ints]; omega) inF (splice_all (by simp [ints]; omega)) inU (by simp) (by omega) ?_ | refine W1.storeI (xs := nevs (lst.take 201) 0 c) (j := c) rfl (by omega) rfl (by rw [nevs0_succ]; exact Upd.head) (by rw [nevs_len]; simp; omega) (by omega) ?_) | (refine isIaddra ?_; first | refine W1.iaddrA 0 rfl rfl rfl (by omega) ?_ | refine W1.iaddrA c rfl rfl (by omega) (by omega) ?_) | refine W1.auto ?_ | refine W1.lss rfl rfl (fun _ => ?_) (fun _ => ?_) | refine W1.gtr rfl rfl (fun _ => ?_) (fun _ => ?_) | refine W1.leq rfl rfl (fun _ => ?_) (fun _ => ?_) | refine W1.geq rfl rfl (fun _ => ?_) (fun _ => ?_) | refine W1.eql rfl rfl (fun _ => ?_) (fun _ => ?_) | refine W1.neq rfl rfl (fun _ => ?_) (fun _ => ?_) | refine W1.neq2 rfl rfl (fun _ => ?_) (fun _ => ?_) | refine W1.alloc (fun _ _ => ?_) | refine W1.boxA rfl (fun _ _ => ?_) | (refine isBinQuo ?_; first | refine W1.quoN rfl rfl (by omega) (by omega) (fun _ _ => ?_) | refine W1.quo rfl rfl (by omega) (by omega) ?_) | (refine isIaddrs ?_; first | refine W1.iaddrI inI rfl rfl (by omega) (fun _ _ _ _ _ _ => ?_) | refine W1.iaddrR inR rfl rfl (by omega) (fun _ _ _ _ _ _ _ => ?_)) | (refine isBox ?_; refine W1.boxS inW (by rfl) (fun _ _ => ?_)) | (refine isBslice ?_; refine W1.bslice (fill_all inC rfl) (fun _ _ => ?_))) <;> (try refine ⟨rfl, ?_⟩)))) | (first | refine Ws.seq ?_ | refine Ws.region ?_ | refine Ws.draw (fun bd hbd => ?_) | refine Ws.cond rfl ?_ | refine Ws.skip ?_ | refine Ws.scope ?_ | refine Ws.block ?_ | refine Ws.exit ?_ | refine Ws.ret ?_)))
  rename_i b4 hb4
  have hn201 := nevs0_all (xs := lst.take 201) (by simp; omega)
  refine Ws.loopD 1032224 rfl [(0, _), (4, _)] ⟨inW, inW, trivial⟩ [0, 4] rfl rfl (X := Nat) (fun c => [(14, .int .i64 (c : Nat))])
    (fun c => (b4, .cells (ints (nevs (lst.take 201) 0 c)) true) :: (mb, bmap L clk) :: (bb, board k sv cv ov lst mb) :: F)
    (fun c => c ≤ 201) (fun c => 201 - c) 0 ⟨rfl, trivial⟩ (by rw [nevs_zero]; exact List.Sublist.refl _) (Nat.zero_le _) ?_
  intro c B hc
  (repeat' (first | (first | refine Wo.nil ?_ | refine Wd.nil ?_ | ((first | refine Wo.cons ?_ | refine Wd.cons ?_); (try refine W1.go rfl rfl ?_); ((first | refine W1.skip rfl rfl ?_ | refine W1.lookY (vf := intV) (kk2 d c) key2_ok rfl rfl hf inF ?_ | (refine isEqf ?_; first | refine W1.neq2 rfl rfl (fun hx => absurd rfl hx) (fun _ => ?_) | refine W1.neq2 rfl rfl (fun _ => ?_) (fun hx => absurd hx (fun h => hdn (by have := congrArg Prod.fst h; simp only at this; omega))) | refine W1.eqfB rfl rfl (eq201 (by simp; omega) (by rw [nevs_len]; simp; omega)) (fun hb => ?_) (fun hb => ?_)) | (refine isDel ?_; refine W1.delM (vf := intV) (kk2 d c) key2_ok rfl rfl hf inU (by omega) ?_) | (refine isApp ?_; refine W1.appI (F1 := [_, _]) rfl hown rfl rfl inF (by omega) (fun ov2 Fo' ho' => ?_)) | (refine isLoad ?_; first | refine W1.load1R rfl inF (board_map (lst := lst) hll) inB ?_ | refine W1.load1R rfl inF (show (bcells k sv cv ov _)[0 + 0 + 5]? = some sv from rfl) inB ?_ | refine W1.load rfl inF (board_row0 (lst := lst) hll) ?_ | refine W1.loadR rfl inF (board_row0 (lst := lst) hll) inB ?_ | refine W1.loadAR (l := ints (nevs (lst.take 201) 0 201)) rfl inF (by simp [ints, nevs_len]; omega) inB ?_) | (refine isStore ?_; first | refine W1.storeN (l' := ints (lst.take 201)) rfl rfl (by simp [ints]; omega) inF (splice_all (by simp [ints]; omega)) inU (by simp) (by omega) ?_ | refine W1.storeI (xs := nevs (lst.take 201) 0 c) (j := c) rfl (by omega) rfl (by rw [nevs0_succ]; exact Upd.head) (by rw [nevs_len]; simp; omega) (by omega) ?_) | (refine isIaddra ?_; first | refine W1.iaddrA 0 rfl rfl rfl (by omega) ?_ | refine W1.iaddrA c rfl rfl (by omega) (by omega) ?_) | refine W1.auto ?_ | refine W1.lss rfl rfl (fun _ => ?_) (fun _ => ?_) | refine W1.gtr rfl rfl (fun _ => ?_) (fun _ => ?_) | refine W1.leq rfl rfl (fun _ => ?_) (fun _ => ?_) | refine W1.geq rfl rfl (fun _ => ?_) (fun _ => ?_) | refine W1.eql rfl rfl (fun _ => ?_) (fun _ => ?_) | refine W1.neq rfl rfl (fun _ => ?_) (fun _ => ?_) | refine W1.neq2 rfl rfl (fun _ => ?_) (fun _ => ?_) | refine W1.alloc (fun _ _ => ?_) | refine W1.boxA rfl (fun _ _ => ?_) | (refine isBinQuo ?_; first | refine W1.quoN rfl rfl (by omega) (by omega) (fun _ _ => ?_) | refine W1.quo rfl rfl (by omega) (by omega) ?_) | (refine isIaddrs ?_; first | refine W1.iaddrI inI rfl rfl (by omega) (fun _ _ _ _ _ _ => ?_) | refine W1.iaddrR inR rfl rfl (by omega) (fun _ _ _ _ _ _ _ => ?_)) | (refine isBox ?_; refine W1.boxS inW (by rfl) (fun _ _ => ?_)) | (refine isBslice ?_; refine W1.bslice (fill_all inC rfl) (fun _ _ => ?_))) <;> (try refine ⟨rfl, ?_⟩)))) | (first | refine Ws.seq ?_ | refine Ws.region ?_ | refine Ws.draw (fun bd hbd => ?_) | refine Ws.cond rfl ?_ | refine Ws.skip ?_ | refine Ws.scope ?_ | refine Ws.block ?_ | refine Ws.exit ?_ | refine Ws.ret ?_)))
  · exact ⟨c + 1, ⟨rfl, trivial⟩, List.Sublist.refl _, by show c + 1 ≤ _; omega, by show _ - (c + 1) < _; omega⟩
  · have hc201 : c = 201 := by omega
    subst hc201
    (repeat' (first | (first | refine Wo.nil ?_ | refine Wd.nil ?_ | ((first | refine Wo.cons ?_ | refine Wd.cons ?_); (try refine W1.go rfl rfl ?_); ((first | refine W1.skip rfl rfl ?_ | refine W1.lookY (vf := intV) (kk2 d c) key2_ok rfl rfl hf inF ?_ | (refine isEqf ?_; first | refine W1.neq2 rfl rfl (fun hx => absurd rfl hx) (fun _ => ?_) | refine W1.neq2 rfl rfl (fun _ => ?_) (fun hx => absurd hx (fun h => hdn (by have := congrArg Prod.fst h; simp only at this; omega))) | refine W1.eqfB rfl rfl (eq201 (by simp; omega) (by rw [nevs_len]; simp; omega)) (fun hb => ?_) (fun hb => ?_)) | (refine isDel ?_; refine W1.delM (vf := intV) (kk2 d c) key2_ok rfl rfl hf inU (by omega) ?_) | (refine isApp ?_; refine W1.appI (F1 := [_, _]) rfl hown rfl rfl inF (by omega) (fun ov2 Fo' ho' => ?_)) | (refine isLoad ?_; first | refine W1.load1R rfl inF (board_map (lst := lst) hll) inB ?_ | refine W1.load1R rfl inF (show (bcells k sv cv ov _)[0 + 0 + 5]? = some sv from rfl) inB ?_ | refine W1.load rfl inF (board_row0 (lst := lst) hll) ?_ | refine W1.loadR rfl inF (board_row0 (lst := lst) hll) inB ?_ | refine W1.loadAR (l := ints (nevs (lst.take 201) 0 201)) rfl inF (by simp [ints, nevs_len]; omega) inB ?_) | (refine isStore ?_; first | refine W1.storeN (l' := ints (lst.take 201)) rfl rfl (by simp [ints]; omega) inF (splice_all (by simp [ints]; omega)) inU (by simp) (by omega) ?_ | refine W1.storeI (xs := nevs (lst.take 201) 0 c) (j := c) rfl (by omega) rfl (by rw [nevs0_succ]; exact Upd.head) (by rw [nevs_len]; simp; omega) (by omega) ?_) | (refine isIaddra ?_; first | refine W1.iaddrA 0 rfl rfl rfl (by omega) ?_ | refine W1.iaddrA c rfl rfl (by omega) (by omega) ?_) | refine W1.auto ?_ | refine W1.lss rfl rfl (fun _ => ?_) (fun _ => ?_) | refine W1.gtr rfl rfl (fun _ => ?_) (fun _ => ?_) | refine W1.leq rfl rfl (fun _ => ?_) (fun _ => ?_) | refine W1.geq rfl rfl (fun _ => ?_) (fun _ => ?_) | refine W1.eql rfl rfl (fun _ => ?_) (fun _ => ?_) | refine W1.neq rfl rfl (fun _ => ?_) (fun _ => ?_) | refine W1.neq2 rfl rfl (fun _ => ?_) (fun _ => ?_) | refine W1.alloc (fun _ _ => ?_) | refine W1.boxA rfl (fun _ _ => ?_) | (refine isBinQuo ?_; first | refine W1.quoN rfl rfl (by omega) (by omega) (fun _ _ => ?_) | refine W1.quo rfl rfl (by omega) (by omega) ?_) | (refine isIaddrs ?_; first | refine W1.iaddrI inI rfl rfl (by omega) (fun _ _ _ _ _ _ => ?_) | refine W1.iaddrR inR rfl rfl (by omega) (fun _ _ _ _ _ _ _ => ?_)) | (refine isBox ?_; refine W1.boxS inW (by rfl) (fun _ _ => ?_)) | (refine isBslice ?_; refine W1.bslice (fill_all inC rfl) (fun _ _ => ?_))) <;> (try refine ⟨rfl, ?_⟩)))) | (first | refine Ws.seq ?_ | refine Ws.region ?_ | refine Ws.draw (fun bd hbd => ?_) | refine Ws.cond rfl ?_ | refine Ws.skip ?_ | refine Ws.scope ?_ | refine Ws.block ?_ | refine Ws.exit ?_ | refine Ws.ret ?_)))
    · have he : lst.take 201 = nevs (lst.take 201) 0 201 := of_decide_eq_true (by simpa using hb)
      rw [hn201] at he
      exact FnEnd.ret (F0 := (mb, bmap L clk) :: (bb, board k sv cv ov lst mb) :: F) (Q := PlanR lo k ((bb, board k sv cv ov lst mb) :: F)) (F' := (bb, board k sv cv ov lst mb) :: F) (vs := [_, _]) (.tmp inW (.tmp inW .nil)) inS (.inl ⟨(row0_iff hv hbo).1 he, rfl, rfl⟩)
    · have hne : ¬ never ≤ lrow k (mK k) k.sales.length 0 := fun h => by
        have he := (row0_iff hv hbo).2 h
        rw [hn201, decide_eq_true he] at hb
        cases hb
      have hlt : lrow k (mK k) k.sales.length 0 < never := by omega
      rename_i b7 hb7
      clear hb hbd
      refine Ws.loopD 9223372036586340800 rfl [(0, _)] ⟨inW, trivial⟩ [0] rfl rfl (X := Nat × Nat × AV × Hp × List Int × BL × Nat) (fun p => [(6, p.2.2.1), (7, .ptr (some (p.2.2.2.2.2.2, 0)))])
        (fun p => (p.2.2.2.2.2.2, .cells [.int .i64 (p.1 : Nat), .int .i64 (p.2.1 : Nat)] true) :: (p.2.2.2.1 ++ ((mb, bmap p.2.2.2.2.2.1 clk) :: (bb, board k sv cv ov lst mb) :: F)))
        (fun p => p.1 ≤ k.sales.length ∧ p.2.1 ≤ p.1 * k.most.toNat ∧ lrow k (mK k) (k.sales.length - p.1) p.2.1 < never ∧ OwnI lo false p.2.2.1 p.2.2.2.1 p.2.2.2.2.1 ∧ p.2.2.2.2.1.length = p.1 ∧ bsuf k k.sales.length 0 = p.2.2.2.2.1 ++ bsuf k (k.sales.length - p.1) p.2.1 ∧ MYes k p.1 p.2.2.2.2.2.1 ∧ lo ≤ p.2.2.2.2.2.2)
        (fun p => k.sales.length - p.1) (0, 0, .slc none 0 0 true 0, [], [], L, b7) ⟨rfl, rfl, trivial⟩ inS ⟨Nat.zero_le _, Nat.zero_le _, hlt, .nil, rfl, rfl, hm.yes, hb7⟩ ?_
      clear hb7 b7
      rintro ⟨d, c, ov', Fp, acc, L', b7⟩ B ⟨hd, hcm, hfin, hown, hla, hP, hye, hb7⟩
      simp only at hd hcm hfin hown hla hP hye hb7 ⊢
      have hdm := dM_le hv hd
      have hm1 := hv.most1
      have hm2 := hv.most2
      by_cases hdn : d = k.sales.length
      · subst hdn
        (repeat' (first | (first | refine Wo.nil ?_ | refine Wd.nil ?_ | ((first | refine Wo.cons ?_ | refine Wd.cons ?_); (try refine W1.go rfl rfl ?_); ((first | refine W1.skip rfl rfl ?_ | refine W1.lookY (vf := intV) (kk2 d c) key2_ok rfl rfl hf inF ?_ | (refine isEqf ?_; first | refine W1.neq2 rfl rfl (fun hx => absurd rfl hx) (fun _ => ?_) | refine W1.neq2 rfl rfl (fun _ => ?_) (fun hx => absurd hx (fun h => hdn (by have := congrArg Prod.fst h; simp only at this; omega))) | refine W1.eqfB rfl rfl (eq201 (by simp; omega) (by rw [nevs_len]; simp; omega)) (fun hb => ?_) (fun hb => ?_)) | (refine isDel ?_; refine W1.delM (vf := intV) (kk2 d c) key2_ok rfl rfl hf inU (by omega) ?_) | (refine isApp ?_; refine W1.appI (F1 := [_, _]) rfl hown rfl rfl inF (by omega) (fun ov2 Fo' ho' => ?_)) | (refine isLoad ?_; first | refine W1.load1R rfl inF (board_map (lst := lst) hll) inB ?_ | refine W1.load1R rfl inF (show (bcells k sv cv ov _)[0 + 0 + 5]? = some sv from rfl) inB ?_ | refine W1.load rfl inF (board_row0 (lst := lst) hll) ?_ | refine W1.loadR rfl inF (board_row0 (lst := lst) hll) inB ?_ | refine W1.loadAR (l := ints (nevs (lst.take 201) 0 201)) rfl inF (by simp [ints, nevs_len]; omega) inB ?_) | (refine isStore ?_; first | refine W1.storeN (l' := ints (lst.take 201)) rfl rfl (by simp [ints]; omega) inF (splice_all (by simp [ints]; omega)) inU (by simp) (by omega) ?_ | refine W1.storeI (xs := nevs (lst.take 201) 0 c) (j := c) rfl (by omega) rfl (by rw [nevs0_succ]; exact Upd.head) (by rw [nevs_len]; simp; omega) (by omega) ?_) | (refine isIaddra ?_; first | refine W1.iaddrA 0 rfl rfl rfl (by omega) ?_ | refine W1.iaddrA c rfl rfl (by omega) (by omega) ?_) | refine W1.auto ?_ | refine W1.lss rfl rfl (fun _ => ?_) (fun _ => ?_) | refine W1.gtr rfl rfl (fun _ => ?_) (fun _ => ?_) | refine W1.leq rfl rfl (fun _ => ?_) (fun _ => ?_) | refine W1.geq rfl rfl (fun _ => ?_) (fun _ => ?_) | refine W1.eql rfl rfl (fun _ => ?_) (fun _ => ?_) | refine W1.neq rfl rfl (fun _ => ?_) (fun _ => ?_) | refine W1.neq2 rfl rfl (fun _ => ?_) (fun _ => ?_) | refine W1.alloc (fun _ _ => ?_) | refine W1.boxA rfl (fun _ _ => ?_) | (refine isBinQuo ?_; first | refine W1.quoN rfl rfl (by omega) (by omega) (fun _ _ => ?_) | refine W1.quo rfl rfl (by omega) (by omega) ?_) | (refine isIaddrs ?_; first | refine W1.iaddrI inI rfl rfl (by omega) (fun _ _ _ _ _ _ => ?_) | refine W1.iaddrR inR rfl rfl (by omega) (fun _ _ _ _ _ _ _ => ?_)) | (refine isBox ?_; refine W1.boxS inW (by rfl) (fun _ _ => ?_)) | (refine isBslice ?_; refine W1.bslice (fill_all inC rfl) (fun _ _ => ?_))) <;> (try refine ⟨rfl, ?_⟩)))) | (first | refine Ws.seq ?_ | refine Ws.region ?_ | refine Ws.draw (fun bd hbd => ?_) | refine Ws.cond rfl ?_ | refine Ws.skip ?_ | refine Ws.scope ?_ | refine Ws.block ?_ | refine Ws.exit ?_ | refine Ws.ret ?_)))
        refine FnEnd.ret (F0 := (mb, bmap L clk) :: (bb, board k sv cv ov lst mb) :: F) (Q := PlanR lo k ((bb, board k sv cv ov lst mb) :: F)) (F' := Fp ++ ((bb, board k sv cv ov lst mb) :: F)) (vs := [_, _]) (.tmp inW (.tmp inW .nil)) (.cons _ (List.Sublist.append (List.Sublist.refl _) (.cons _ (List.Sublist.refl _)))) (.inr ⟨hlt, ov', Fp, ?_, rfl, rfl⟩)
        rw [hP, Nat.sub_self, bsuf_zero, List.append_nil]
        exact hown
      · have hd' : d < k.sales.length := by omega
        obtain ⟨i, hf⟩ := hye d c (Nat.le_refl _) hd' hcm hfin
        have hbx := bx_spec hv (i := k.sales.length - (d + 1)) (c := c) (by omega) (by rw [(day_eq hd').1]; exact hcm) (by rw [(day_eq hd').2]; exact hfin)
        have hst := bsuf_step (c := c) hd'
        rw [(day_eq hd').1, (day_eq hd').2] at hbx
        obtain ⟨g1, _, _, g4⟩ := hbx
        (repeat' (first | (first | refine Wo.nil ?_ | refine Wd.nil ?_ | ((first | refine Wo.cons ?_ | refine Wd.cons ?_); (try refine W1.go rfl rfl ?_); ((first | refine W1.skip rfl rfl ?_ | refine W1.lookY (vf := intV) (kk2 d c) key2_ok rfl rfl hf inF ?_ | (refine isEqf ?_; first | refine W1.neq2 rfl rfl (fun hx => absurd rfl hx) (fun _ => ?_) | refine W1.neq2 rfl rfl (fun _ => ?_) (fun hx => absurd hx (fun h => hdn (by have := congrArg Prod.fst h; simp only at this; omega))) | refine W1.eqfB rfl rfl (eq201 (by simp; omega) (by rw [nevs_len]; simp; omega)) (fun hb => ?_) (fun hb => ?_)) | (refine isDel ?_; refine W1.delM (vf := intV) (kk2 d c) key2_ok rfl rfl hf inU (by omega) ?_) | (refine isApp ?_; refine W1.appI (F1 := [_, _]) rfl hown rfl rfl inF (by omega) (fun ov2 Fo' ho' => ?_)) | (refine isLoad ?_; first | refine W1.load1R rfl inF (board_map (lst := lst) hll) inB ?_ | refine W1.load1R rfl inF (show (bcells k sv cv ov _)[0 + 0 + 5]? = some sv from rfl) inB ?_ | refine W1.load rfl inF (board_row0 (lst := lst) hll) ?_ | refine W1.loadR rfl inF (board_row0 (lst := lst) hll) inB ?_ | refine W1.loadAR (l := ints (nevs (lst.take 201) 0 201)) rfl inF (by simp [ints, nevs_len]; omega) inB ?_) | (refine isStore ?_; first | refine W1.storeN (l' := ints (lst.take 201)) rfl rfl (by simp [ints]; omega) inF (splice_all (by simp [ints]; omega)) inU (by simp) (by omega) ?_ | refine W1.storeI (xs := nevs (lst.take 201) 0 c) (j := c) rfl (by omega) rfl (by rw [nevs0_succ]; exact Upd.head) (by rw [nevs_len]; simp; omega) (by omega) ?_) | (refine isIaddra ?_; first | refine W1.iaddrA 0 rfl rfl rfl (by omega) ?_ | refine W1.iaddrA c rfl rfl (by omega) (by omega) ?_) | refine W1.auto ?_ | refine W1.lss rfl rfl (fun _ => ?_) (fun _ => ?_) | refine W1.gtr rfl rfl (fun _ => ?_) (fun _ => ?_) | refine W1.leq rfl rfl (fun _ => ?_) (fun _ => ?_) | refine W1.geq rfl rfl (fun _ => ?_) (fun _ => ?_) | refine W1.eql rfl rfl (fun _ => ?_) (fun _ => ?_) | refine W1.neq rfl rfl (fun _ => ?_) (fun _ => ?_) | refine W1.neq2 rfl rfl (fun _ => ?_) (fun _ => ?_) | refine W1.alloc (fun _ _ => ?_) | refine W1.boxA rfl (fun _ _ => ?_) | (refine isBinQuo ?_; first | refine W1.quoN rfl rfl (by omega) (by omega) (fun _ _ => ?_) | refine W1.quo rfl rfl (by omega) (by omega) ?_) | (refine isIaddrs ?_; first | refine W1.iaddrI inI rfl rfl (by omega) (fun _ _ _ _ _ _ => ?_) | refine W1.iaddrR inR rfl rfl (by omega) (fun _ _ _ _ _ _ _ => ?_)) | (refine isBox ?_; refine W1.boxS inW (by rfl) (fun _ _ => ?_)) | (refine isBslice ?_; refine W1.bslice (fill_all inC rfl) (fun _ _ => ?_))) <;> (try refine ⟨rfl, ?_⟩)))) | (first | refine Ws.seq ?_ | refine Ws.region ?_ | refine Ws.draw (fun bd hbd => ?_) | refine Ws.cond rfl ?_ | refine Ws.skip ?_ | refine Ws.scope ?_ | refine Ws.block ?_ | refine Ws.exit ?_ | refine Ws.ret ?_)))
        rename_i bn hbn
        refine ⟨(d + 1, c + bx k (k.sales.length - (d + 1)) c, ov2, Fo', _, L'.eraseIdx i, bn), ⟨rfl, rfl, trivial⟩, inS, ⟨by show d + 1 ≤ _; omega, ?_, g4, ho', by simp [hla], ?_, hye.erase hf, hbn⟩, by show _ - (d + 1) < _; omega⟩
        · show c + _ ≤ (d + 1) * k.most.toNat
          rw [Nat.succ_mul]; omega
        · show bsuf k k.sales.length 0 = (acc ++ [_]) ++ bsuf k (k.sales.length - (d + 1)) _
          rw [hP, hst, List.append_assoc]; rfl
end Go.Ax
