/-
  Contracts: the least costs, by the reference: its loops.
-/
import Derived.Test.YtmhbmnonichopaaXS0
namespace Go.Ax
set_option maxHeartbeats 8000000
set_option linter.unusedSimpArgs false
set_option linter.unusedVariables false
variable {lo : Nat} {F : Hp}

abbrev nilslc : AV := .slc none 0 0 true 0
abbrev rowSlc (m b : Nat) : AV := .slc (some (b, 0)) m m true 1
/-- the rows that are done, the last one first, and their blocks -/
def rowsF (k : K) (m : Nat) : List Nat → Hp
  | [] => []
  | b :: bs => (b, .cells (ints (lrowL k m bs.length)) true) :: rowsF k m bs
def outer (p m : Nat) (bs : List Nat) : List AV := List.replicate p nilslc ++ bs.map (rowSlc m)
def mOf (k : K) : Nat := k.sales.length * k.most.toNat + 1
theorem outer_get0 {p m b : Nat} {bs : List Nat} : (outer p m (b :: bs))[0 + p * 1]? = some (rowSlc m b) := by rw [Nat.zero_add, Nat.mul_one]; exact rep_get0
theorem outer_get1 {p m b b1 : Nat} {bs : List Nat} : (outer p m (b :: b1 :: bs))[0 + (p + 1) * 1]? = some (rowSlc m b1) := by rw [Nat.zero_add, Nat.mul_one]; exact rep_get1
theorem outer_set {p p' m b : Nat} {bs : List Nat} (h : p' = p + 1) : splice (outer p' m bs) (0 + p * 1) [rowSlc m b] = outer p m (b :: bs) := by subst h; rw [Nat.zero_add, Nat.mul_one]; exact rep_splice
theorem outer_len (p m : Nat) (bs : List Nat) : (outer p m bs).length = p + bs.length := by simp [outer]
theorem mOf_eq {k : K} (hv : Vk k) : (k.sales.length : Int) * k.most + 1 = (mOf k : Nat) := by
  have := hv.most1
  unfold mOf
  rw [Int.natCast_add, Int.natCast_mul, Int.toNat_of_nonneg this]
  rfl
theorem mOf_le {k : K} (hv : Vk k) : mOf k ≤ 201 := by
  have h1 := hv.most2
  have h2 := hv.n2
  have : k.sales.length * k.most.toNat ≤ 20 * 10 := Nat.mul_le_mul h2 (by omega)
  unfold mOf
  omega
theorem nm_in {k : K} (hv : Vk k) : 0 ≤ (k.sales.length : Int) * k.most ∧ (k.sales.length : Int) * k.most ≤ 200 := by
  have h1 := mOf_eq hv
  have h2 := mOf_le hv
  have h3 := hv.most1
  exact ⟨Int.mul_nonneg (by omega) h3, by omega⟩

theorem lrowL_in {k : K} (hv : Vk k) {m i j : Nat} (hi : i ≤ k.sales.length) (hj : j < m) : 0 ≤ (lrowL k m i).getD j 0 ∧ (lrowL k m i).getD j 0 ≤ never := by
  rw [lrowL_get k hj]; exact lrow_in hv m i hi j
theorem cost_in {k : K} (hv : Vk k) {d x : Nat} (hd : d < k.sales.length) (hx : (x : Int) ≤ k.most) : 0 ≤ (x : Int) * k.costs.getD d 0 ∧ (x : Int) * k.costs.getD d 0 ≤ 1000000 := by
  have h1 := hv.cost d hd
  have h2 := hv.most2
  have h5 : (x : Int) * k.costs.getD d 0 ≤ 10 * 100000 := Int.mul_le_mul (by omega) h1.2 h1.1 (by omega)
  exact ⟨Int.mul_nonneg (by omega) h1.1, by omega⟩
theorem set_get {xs : List Int} {c : Nat} {u : Int} (h : c < xs.length) : (xs.set c u).getD c 0 = u := by simp [List.getD, h]

theorem lmin_stop {k : K} {d m c x : Nat} {nxt : Nat → Int} (h : m ≤ c + x) : ∀ {X : Nat}, x ≤ X → lmin k d m nxt c X = lmin k d m nxt c x
  | 0, hx => by rw [Nat.le_zero.1 hx]
  | X + 1, hx => by
    rcases Nat.lt_or_ge x (X + 1) with h1 | h1
    · simp only [lmin]
      rw [if_neg (by omega)]
      exact lmin_stop h (by omega)
    · rw [show x = X + 1 by omega]
theorem outer_nil (p m : Nat) : outer p m [] = List.replicate p nilslc := by simp [outer]
theorem outer_zero (m : Nat) (bs : List Nat) : outer 0 m bs = bs.map (rowSlc m) := by simp [outer]
theorem lmin_succ {k : K} {d m c x : Nat} {nxt : Nat → Int} (h : c + x < m) : lmin k d m nxt c (x + 1) = min (lmin k d m nxt c x) (lcand k d nxt c x) := if_pos h
theorem lrow_succ (k : K) (m q c : Nat) : lmin k (k.sales.length - (q + 1)) m (lrow k m q) c (k.most.toNat + 1) = lrow k m (q + 1) c := rfl
theorem lmin_zero (k : K) (d m c : Nat) (nxt : Nat → Int) : lmin k d m nxt c 0 = never := rfl
theorem lrowL_map (k : K) (m q : Nat) : (List.range m).map (lrow k m q) = lrowL k m q := rfl
theorem lrowL_zero (k : K) (m : Nat) : List.replicate m 0 = lrowL k m 0 := by
  refine List.ext_getElem? fun i => ?_
  by_cases h : i < m <;> simp [lrowL, lrow, h]
theorem lcand_in' {k : K} {d c x : Nat} {nxt : Nat → Int} (h : nd k d ≤ (c : Int) + x ∧ (c : Int) + x ≤ rm k d) : lcand k d nxt c x = (x : Int) * k.costs.getD d 0 + nxt (c + x) := if_pos h
theorem lcand_out {k : K} {d c x : Nat} {nxt : Nat → Int} (h : ¬ (nd k d ≤ (c : Int) + x ∧ (c : Int) + x ≤ rm k d)) : lcand k d nxt c x = never := if_neg h
theorem sub_head {b : Nat} {l l' : List Int} {G F : Hp} (h : l' = l) (hF : List.Sublist G F) : List.Sublist ((b, ABlk.cells (ints l) true) :: G) ((b, ABlk.cells (ints l') true) :: F) := by subst h; exact hF.cons_cons _
/-- the rows of least costs, laid for reading -/
structure LeastR (k : K) (F : Hp) (v : AV) (bs : List Nat) : Prop where
  len : bs.length = k.sales.length + 1
  row : RowZ (fun b => [rowSlc (mOf k) b]) 1 F v bs
  at_ : ∀ d, d ≤ k.sales.length → (bs.getD d 0, .cells (ints (lrowL k (mOf k) (k.sales.length - d))) true) ∈ F
theorem LeastR.mono {k : K} {F F' : Hp} {v : AV} {bs : List Nat} (h : LeastR k F v bs) (hs : F ⊆ F') : LeastR k F' v bs := ⟨h.len, h.row.mono hs, fun d hd => hs (h.at_ d hd)⟩
theorem rowsF_mem {k : K} {m : Nat} : ∀ {bs : List Nat} {d : Nat}, d < bs.length → (bs.getD d 0, ABlk.cells (ints (lrowL k m (bs.length - (d + 1)))) true) ∈ rowsF k m bs
  | [], d, h => absurd h (Nat.not_lt_zero _)
  | b :: bs, 0, _ => by simp [rowsF]
  | b :: bs, d + 1, h => by
    have := @rowsF_mem k m bs d (by simpa using h)
    simp only [rowsF, List.getD_cons_succ, List.length_cons]
    rw [show bs.length + 1 - (d + 1 + 1) = bs.length - (d + 1) by omega]
    exact List.mem_cons_of_mem _ this
attribute [local irreducible] part lrowL lrow lmin outer lcand nd rm
theorem f54_ok {k : K} {sv cv : AV} (h : KVal F k sv cv) (hv : Vk k) : Fn tblW lo (fnv 54) [.agg (kl k sv cv)] F fun v F' => ∃ bs Fo, LeastR k (Fo ++ F) v bs ∧ F' = Fo ++ F := by
  have hk := h
  obtain ⟨hs, hc, hls, hlc⟩ := h
  have h7 := hv.n2
  have h8 := hv.n3
  have hnm := nm_in hv
  have hmm := mOf_le hv
  have hm1 := hv.most1
  have hm2 := hv.most2
  refine Fn.func (fn := af54) rfl rfl ?_
  (repeat' (first | (first | refine Wo.nil ?_ | refine Wd.nil ?_ | ((first | refine Wo.cons ?_ | refine Wd.cons ?_); (try refine W1.go rfl rfl ?_); ((first | refine k1 ?_ | refine k2 ?_ | refine W1.val (v := .int .i64 ((mOf k : Nat) : Int)) rfl ?_ | (refine isCall ?_; first | refine W1.pure rfl rfl (f21_ok (by repeat (first | assumption | apply KVal.cons))) ?_ | refine W1.callM rfl rfl ((f44_ok (by repeat (first | assumption | apply KVal.cons)) hv).mono fun v F' h => ?_)) | (refine isMkslc ?_; first | refine W1.mkslcV (k.sales.length + 1) rfl rfl (by omega) (by unfold room; omega) (fun bo hbo => ?_) | refine W1.mkslcIz (mOf k) rfl rfl (mOf_eq hv) (by unfold room; have := mOf_le hv; omega) (fun br hbr => ?_)) | (refine isIaddrs ?_; first | refine W1.iaddrz (k.sales.length - q) rfl rfl (by omega) (by omega) ?_ | refine W1.iaddrRz (j := k.sales.length - q) inR rfl rfl (by omega) (by omega) (fun _ _ _ _ _ _ _ => ?_) | refine W1.iaddrz (k.sales.length - q + 1) rfl rfl (by omega) (by omega) ?_ | refine W1.iaddrz (c + x) rfl rfl (by omega) (by omega) ?_ | refine W1.iaddr (j := c) rfl rfl (by omega) ?_ | refine W1.iaddrIz (k.sales.length - q) inI rfl rfl (by omega) (by omega) (fun _ _ _ _ _ _ => ?_)) | (refine isStore ?_; first | refine W1.storeN (l' := outer (k.sales.length - q) (mOf k) (br :: bs)) rfl rfl rfl inF (outer_set (by omega)) inU (by rw [outer_len]; omega) (by omega) ?_ | refine W1.storeI (j := c) rfl (by omega) rfl inU (by simp only [List.length_set, part_len]; omega) (by omega) ?_) | (refine isLoad ?_; first | refine W1.loadI (xs := (part (lrow k (mOf k) q) (mOf k) c).set c _) (j := c) rfl (by omega) inF (by simp only [List.length_set, part_len]; omega) ?_ | refine W1.loadI (xs := lrowL k (mOf k) bs'.length) (j := c + x) rfl (by omega) inF (by rw [lrowL_len]; omega) ?_ | refine W1.load1 rfl inF outer_get0 ?_ | refine W1.load1 rfl inF outer_get1 ?_) | refine W1.auto ?_ | ((first | refine kA ?_ | refine kB ?_ | refine kC ?_ | refine kD ?_ | refine kE ?_ | refine kF ?_ | refine kG ?_); refine ⟨fun _ => ?_, fun _ => ?_⟩) | refine W1.alloc (fun _ _ => ?_) | refine W1.boxA rfl (fun _ _ => ?_) | refine kq (fun _ _ => ?_) | refine kp ?_ | (refine isIaddrs ?_; first | refine W1.iaddrI inI rfl rfl (by omega) (fun _ _ _ _ _ _ => ?_) | refine W1.iaddrR inR rfl rfl (by omega) (fun _ _ _ _ _ _ _ => ?_)) | (refine isBox ?_; refine W1.boxS inW (by rfl) (fun _ _ => ?_)) | (refine isBslice ?_; refine W1.bslice (fill_all inC rfl) (fun _ _ => ?_))) <;> (try refine ⟨fun _ => rfl, ?_⟩)))) | (first | refine Ws.seq ?_ | refine Ws.region ?_ | refine Ws.draw (fun bd hbd => ?_) | refine Ws.cond rfl ?_ | refine Ws.skip ?_ | refine Ws.scope ?_ | refine Ws.block ?_ | refine Ws.exit ?_ | refine Ws.ret ?_)))
  obtain ⟨Fo, ho, rfl⟩ := h
  rename_i b0 hb0
  have hov : RowR (Fo ++ ((b0, .cells (kl k sv cv) true) :: F)) v (bnds k k.sales.length) := ho.rowR (List.subset_append_left _ _)
  have hbl := bnds_len k k.sales.length
  (repeat' (first | (first | refine Wo.nil ?_ | refine Wd.nil ?_ | ((first | refine Wo.cons ?_ | refine Wd.cons ?_); (try refine W1.go rfl rfl ?_); ((first | refine k1 ?_ | refine k2 ?_ | refine W1.val (v := .int .i64 ((mOf k : Nat) : Int)) rfl ?_ | (refine isCall ?_; first | refine W1.pure rfl rfl (f21_ok (by repeat (first | assumption | apply KVal.cons))) ?_ | refine W1.callM rfl rfl ((f44_ok (by repeat (first | assumption | apply KVal.cons)) hv).mono fun v F' h => ?_)) | (refine isMkslc ?_; first | refine W1.mkslcV (k.sales.length + 1) rfl rfl (by omega) (by unfold room; omega) (fun bo hbo => ?_) | refine W1.mkslcIz (mOf k) rfl rfl (mOf_eq hv) (by unfold room; have := mOf_le hv; omega) (fun br hbr => ?_)) | (refine isIaddrs ?_; first | refine W1.iaddrz (k.sales.length - q) rfl rfl (by omega) (by omega) ?_ | refine W1.iaddrRz (j := k.sales.length - q) inR rfl rfl (by omega) (by omega) (fun _ _ _ _ _ _ _ => ?_) | refine W1.iaddrz (k.sales.length - q + 1) rfl rfl (by omega) (by omega) ?_ | refine W1.iaddrz (c + x) rfl rfl (by omega) (by omega) ?_ | refine W1.iaddr (j := c) rfl rfl (by omega) ?_ | refine W1.iaddrIz (k.sales.length - q) inI rfl rfl (by omega) (by omega) (fun _ _ _ _ _ _ => ?_)) | (refine isStore ?_; first | refine W1.storeN (l' := outer (k.sales.length - q) (mOf k) (br :: bs)) rfl rfl rfl inF (outer_set (by omega)) inU (by rw [outer_len]; omega) (by omega) ?_ | refine W1.storeI (j := c) rfl (by omega) rfl inU (by simp only [List.length_set, part_len]; omega) (by omega) ?_) | (refine isLoad ?_; first | refine W1.loadI (xs := (part (lrow k (mOf k) q) (mOf k) c).set c _) (j := c) rfl (by omega) inF (by simp only [List.length_set, part_len]; omega) ?_ | refine W1.loadI (xs := lrowL k (mOf k) bs'.length) (j := c + x) rfl (by omega) inF (by rw [lrowL_len]; omega) ?_ | refine W1.load1 rfl inF outer_get0 ?_ | refine W1.load1 rfl inF outer_get1 ?_) | refine W1.auto ?_ | ((first | refine kA ?_ | refine kB ?_ | refine kC ?_ | refine kD ?_ | refine kE ?_ | refine kF ?_ | refine kG ?_); refine ⟨fun _ => ?_, fun _ => ?_⟩) | refine W1.alloc (fun _ _ => ?_) | refine W1.boxA rfl (fun _ _ => ?_) | refine kq (fun _ _ => ?_) | refine kp ?_ | (refine isIaddrs ?_; first | refine W1.iaddrI inI rfl rfl (by omega) (fun _ _ _ _ _ _ => ?_) | refine W1.iaddrR inR rfl rfl (by omega) (fun _ _ _ _ _ _ _ => ?_)) | (refine isBox ?_; refine W1.boxS inW (by rfl) (fun _ _ => ?_)) | (refine isBslice ?_; refine W1.bslice (fill_all inC rfl) (fun _ _ => ?_))) <;> (try refine ⟨fun _ => rfl, ?_⟩)))) | (first | refine Ws.seq ?_ | refine Ws.region ?_ | refine Ws.draw (fun bd hbd => ?_) | refine Ws.cond rfl ?_ | refine Ws.skip ?_ | refine Ws.scope ?_ | refine Ws.block ?_ | refine Ws.exit ?_ | refine Ws.ret ?_)))
  refine Ws.loopD 1329227995784915872903807060280082880 rfl [(1, _), (3, _), (4, _), (5, _)] ⟨inW, inW, inW, inW, trivial⟩ [1, 3, 4, 5] rfl rfl (X := Nat × List Nat) (fun p => [(6, .int .i64 ((k.sales.length : Int) - (p.1 : Nat)))])
    (fun p => rowsF k (mOf k) p.2 ++ ((bo, .cells (outer (k.sales.length + 1 - p.1) (mOf k) p.2) true) :: (Fo ++ ((b0, .cells (kl k sv cv) true) :: F))))
    (fun p => p.1 ≤ k.sales.length + 1 ∧ p.2.length = p.1) (fun p => k.sales.length + 1 - p.1) (0, []) ⟨(by show AV.int .i64 (_ : Int) = AV.int .i64 _; congr 1 <;> omega), trivial⟩ (by show List.Sublist ([] ++ ((bo, ABlk.cells (outer (k.sales.length + 1 - 0) (mOf k) []) true) :: _)) _; rw [outer_nil]; exact List.Sublist.refl _) ⟨Nat.zero_le _, rfl⟩ ?_
  rintro ⟨q, bs⟩ B ⟨hq, hbs⟩
  simp only at hq hbs ⊢
  (repeat' (first | (first | refine Wo.nil ?_ | refine Wd.nil ?_ | ((first | refine Wo.cons ?_ | refine Wd.cons ?_); (try refine W1.go rfl rfl ?_); ((first | refine k1 ?_ | refine k2 ?_ | refine W1.val (v := .int .i64 ((mOf k : Nat) : Int)) rfl ?_ | (refine isCall ?_; first | refine W1.pure rfl rfl (f21_ok (by repeat (first | assumption | apply KVal.cons))) ?_ | refine W1.callM rfl rfl ((f44_ok (by repeat (first | assumption | apply KVal.cons)) hv).mono fun v F' h => ?_)) | (refine isMkslc ?_; first | refine W1.mkslcV (k.sales.length + 1) rfl rfl (by omega) (by unfold room; omega) (fun bo hbo => ?_) | refine W1.mkslcIz (mOf k) rfl rfl (mOf_eq hv) (by unfold room; have := mOf_le hv; omega) (fun br hbr => ?_)) | (refine isIaddrs ?_; first | refine W1.iaddrz (k.sales.length - q) rfl rfl (by omega) (by omega) ?_ | refine W1.iaddrRz (j := k.sales.length - q) inR rfl rfl (by omega) (by omega) (fun _ _ _ _ _ _ _ => ?_) | refine W1.iaddrz (k.sales.length - q + 1) rfl rfl (by omega) (by omega) ?_ | refine W1.iaddrz (c + x) rfl rfl (by omega) (by omega) ?_ | refine W1.iaddr (j := c) rfl rfl (by omega) ?_ | refine W1.iaddrIz (k.sales.length - q) inI rfl rfl (by omega) (by omega) (fun _ _ _ _ _ _ => ?_)) | (refine isStore ?_; first | refine W1.storeN (l' := outer (k.sales.length - q) (mOf k) (br :: bs)) rfl rfl rfl inF (outer_set (by omega)) inU (by rw [outer_len]; omega) (by omega) ?_ | refine W1.storeI (j := c) rfl (by omega) rfl inU (by simp only [List.length_set, part_len]; omega) (by omega) ?_) | (refine isLoad ?_; first | refine W1.loadI (xs := (part (lrow k (mOf k) q) (mOf k) c).set c _) (j := c) rfl (by omega) inF (by simp only [List.length_set, part_len]; omega) ?_ | refine W1.loadI (xs := lrowL k (mOf k) bs'.length) (j := c + x) rfl (by omega) inF (by rw [lrowL_len]; omega) ?_ | refine W1.load1 rfl inF outer_get0 ?_ | refine W1.load1 rfl inF outer_get1 ?_) | refine W1.auto ?_ | ((first | refine kA ?_ | refine kB ?_ | refine kC ?_ | refine kD ?_ | refine kE ?_ | refine kF ?_ | refine kG ?_); refine ⟨fun _ => ?_, fun _ => ?_⟩) | refine W1.alloc (fun _ _ => ?_) | refine W1.boxA rfl (fun _ _ => ?_) | refine kq (fun _ _ => ?_) | refine kp ?_ | (refine isIaddrs ?_; first | refine W1.iaddrI inI rfl rfl (by omega) (fun _ _ _ _ _ _ => ?_) | refine W1.iaddrR inR rfl rfl (by omega) (fun _ _ _ _ _ _ _ => ?_)) | (refine isBox ?_; refine W1.boxS inW (by rfl) (fun _ _ => ?_)) | (refine isBslice ?_; refine W1.bslice (fill_all inC rfl) (fun _ _ => ?_))) <;> (try refine ⟨fun _ => rfl, ?_⟩)))) | (first | refine Ws.seq ?_ | refine Ws.region ?_ | refine Ws.draw (fun bd hbd => ?_) | refine Ws.cond rfl ?_ | refine Ws.skip ?_ | refine Ws.scope ?_ | refine Ws.block ?_ | refine Ws.exit ?_ | refine Ws.ret ?_)))
  · refine Ws.loopD 1329227995784915872903807058132861312 rfl [(1, _), (3, _), (4, _), (5, _), (6, _)] ⟨inW, inW, inW, inW, inW, trivial⟩ [1, 3, 4, 5, 6] rfl rfl (X := Nat) (fun c => [(7, .int .i64 (c : Nat))])
      (fun c => (br, .cells (ints (part (lrow k (mOf k) q) (mOf k) c)) true) :: (rowsF k (mOf k) bs ++ ((bo, .cells (outer (k.sales.length - q) (mOf k) (br :: bs)) true) :: (Fo ++ ((b0, .cells (kl k sv cv) true) :: F)))))
      (fun c => c ≤ mOf k ∧ (q = 0 → c = 0)) (fun c => mOf k - c) 0 ⟨rfl, trivial⟩ (by rw [part_zero]; exact List.Sublist.refl _) ⟨Nat.zero_le _, fun _ => rfl⟩ ?_
    rintro c B2 ⟨hc1, hc2⟩
    (repeat' (first | (first | refine Wo.nil ?_ | refine Wd.nil ?_ | ((first | refine Wo.cons ?_ | refine Wd.cons ?_); (try refine W1.go rfl rfl ?_); ((first | refine k1 ?_ | refine k2 ?_ | refine W1.val (v := .int .i64 ((mOf k : Nat) : Int)) rfl ?_ | (refine isCall ?_; first | refine W1.pure rfl rfl (f21_ok (by repeat (first | assumption | apply KVal.cons))) ?_ | refine W1.callM rfl rfl ((f44_ok (by repeat (first | assumption | apply KVal.cons)) hv).mono fun v F' h => ?_)) | (refine isMkslc ?_; first | refine W1.mkslcV (k.sales.length + 1) rfl rfl (by omega) (by unfold room; omega) (fun bo hbo => ?_) | refine W1.mkslcIz (mOf k) rfl rfl (mOf_eq hv) (by unfold room; have := mOf_le hv; omega) (fun br hbr => ?_)) | (refine isIaddrs ?_; first | refine W1.iaddrz (k.sales.length - q) rfl rfl (by omega) (by omega) ?_ | refine W1.iaddrRz (j := k.sales.length - q) inR rfl rfl (by omega) (by omega) (fun _ _ _ _ _ _ _ => ?_) | refine W1.iaddrz (k.sales.length - q + 1) rfl rfl (by omega) (by omega) ?_ | refine W1.iaddrz (c + x) rfl rfl (by omega) (by omega) ?_ | refine W1.iaddr (j := c) rfl rfl (by omega) ?_ | refine W1.iaddrIz (k.sales.length - q) inI rfl rfl (by omega) (by omega) (fun _ _ _ _ _ _ => ?_)) | (refine isStore ?_; first | refine W1.storeN (l' := outer (k.sales.length - q) (mOf k) (br :: bs)) rfl rfl rfl inF (outer_set (by omega)) inU (by rw [outer_len]; omega) (by omega) ?_ | refine W1.storeI (j := c) rfl (by omega) rfl inU (by simp only [List.length_set, part_len]; omega) (by omega) ?_) | (refine isLoad ?_; first | refine W1.loadI (xs := (part (lrow k (mOf k) q) (mOf k) c).set c _) (j := c) rfl (by omega) inF (by simp only [List.length_set, part_len]; omega) ?_ | refine W1.loadI (xs := lrowL k (mOf k) bs'.length) (j := c + x) rfl (by omega) inF (by rw [lrowL_len]; omega) ?_ | refine W1.load1 rfl inF outer_get0 ?_ | refine W1.load1 rfl inF outer_get1 ?_) | refine W1.auto ?_ | ((first | refine kA ?_ | refine kB ?_ | refine kC ?_ | refine kD ?_ | refine kE ?_ | refine kF ?_ | refine kG ?_); refine ⟨fun _ => ?_, fun _ => ?_⟩) | refine W1.alloc (fun _ _ => ?_) | refine W1.boxA rfl (fun _ _ => ?_) | refine kq (fun _ _ => ?_) | refine kp ?_ | (refine isIaddrs ?_; first | refine W1.iaddrI inI rfl rfl (by omega) (fun _ _ _ _ _ _ => ?_) | refine W1.iaddrR inR rfl rfl (by omega) (fun _ _ _ _ _ _ _ => ?_)) | (refine isBox ?_; refine W1.boxS inW (by rfl) (fun _ _ => ?_)) | (refine isBslice ?_; refine W1.bslice (fill_all inC rfl) (fun _ _ => ?_))) <;> (try refine ⟨fun _ => rfl, ?_⟩)))) | (first | refine Ws.seq ?_ | refine Ws.region ?_ | refine Ws.draw (fun bd hbd => ?_) | refine Ws.cond rfl ?_ | refine Ws.skip ?_ | refine Ws.scope ?_ | refine Ws.block ?_ | refine Ws.exit ?_ | refine Ws.ret ?_)))
    · refine Ws.loopD 1329227995784915872901555260466659584 rfl [(1, _), (3, _), (4, _), (5, _), (6, _), (7, _), (39, _), (40, _), (41, _)] ⟨inW, inW, inW, inW, inW, inW, inW, inW, inW, trivial⟩ [1, 3, 4, 5, 6, 7, 39, 40, 41] rfl rfl (X := Nat) (fun x => [(8, .int .i64 (x : Nat))])
        (fun x => (br, .cells (ints ((part (lrow k (mOf k) q) (mOf k) c).set c (lmin k (k.sales.length - q) (mOf k) (lrow k (mOf k) (q - 1)) c x))) true) :: (rowsF k (mOf k) bs ++ ((bo, .cells (outer (k.sales.length - q) (mOf k) (br :: bs)) true) :: (Fo ++ ((b0, .cells (kl k sv cv) true) :: F)))))
        (fun x => (x : Int) ≤ k.most + 1) (fun x => k.most.toNat + 1 - x) 0 ⟨rfl, trivial⟩ (sub_head (by rw [lmin_zero]) (List.Sublist.refl _)) (by have := hv.most1; show ((0 : Nat) : Int) ≤ _; omega) ?_
      intro x B3 hx
      obtain ⟨b1, bs', rfl⟩ : ∃ b1 bs', bs = b1 :: bs' := by
        cases bs with
        | nil => simp at hbs; omega
        | cons b1 bs' => exact ⟨b1, bs', rfl⟩
      have hmem1 : ∀ G : Hp, (b1, ABlk.cells (ints (lrowL k (mOf k) bs'.length)) true) ∈ rowsF k (mOf k) (b1 :: bs') ++ G := fun G => by simp [rowsF]
      have hmem2 := hmem1 ((bo, .cells (outer (k.sales.length - q) (mOf k) (br :: b1 :: bs')) true) :: (Fo ++ ((b0, .cells (kl k sv cv) true) :: F)))
      have hn : never = 1125899906842624 := rfl
      have hq1 : bs'.length = q - 1 := by simp at hbs; omega
      have hci : (x : Int) ≤ k.most → _ := fun h => cost_in hv (d := k.sales.length - q) (x := x) (by omega) h
      have hri : c + x < mOf k → _ := fun h => lrowL_in hv (m := mOf k) (i := bs'.length) (j := c + x) (by omega) h
      have hpb : (bnds k k.sales.length).getD (k.sales.length - q) (0, 0) = (nd k (k.sales.length - q), rm k (k.sales.length - q)) := bnds_get k (by omega)
      have hg0 : c + x < mOf k → (lrowL k (mOf k) bs'.length).getD (c + x) 0 = lrow k (mOf k) (q - 1) (c + x) := fun h => by rw [lrowL_get k h, hq1]
      have hg1 := set_get (xs := part (lrow k (mOf k) q) (mOf k) c) (c := c) (u := lmin k (k.sales.length - q) (mOf k) (lrow k (mOf k) (q - 1)) c x) (by rw [part_len]; omega)
      have hlm := lmin_le k (k.sales.length - q) (mOf k) (lrow k (mOf k) (q - 1)) c x
      have hs1 : c + x < mOf k → lmin k (k.sales.length - q) (mOf k) (lrow k (mOf k) (q - 1)) c (x + 1) = min (lmin k (k.sales.length - q) (mOf k) (lrow k (mOf k) (q - 1)) c x) (lcand k (k.sales.length - q) (lrow k (mOf k) (q - 1)) c x) := fun h => lmin_succ h
      have hdone : ∀ X, X ≤ k.most.toNat + 1 → (mOf k ≤ c + X ∨ X = k.most.toNat + 1) → lmin k (k.sales.length - q) (mOf k) (lrow k (mOf k) (q - 1)) c X = lrow k (mOf k) q c := fun X hX h => by
        obtain ⟨q', rfl⟩ : ∃ q', q = q' + 1 := ⟨q - 1, by omega⟩
        rcases h with h | h
        · exact (lmin_stop h hX).symm.trans (lrow_succ k _ q' c)
        · subst h; exact lrow_succ k _ q' c
      have hb1 : ((bnds k k.sales.length).getD (k.sales.length - q) (0, 0)).1 = nd k (k.sales.length - q) := by rw [hpb]
      have hb2 : ((bnds k k.sales.length).getD (k.sales.length - q) (0, 0)).2 = rm k (k.sales.length - q) := by rw [hpb]
      have hin : nd k (k.sales.length - q) ≤ (c : Int) + x → (c : Int) + x ≤ rm k (k.sales.length - q) → lcand k (k.sales.length - q) (lrow k (mOf k) (q - 1)) c x = (x : Int) * k.costs.getD (k.sales.length - q) 0 + lrow k (mOf k) (q - 1) (c + x) := fun h1 h2 => lcand_in' ⟨h1, h2⟩
      have hout : ¬ (nd k (k.sales.length - q) ≤ (c : Int) + x ∧ (c : Int) + x ≤ rm k (k.sales.length - q)) → lcand k (k.sales.length - q) (lrow k (mOf k) (q - 1)) c x = never := fun h => lcand_out h
      clear hpb
      (repeat' (first | (first | refine Wo.nil ?_ | refine Wd.nil ?_ | ((first | refine Wo.cons ?_ | refine Wd.cons ?_); (try refine W1.go rfl rfl ?_); ((first | refine k1 ?_ | refine k2 ?_ | refine W1.val (v := .int .i64 ((mOf k : Nat) : Int)) rfl ?_ | (refine isCall ?_; first | refine W1.pure rfl rfl (f21_ok (by repeat (first | assumption | apply KVal.cons))) ?_ | refine W1.callM rfl rfl ((f44_ok (by repeat (first | assumption | apply KVal.cons)) hv).mono fun v F' h => ?_)) | (refine isMkslc ?_; first | refine W1.mkslcV (k.sales.length + 1) rfl rfl (by omega) (by unfold room; omega) (fun bo hbo => ?_) | refine W1.mkslcIz (mOf k) rfl rfl (mOf_eq hv) (by unfold room; have := mOf_le hv; omega) (fun br hbr => ?_)) | (refine isIaddrs ?_; first | refine W1.iaddrz (k.sales.length - q) rfl rfl (by omega) (by omega) ?_ | refine W1.iaddrRz (j := k.sales.length - q) inR rfl rfl (by omega) (by omega) (fun _ _ _ _ _ _ _ => ?_) | refine W1.iaddrz (k.sales.length - q + 1) rfl rfl (by omega) (by omega) ?_ | refine W1.iaddrz (c + x) rfl rfl (by omega) (by omega) ?_ | refine W1.iaddr (j := c) rfl rfl (by omega) ?_ | refine W1.iaddrIz (k.sales.length - q) inI rfl rfl (by omega) (by omega) (fun _ _ _ _ _ _ => ?_)) | (refine isStore ?_; first | refine W1.storeN (l' := outer (k.sales.length - q) (mOf k) (br :: bs)) rfl rfl rfl inF (outer_set (by omega)) inU (by rw [outer_len]; omega) (by omega) ?_ | refine W1.storeI (j := c) rfl (by omega) rfl inU (by simp only [List.length_set, part_len]; omega) (by omega) ?_) | (refine isLoad ?_; first | refine W1.loadI (xs := (part (lrow k (mOf k) q) (mOf k) c).set c _) (j := c) rfl (by omega) inF (by simp only [List.length_set, part_len]; omega) ?_ | refine W1.loadI (xs := lrowL k (mOf k) bs'.length) (j := c + x) rfl (by omega) inF (by rw [lrowL_len]; omega) ?_ | refine W1.load1 rfl inF outer_get0 ?_ | refine W1.load1 rfl inF outer_get1 ?_) | refine W1.auto ?_ | ((first | refine kA ?_ | refine kB ?_ | refine kC ?_ | refine kD ?_ | refine kE ?_ | refine kF ?_ | refine kG ?_); refine ⟨fun _ => ?_, fun _ => ?_⟩) | refine W1.alloc (fun _ _ => ?_) | refine W1.boxA rfl (fun _ _ => ?_) | refine kq (fun _ _ => ?_) | refine kp ?_ | (refine isIaddrs ?_; first | refine W1.iaddrI inI rfl rfl (by omega) (fun _ _ _ _ _ _ => ?_) | refine W1.iaddrR inR rfl rfl (by omega) (fun _ _ _ _ _ _ _ => ?_)) | (refine isBox ?_; refine W1.boxS inW (by rfl) (fun _ _ => ?_)) | (refine isBslice ?_; refine W1.bslice (fill_all inC rfl) (fun _ _ => ?_))) <;> (try refine ⟨fun _ => rfl, ?_⟩)))) | (first | refine Ws.seq ?_ | refine Ws.region ?_ | refine Ws.draw (fun bd hbd => ?_) | refine Ws.cond rfl ?_ | refine Ws.skip ?_ | refine Ws.scope ?_ | refine Ws.block ?_ | refine Ws.exit ?_ | refine Ws.ret ?_)))
      · refine ⟨x + 1, ⟨rfl, trivial⟩, ?_, by show ((x + 1 : Nat) : Int) ≤ _; omega, by show _ - (x + 1) < _; omega⟩
        refine sub_head ?_ (List.Sublist.refl _)
        have hcx : c + x < mOf k := by omega
        rw [List.set_set, hg1, hg0 hcx, hs1 hcx, hin (by omega) (by omega)]
      · refine ⟨x + 1, ⟨rfl, trivial⟩, ?_, by show ((x + 1 : Nat) : Int) ≤ _; omega, by show _ - (x + 1) < _; omega⟩
        refine sub_head ?_ (List.Sublist.refl _)
        rw [hs1 (by omega), hout (by omega)]
        congr 1; omega
      · refine ⟨x + 1, ⟨rfl, trivial⟩, ?_, by show ((x + 1 : Nat) : Int) ≤ _; omega, by show _ - (x + 1) < _; omega⟩
        refine sub_head ?_ (List.Sublist.refl _)
        rw [hs1 (by omega), hout (by omega)]
        congr 1; omega
      all_goals (
        refine ⟨c + 1, ⟨rfl, trivial⟩, ?_, ⟨by show c + 1 ≤ _; omega, fun h => by omega⟩, by show _ - (c + 1) < _; omega⟩
        refine sub_head ?_ (List.Sublist.refl _)
        rw [hdone x (by omega) (by omega), part_set _ (by omega)])
    · have hq0 : q = 0 := by omega
      refine ⟨(q + 1, br :: bs), ⟨(by show AV.int .i64 (_ : Int) = AV.int .i64 _; congr 1; omega), trivial⟩, ?_, ⟨by show q + 1 ≤ _; omega, by show (br :: bs).length = q + 1; rw [List.length_cons, hbs]⟩, by show _ - (q + 1) < _; omega⟩
      refine sub_head ?_ (by show List.Sublist (rowsF k (mOf k) bs ++ ((bo, ABlk.cells (outer (k.sales.length + 1 - (q + 1)) (mOf k) (br :: bs)) true) :: _)) _; rw [show k.sales.length + 1 - (q + 1) = k.sales.length - q by omega]; exact List.Sublist.refl _)
      rw [hc2 hq0, hbs, hq0, part_zero, lrowL_zero]
    · refine ⟨(q + 1, br :: bs), ⟨(by show AV.int .i64 (_ : Int) = AV.int .i64 _; congr 1; omega), trivial⟩, ?_, ⟨by show q + 1 ≤ _; omega, by show (br :: bs).length = q + 1; rw [List.length_cons, hbs]⟩, by show _ - (q + 1) < _; omega⟩
      refine sub_head ?_ (by show List.Sublist (rowsF k (mOf k) bs ++ ((bo, ABlk.cells (outer (k.sales.length + 1 - (q + 1)) (mOf k) (br :: bs)) true) :: _)) _; rw [show k.sales.length + 1 - (q + 1) = k.sales.length - q by omega]; exact List.Sublist.refl _)
      rw [show c = mOf k by omega, part_all, hbs, lrowL_map]
  · have hqn : q = k.sales.length + 1 := by omega
    refine FnEnd.ret (F' := (rowsF k (mOf k) bs ++ [(bo, ABlk.cells (outer (k.sales.length + 1 - q) (mOf k) bs) true)]) ++ F) (vs := [_]) (by (first | refine ResF.tmp inW ?_ | refine ResF.cell rfl inF inP ?_); exact ResF.nil) ?_ ⟨bs, _, ⟨by omega, ?_, fun d hd => ?_⟩, rfl⟩
    · rw [List.append_assoc]
      exact List.Sublist.append (List.Sublist.refl _) (List.Sublist.cons_cons _ ((List.sublist_cons_self _ _).trans (List.sublist_append_right _ _)))
    · show RowZ _ _ _ (.slc (some (bo, 0)) (k.sales.length + 1) (k.sales.length + 1) true 1) bs
      refine RowZ.lit (f := fun b => [rowSlc (mOf k) b]) (n := 1) (xs := bs) (own := true) (l := outer (k.sales.length + 1 - q) (mOf k) bs) (fun _ => rfl) (List.mem_append_left _ (List.mem_append_right _ (List.mem_singleton.2 rfl))) ?_ (by omega)
      rw [show k.sales.length + 1 - q = 0 by omega, outer_zero]
      simp [cellsZ, List.map_eq_flatMap]
    · refine List.mem_append_left _ (List.mem_append_left _ ?_)
      have := @rowsF_mem k (mOf k) bs d (by omega)
      rw [show bs.length - (d + 1) = k.sales.length - d by omega] at this
      exact this
end Go.Ax
