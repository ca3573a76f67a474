/-
  Contracts: the numbers of loads that may come on a day, told to a loop.
-/
import Derived.Test.YtmhbmnonichopaaXT0
namespace Go.Ax
set_option maxHeartbeats 8000000
set_option linter.unusedSimpArgs false
set_option linter.unusedVariables false
variable {lo : Nat} {F : Hp}

theorem f70_ok {k : K} {sv cv ov : AV} {rest : List AV} {bb : Nat} {d c : Nat} (hm : (bb, .cells (bcells k sv cv ov rest) true) ∈ F) (ho : RowR F ov (bnds k k.sales.length)) (hd : d < k.sales.length) :
    Fn tblW lo (fnv 70) [.ptr (some (bb, 0)), .agg [.int .i64 (d : Nat), .int .i64 (c : Nat)]] F fun v F' => ∃ b2 b3 b5, lo ≤ b2 ∧ lo ≤ b3 ∧ lo ≤ b5 ∧ v = .fn (.func 72) [] [.ptr (some (b2, 0)), .ptr (some (b3, 0)), .ptr (some (b5, 0))] ∧
      F' = (b5, .cells [.int .i64 (nd k d), .int .i64 (rm k d)] true) :: (b3, .cells [.int .i64 (d : Nat), .int .i64 (c : Nat)] true) :: (b2, .cells [.ptr (some (bb, 0))] true) :: F := by
  have e1 : ((bnds k k.sales.length).getD d (0, 0)).1 = nd k d := by rw [bnds_get k hd]
  have e2 : ((bnds k k.sales.length).getD d (0, 0)).2 = rm k d := by rw [bnds_get k hd]
  refine Fn.func (fn := af70) rfl rfl ?_
  (repeat' (first | (first | refine Wo.nil ?_ | refine Wd.nil ?_ | ((first | refine Wo.cons ?_ | refine Wd.cons ?_); (try refine W1.go rfl rfl ?_); ((first | refine k1 ?_ | refine k2 ?_ | (refine isIaddrs ?_; refine W1.iaddrRz (j := d) inR rfl rfl rfl (by rw [bnds_len]; omega) (fun _ _ _ _ _ _ _ => ?_)) | (refine isLoad ?_; refine W1.load1R rfl inF (show (bcells k sv cv ov rest)[0 + 7]? = some ov from rfl) inB ?_) | refine W1.auto ?_ | ((first | refine kA ?_ | refine kB ?_ | refine kC ?_ | refine kD ?_ | refine kE ?_ | refine kF ?_ | refine kG ?_); refine ⟨fun _ => ?_, fun _ => ?_⟩) | refine W1.alloc (fun _ _ => ?_) | refine W1.boxA rfl (fun _ _ => ?_) | refine kq (fun _ _ => ?_) | refine kp ?_ | (refine isIaddrs ?_; first | refine W1.iaddrI inI rfl rfl (by omega) (fun _ _ _ _ _ _ => ?_) | refine W1.iaddrR inR rfl rfl (by omega) (fun _ _ _ _ _ _ _ => ?_)) | (refine isBox ?_; refine W1.boxS inW (by rfl) (fun _ _ => ?_)) | (refine isBslice ?_; refine W1.bslice (fill_all inC rfl) (fun _ _ => ?_))) <;> (try refine ⟨fun _ => rfl, ?_⟩)))) | (first | refine Ws.seq ?_ | refine Ws.region ?_ | refine Ws.draw (fun bd hbd => ?_) | refine Ws.cond rfl ?_ | refine Ws.skip ?_ | refine Ws.scope ?_ | refine Ws.block ?_ | refine Ws.exit ?_ | refine Ws.ret ?_)))
  rename_i b2 hb2 b3 hb3 x1 x2 x3 x4 x5 x6 x7 b5 hb5
  rw [e1, e2]
  exact FnEnd.ret (vs := [.fn (.func 72) [] [.ptr (some (b2, 0)), .ptr (some (b3, 0)), .ptr (some (b5, 0))]]) (.tmp rfl .nil) (List.Sublist.refl _) ⟨b2, b3, b5, hb2, hb3, hb5, rfl, rfl⟩

/-- what the loop's own round does is told by J: what is there before the number n -/
theorem f72_ok {k : K} {sv cv ov : AV} {rest : List AV} {bb b2 b3 b5 : Nat} {d c : Nat} {yv : AV} (hv : Vk k) (hc : c ≤ 1000) (J : Nat → Hp → Prop)
    (hmem : ∀ n F, J n F → (bb, .cells (bcells k sv cv ov rest) true) ∈ F ∧ (b2, .cells [.ptr (some (bb, 0))] true) ∈ F ∧ (b3, .cells [.int .i64 (d : Nat), .int .i64 (c : Nat)] true) ∈ F ∧ (b5, .cells [.int .i64 (nd k d), .int .i64 (rm k d)] true) ∈ F)
    (hskip : ∀ n F, J n F → ¬ (nd k d ≤ (c : Int) + n ∧ (c : Int) + n ≤ rm k d) → J (n + 1) F)
    (hyield : ∀ (n : Nat) (F : Hp) (lo' : Nat), (n : Int) ≤ k.most → J n F → nd k d ≤ (c : Int) + n → (c : Int) + n ≤ rm k d → lo' = lo → Fn tblW lo' yv [.int .i64 (n : Nat)] F fun v F' => v = .bool true ∧ J (n + 1) F')
    (h0 : J 0 F) : Fn tblW lo (.fn (.func 72) [] [.ptr (some (b2, 0)), .ptr (some (b3, 0)), .ptr (some (b5, 0))]) [yv] F fun v F' => v = .tup [] ∧ J (k.most.toNat + 1) F' := by
  have hm1 := hv.most1
  have hm2 := hv.most2
  refine Fn.func (fn := af72) rfl rfl ?_
  have m0 := hmem 0 F h0
  obtain ⟨m1, m2, m3, m5⟩ := m0
  (repeat' (first | (first | refine Wo.nil ?_ | refine Wd.nil ?_ | ((first | refine Wo.cons ?_ | refine Wd.cons ?_); (try refine W1.go rfl rfl ?_); ((first | refine k1 ?_ | refine k2 ?_ | (refine isLoad ?_; refine W1.load1 rfl inF (show (bcells k sv cv ov rest)[0 + 0 + 2]? = some (.int .i64 k.most) from rfl) ?_) | (refine isCall ?_; refine W1.callM rfl rfl ((hyield n Fx _ (by omega) hJ (by omega) (by omega) rfl).mono fun v F' h => ?_)) | refine W1.auto ?_ | ((first | refine kA ?_ | refine kB ?_ | refine kC ?_ | refine kD ?_ | refine kE ?_ | refine kF ?_ | refine kG ?_); refine ⟨fun _ => ?_, fun _ => ?_⟩) | refine W1.alloc (fun _ _ => ?_) | refine W1.boxA rfl (fun _ _ => ?_) | refine kq (fun _ _ => ?_) | refine kp ?_ | (refine isIaddrs ?_; first | refine W1.iaddrI inI rfl rfl (by omega) (fun _ _ _ _ _ _ => ?_) | refine W1.iaddrR inR rfl rfl (by omega) (fun _ _ _ _ _ _ _ => ?_)) | (refine isBox ?_; refine W1.boxS inW (by rfl) (fun _ _ => ?_)) | (refine isBslice ?_; refine W1.bslice (fill_all inC rfl) (fun _ _ => ?_))) <;> (try refine ⟨fun _ => rfl, ?_⟩)))) | (first | refine Ws.seq ?_ | refine Ws.region ?_ | refine Ws.draw (fun bd hbd => ?_) | refine Ws.cond rfl ?_ | refine Ws.skip ?_ | refine Ws.scope ?_ | refine Ws.block ?_ | refine Ws.exit ?_ | refine Ws.ret ?_)))
  refine Ws.loopD 137438945376 rfl [(0, _), (2, _), (3, _), (12, _)] ⟨inW, inW, inW, inW, trivial⟩ [0, 2, 3, 12] rfl rfl (X := Nat × Hp) (fun p => [(13, .int .i64 (p.1 : Nat))]) (fun p => p.2) (fun p => (p.1 : Int) ≤ k.most + 1 ∧ J p.1 p.2) (fun p => k.most.toNat + 1 - p.1) (0, F) ⟨rfl, trivial⟩ (List.Sublist.refl _) ⟨by show ((0 : Nat) : Int) ≤ _; omega, h0⟩ ?_
  clear m1 m2 m3 m5
  rintro ⟨n, Fx⟩ B ⟨hn, hJ⟩
  simp only at hn hJ ⊢
  obtain ⟨m1, m2, m3, m5⟩ := hmem n Fx hJ
  (repeat' (first | (first | refine Wo.nil ?_ | refine Wd.nil ?_ | ((first | refine Wo.cons ?_ | refine Wd.cons ?_); (try refine W1.go rfl rfl ?_); ((first | refine k1 ?_ | refine k2 ?_ | (refine isLoad ?_; refine W1.load1 rfl inF (show (bcells k sv cv ov rest)[0 + 0 + 2]? = some (.int .i64 k.most) from rfl) ?_) | (refine isCall ?_; refine W1.callM rfl rfl ((hyield n Fx _ (by omega) hJ (by omega) (by omega) rfl).mono fun v F' h => ?_)) | refine W1.auto ?_ | ((first | refine kA ?_ | refine kB ?_ | refine kC ?_ | refine kD ?_ | refine kE ?_ | refine kF ?_ | refine kG ?_); refine ⟨fun _ => ?_, fun _ => ?_⟩) | refine W1.alloc (fun _ _ => ?_) | refine W1.boxA rfl (fun _ _ => ?_) | refine kq (fun _ _ => ?_) | refine kp ?_ | (refine isIaddrs ?_; first | refine W1.iaddrI inI rfl rfl (by omega) (fun _ _ _ _ _ _ => ?_) | refine W1.iaddrR inR rfl rfl (by omega) (fun _ _ _ _ _ _ _ => ?_)) | (refine isBox ?_; refine W1.boxS inW (by rfl) (fun _ _ => ?_)) | (refine isBslice ?_; refine W1.bslice (fill_all inC rfl) (fun _ _ => ?_))) <;> (try refine ⟨fun _ => rfl, ?_⟩)))) | (first | refine Ws.seq ?_ | refine Ws.region ?_ | refine Ws.draw (fun bd hbd => ?_) | refine Ws.cond rfl ?_ | refine Ws.skip ?_ | refine Ws.scope ?_ | refine Ws.block ?_ | refine Ws.exit ?_ | refine Ws.ret ?_)))
  · obtain ⟨rfl, hJ2⟩ := h
    (repeat' (first | (first | refine Wo.nil ?_ | refine Wd.nil ?_ | ((first | refine Wo.cons ?_ | refine Wd.cons ?_); (try refine W1.go rfl rfl ?_); ((first | refine k1 ?_ | refine k2 ?_ | (refine isLoad ?_; refine W1.load1 rfl inF (show (bcells k sv cv ov rest)[0 + 0 + 2]? = some (.int .i64 k.most) from rfl) ?_) | (refine isCall ?_; refine W1.callM rfl rfl ((hyield n Fx _ (by omega) hJ (by omega) (by omega) rfl).mono fun v F' h => ?_)) | refine W1.auto ?_ | ((first | refine kA ?_ | refine kB ?_ | refine kC ?_ | refine kD ?_ | refine kE ?_ | refine kF ?_ | refine kG ?_); refine ⟨fun _ => ?_, fun _ => ?_⟩) | refine W1.alloc (fun _ _ => ?_) | refine W1.boxA rfl (fun _ _ => ?_) | refine kq (fun _ _ => ?_) | refine kp ?_ | (refine isIaddrs ?_; first | refine W1.iaddrI inI rfl rfl (by omega) (fun _ _ _ _ _ _ => ?_) | refine W1.iaddrR inR rfl rfl (by omega) (fun _ _ _ _ _ _ _ => ?_)) | (refine isBox ?_; refine W1.boxS inW (by rfl) (fun _ _ => ?_)) | (refine isBslice ?_; refine W1.bslice (fill_all inC rfl) (fun _ _ => ?_))) <;> (try refine ⟨fun _ => rfl, ?_⟩)))) | (first | refine Ws.seq ?_ | refine Ws.region ?_ | refine Ws.draw (fun bd hbd => ?_) | refine Ws.cond rfl ?_ | refine Ws.skip ?_ | refine Ws.scope ?_ | refine Ws.block ?_ | refine Ws.exit ?_ | refine Ws.ret ?_)))
    exact ⟨(n + 1, _), ⟨rfl, trivial⟩, List.Sublist.refl _, ⟨by show ((n + 1 : Nat) : Int) ≤ _; omega, hJ2⟩, by show _ - (n + 1) < _; omega⟩
  · exact ⟨(n + 1, _), ⟨rfl, trivial⟩, List.Sublist.refl _, ⟨by show ((n + 1 : Nat) : Int) ≤ _; omega, hskip n Fx hJ (by omega)⟩, by show _ - (n + 1) < _; omega⟩
  · exact ⟨(n + 1, _), ⟨rfl, trivial⟩, List.Sublist.refl _, ⟨by show ((n + 1 : Nat) : Int) ≤ _; omega, hskip n Fx hJ (by omega)⟩, by show _ - (n + 1) < _; omega⟩
  · have e : n = k.most.toNat + 1 := by omega
    subst e
    first | exact FnEnd.ret (F0 := F) (Q := fun v F' => v = .tup [] ∧ J (k.most.toNat + 1) F') (F' := Fx) (vs := []) .nil (List.Sublist.refl _) ⟨rfl, hJ⟩ | exact FnEnd.normal (F0 := F) (Q := fun v F' => v = .tup [] ∧ J (k.most.toNat + 1) F') (F' := Fx) (vs := []) .nil (List.Sublist.refl _) ⟨rfl, hJ⟩
end Go.Ax
