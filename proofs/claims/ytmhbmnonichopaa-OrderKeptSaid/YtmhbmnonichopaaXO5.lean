/-
  Needs and rooms: the program's function.
-/
import Derived.Test.YtmhbmnonichopaaXO4
namespace Go.Ax
open Go.Proofs
set_option maxHeartbeats 4000000
set_option linter.unusedSimpArgs false
set_option linter.unusedVariables false
variable {lo : Nat} {F : Hp}

/-- a list of many numbers 0, checked step by step -/
def isZ : AV → Bool
  | .int .i64 z => decide (z = 0)
  | _ => false
theorem isZ_eq {v : AV} (h : isZ v = true) : v = .int .i64 0 := by
  unfold isZ at h
  split at h
  · rw [of_decide_eq_true h]
  · cases h
def stripZ : Nat → List AV → Option (List AV)
  | 0, l => some l
  | n + 1, l => match l with
    | [] => none
    | v :: l => bif isZ v then stripZ n l else none
theorem stripZ_eq : ∀ {n : Nat} {l r : List AV}, stripZ n l = some r → l = List.replicate n (.int .i64 0) ++ r
  | 0, l, r, h => by cases h; rfl
  | n + 1, [], r, h => by cases h
  | n + 1, v :: l, r, h => by
    have h : (bif isZ v then stripZ n l else none) = some r := h
    cases hz : isZ v with
    | false => rw [hz] at h; cases h
    | true =>
      rw [hz] at h
      rw [stripZ_eq (show stripZ n l = some r from h), isZ_eq hz, List.replicate_succ]; rfl
noncomputable def bz : List AV := (zeroL Try.prog 75).getD []
theorem bz_ok : (match bz.drop 7 with | .slc none 0 0 true 0 :: l => (match stripZ 4221 l with | some [.map none] => true | _ => false) | _ => false) = true := by decide +kernel
theorem bz_eq : bz.drop 7 = .slc none 0 0 true 0 :: (List.replicate 4221 (.int .i64 0) ++ [.map none]) := by
  have h := bz_ok
  split at h
  · rename_i l he
    rw [he]
    split at h
    · rename_i h2
      rw [stripZ_eq h2]
    · cases h
  · cases h
theorem bz_len : bz.length = 4230 := by
  have h := congrArg List.length bz_eq
  rw [List.length_drop, List.length_cons, List.length_append, List.length_replicate, List.length_singleton] at h
  omega
theorem bz_fill {k : K} {sv cv : AV} {rest : List AV} (hr : rest = List.replicate 4221 (.int .i64 0) ++ [.map none]) (E : FE) (x : AO) (hx : xev E x = .agg (kl k sv cv)) : fillF E bz [(0, 7, x)] = some (kl k sv cv ++ (.slc none 0 0 true 0 :: rest)) := by
  unfold fillF
  rw [hx]
  show (if (kl k sv cv).length = 7 ∧ 0 + 7 ≤ bz.length then fillF E (bz.take 0 ++ kl k sv cv ++ bz.drop (0 + 7)) [] else none) = _
  rw [if_pos ⟨rfl, by rw [bz_len]; omega⟩, List.take_zero, List.nil_append, show 0 + 7 = 7 from rfl, bz_eq, hr]
  rfl
theorem need_eq {s load : Int} (hl : 1 ≤ load) : max 0 (s + load - 1) / load = if 0 < s then (s - 1) / load + 1 else 0 := by
  split
  · rw [show max 0 (s + load - 1) = (s - 1) + 1 * load by omega, Int.add_mul_ediv_right _ _ (by omega)]
  · exact Int.ediv_eq_zero_of_lt (by omega) (by omega)
def s1 (k : K) : Nat → Int
  | 0 => 0
  | i + 1 => s1 k i + (k.sales.getD i (0, 0)).1
def s2 (k : K) : Nat → Int
  | 0 => 0
  | i + 1 => s2 k i + (k.sales.getD i (0, 0)).2
theorem lf_s1 (k : K) : ∀ i, lf k i = k.cap - k.shi + s1 k i
  | 0 => by simp only [lf, s1]; omega
  | i + 1 => by have := lf_s1 k i; simp only [lf, s1]; omega
theorem lk_s2 (k : K) : ∀ i, lk k i = s2 k i - k.slo
  | 0 => by simp only [lk, s2]; omega
  | i + 1 => by have := lk_s2 k i; simp only [lk, s2]; omega
abbrev bcells (k : K) (sv cv ov : AV) (rest : List AV) : List AV := kl k sv cv ++ (ov :: rest)

theorem f43_ok {k : K} {sv cv : AV} (h : KVal F k sv cv) (hv : Vk k) : Fn tblW lo (fnv 43) [.agg (kl k sv cv)] F fun v F' =>
    ∃ b ov Fo, lo ≤ b ∧ v = .ptr (some (b, 0)) ∧ OwnR lo ov Fo (bnds k k.sales.length) ∧ F' = Fo ++ ((b, .cells (bcells k sv cv ov (List.replicate 4221 (.int .i64 0) ++ [.map none])) true) :: F) := by
  obtain ⟨hs, hc, hls, hlc⟩ := h
  have h1 := hv.slo
  have h2 := hv.start
  have h3 := hv.shi
  have h4 := hv.cap2
  have h5 := hv.load1
  have h6 := hv.load2
  have h7 := hv.n2
  generalize hrest : List.replicate 4221 (AV.int .i64 0) ++ [AV.map none] = rest
  refine Fn.func (fn := af43) rfl rfl ?_
  iterate 8 (first | (first | refine Wo.nil ?_ | refine Wd.nil ?_ | ((first | refine Wo.cons ?_ | refine Wd.cons ?_); (try refine W1.go rfl rfl ?_); ((first | refine k1 ?_ | refine k2 ?_ | (refine isApp ?_; refine W1.appR (F1 := [_, _]) rfl ho rfl rfl inF (by rw [bnds_len]; omega) (fun ov' Fo' ho' => ?_)) | (refine isStore ?_; refine W1.storeN rfl ho'.cells rfl inF inL inU inN (by omega) ?_) | refine W1.auto ?_ | ((first | refine kA ?_ | refine kB ?_ | refine kC ?_ | refine kD ?_ | refine kE ?_ | refine kF ?_ | refine kG ?_); refine ⟨fun _ => ?_, fun _ => ?_⟩) | refine W1.alloc (fun _ _ => ?_) | refine W1.boxA rfl (fun _ _ => ?_) | refine kq (fun _ _ => ?_) | refine kp ?_ | (refine isIaddrs ?_; first | refine W1.iaddrI inI rfl rfl (by omega) (fun _ _ _ _ _ _ => ?_) | refine W1.iaddrR inR rfl rfl (by omega) (fun _ _ _ _ _ _ _ => ?_)) | (refine isBox ?_; refine W1.boxS inW (by rfl) (fun _ _ => ?_)) | (refine isBslice ?_; refine W1.bslice (fill_all inC rfl) (fun _ _ => ?_))) <;> (try refine ⟨fun _ => rfl, ?_⟩)))) | (first | refine Ws.seq ?_ | refine Ws.region ?_ | refine Ws.draw (fun bd hbd => ?_) | refine Ws.cond rfl ?_ | refine Ws.skip ?_ | refine Ws.scope ?_ | refine Ws.block ?_ | refine Ws.exit ?_ | refine Ws.ret ?_))
  rename_i b0 hb0
  refine Wo.cons (W1.build (l := bcells k sv cv (.slc none 0 0 true 0) rest) (bz_fill hrest.symm _ _ rfl) ?_)
  (repeat' (first | (first | refine Wo.nil ?_ | refine Wd.nil ?_ | ((first | refine Wo.cons ?_ | refine Wd.cons ?_); (try refine W1.go rfl rfl ?_); ((first | refine k1 ?_ | refine k2 ?_ | (refine isApp ?_; refine W1.appR (F1 := [_, _]) rfl ho rfl rfl inF (by rw [bnds_len]; omega) (fun ov' Fo' ho' => ?_)) | (refine isStore ?_; refine W1.storeN rfl ho'.cells rfl inF inL inU inN (by omega) ?_) | refine W1.auto ?_ | ((first | refine kA ?_ | refine kB ?_ | refine kC ?_ | refine kD ?_ | refine kE ?_ | refine kF ?_ | refine kG ?_); refine ⟨fun _ => ?_, fun _ => ?_⟩) | refine W1.alloc (fun _ _ => ?_) | refine W1.boxA rfl (fun _ _ => ?_) | refine kq (fun _ _ => ?_) | refine kp ?_ | (refine isIaddrs ?_; first | refine W1.iaddrI inI rfl rfl (by omega) (fun _ _ _ _ _ _ => ?_) | refine W1.iaddrR inR rfl rfl (by omega) (fun _ _ _ _ _ _ _ => ?_)) | (refine isBox ?_; refine W1.boxS inW (by rfl) (fun _ _ => ?_)) | (refine isBslice ?_; refine W1.bslice (fill_all inC rfl) (fun _ _ => ?_))) <;> (try refine ⟨fun _ => rfl, ?_⟩)))) | (first | refine Ws.seq ?_ | refine Ws.region ?_ | refine Ws.draw (fun bd hbd => ?_) | refine Ws.cond rfl ?_ | refine Ws.skip ?_ | refine Ws.scope ?_ | refine Ws.block ?_ | refine Ws.exit ?_ | refine Ws.ret ?_)))
  rename_i bb hbb bs hbs
  refine Ws.loopG (X := Nat × AV × Hp) (fun p => [(1, .ptr (some (b0, 0))), (3, .ptr (some (bb, 0))), (4, .ptr (some (bs, 0))), (14, sv), (15, .int .i64 k.sales.length), (16, .int .i64 (p.1 : Nat))])
    (fun p => p.2.2 ++ ((bs, .cells [.int .i64 (s1 k p.1), .int .i64 (s2 k p.1)] true) :: (bb, .cells (bcells k sv cv p.2.1 rest) true) :: (b0, .cells (kl k sv cv) true) :: F))
    (fun p => p.1 ≤ k.sales.length ∧ OwnR lo p.2.1 p.2.2 (bnds k p.1)) (fun p => k.sales.length - p.1) (0, .slc none 0 0 true 0, [])
    ⟨rfl, rfl, rfl, rfl, rfl, rfl, trivial⟩ inS ⟨Nat.zero_le _, .nil⟩ ?_
  rintro ⟨i, ov, Fo⟩ B ⟨hi, ho⟩
  simp only at hi ho ⊢
  have i1 := lk_in hv i hi
  have i2 := lf_in hv i hi
  rw [lk_s2] at i1
  rw [lf_s1] at i2
  have hsl : i < k.sales.length → _ := fun h => hv.sale i h
  (repeat' (first | (first | refine Wo.nil ?_ | refine Wd.nil ?_ | ((first | refine Wo.cons ?_ | refine Wd.cons ?_); (try refine W1.go rfl rfl ?_); ((first | refine k1 ?_ | refine k2 ?_ | (refine isApp ?_; refine W1.appR (F1 := [_, _]) rfl ho rfl rfl inF (by rw [bnds_len]; omega) (fun ov' Fo' ho' => ?_)) | (refine isStore ?_; refine W1.storeN rfl ho'.cells rfl inF inL inU inN (by omega) ?_) | refine W1.auto ?_ | ((first | refine kA ?_ | refine kB ?_ | refine kC ?_ | refine kD ?_ | refine kE ?_ | refine kF ?_ | refine kG ?_); refine ⟨fun _ => ?_, fun _ => ?_⟩) | refine W1.alloc (fun _ _ => ?_) | refine W1.boxA rfl (fun _ _ => ?_) | refine kq (fun _ _ => ?_) | refine kp ?_ | (refine isIaddrs ?_; first | refine W1.iaddrI inI rfl rfl (by omega) (fun _ _ _ _ _ _ => ?_) | refine W1.iaddrR inR rfl rfl (by omega) (fun _ _ _ _ _ _ _ => ?_)) | (refine isBox ?_; refine W1.boxS inW (by rfl) (fun _ _ => ?_)) | (refine isBslice ?_; refine W1.bslice (fill_all inC rfl) (fun _ _ => ?_))) <;> (try refine ⟨fun _ => rfl, ?_⟩)))) | (first | refine Ws.seq ?_ | refine Ws.region ?_ | refine Ws.draw (fun bd hbd => ?_) | refine Ws.cond rfl ?_ | refine Ws.skip ?_ | refine Ws.scope ?_ | refine Ws.block ?_ | refine Ws.exit ?_ | refine Ws.ret ?_)))
  · refine ⟨(i + 1, ov', Fo'), ⟨rfl, rfl, rfl, rfl, rfl, rfl, trivial⟩, inS, ⟨by show i + 1 ≤ _; omega, ?_⟩, by show _ - (i + 1) < _; omega⟩
    show OwnR lo ov' Fo' (bnds k (i + 1))
    rw [bnds_succ]
    have e1 : nd k i = max 0 (s2 k i + (k.sales.getD i (0, 0)).2 - k.slo + k.load - 1) / k.load := by
      rw [need_eq h5]
      unfold nd
      rw [lk_s2]
      rfl
    have e2 : rm k i = (k.cap - k.shi + s1 k i) / k.load := by unfold rm; rw [lf_s1]
    rw [e1, e2]
    exact ho'
  · have e : i = k.sales.length := by omega
    subst e
    subst hrest
    exact FnEnd.ret (F' := Fo ++ ((bb, .cells (bcells k sv cv ov _) true) :: F)) (vs := [_]) (by (first | refine ResF.tmp inW ?_ | refine ResF.cell rfl inF inP ?_); exact ResF.nil) inS ⟨bb, ov, Fo, hbb, rfl, ho, rfl⟩
end Go.Ax
