/-
  The strict machine's operations: numbers, memory, calls.
-/
import Derived.Test.YtmhbmnonichopaaXK3
namespace Go.Ax.K
variable {call : CfK} {callA : Cf}

theorem isI64_true {k : IntKind} (h : isI64 k = true) : k = .i64 := by cases k <;> first | rfl | (cases h; done)
theorem gBin_true {op : BinOp} {x y : AV} {k : AV → Bool} (h : gBin op x y k = true) : ∃ v, binAV op x y = some v ∧ k v = true := by
  obtain ⟨v, hv, hk⟩ := oC_some h
  rw [fS_eq] at hk
  exact ⟨v, hv, hk⟩
theorem two_true {op : BinOp} {f : Nat → Nat → (AV → Bool) → Bool → Bool} {x y : AV} {k : AV → Bool} (h : two op f x y k = true) :
    (∃ a b : Nat, x = .int .i64 a ∧ y = .int .i64 b ∧ f a b k (gBin op x y k) = true) ∨ gBin op x y k = true := by
  cases x <;> first | (cases h; done) | exact .inr h | skip
  rename_i kd a
  have h : bf (isI64 kd) (@Int.rec (fun _ => Bool) (fun a => vInt y fun kd' b => bf (isI64 kd') (@Int.rec (fun _ => Bool) (fun b => f a b k (gBin op (.int kd (Int.ofNat a)) y k)) (fun _ => gBin op (.int kd (Int.ofNat a)) y k) b) (gBin op (.int kd (Int.ofNat a)) y k)) (fun n => gBin op (.int kd (Int.negSucc n)) y k) a) (gBin op (.int kd a) y k) = true := by
    cases a <;> exact h
  rcases bf_true h with ⟨hk, h⟩ | ⟨_, h⟩
  · cases a with
    | negSucc n => exact .inr h
    | ofNat a =>
      obtain ⟨kd', b, rfl, h⟩ := vInt_true h
      rcases bf_true h with ⟨hk', h⟩ | ⟨_, h⟩
      · cases b with
        | negSucc n => exact .inr h
        | ofNat b =>
          rw [isI64_true hk, isI64_true hk'] at h
          rw [isI64_true hk, isI64_true hk']
          exact .inl ⟨a, b, rfl, rfl, h⟩
      · exact .inr h
  · exact .inr h
theorem wrap_small {n : Nat} (h : n ≤ mx64) : IntKind.wrap .i64 (n : Int) = n := by
  unfold mx64 at h
  have e : ((n : Int) % (2 ^ IntKind.bits .i64 : Int)) = n := by
    show (n : Int) % (2 ^ 64 : Int) = n
    omega
  unfold IntKind.wrap
  simp only [e]
  rw [if_neg]
  simp only [Bool.and_eq_true, decide_eq_true_eq, not_and]
  intro _
  show ¬ ((n : Int) ≥ (2 ^ 63 : Int))
  omega
theorem binD_true {op : BinOp} {x y : AV} {k : AV → Bool} (h : binD op x y k = true) : ∃ v, binAV op x y = some v ∧ k v = true := by
  cases op
  case add =>
    replace h : bAdd x y k = true := h
    unfold bAdd at h
    replace h := two_true h
    rcases h with ⟨a, b, rfl, rfl, h⟩ | h
    · rcases bf_true h with ⟨hle, h⟩ | ⟨_, h⟩
      · rw [fN_eq] at h
        refine ⟨_, ?_, h⟩
        have : IntKind.wrap .i64 ((a + b : Nat) : Int) = (a + b : Nat) := wrap_small (Nat.le_of_ble_eq_true hle)
        simp only [binAV, binInt, ne_eq, not_true_eq_false, if_false]
        rw [← Int.natCast_add, this]; rfl
      · exact gBin_true h
    · exact gBin_true h
  case sub =>
    replace h : bSub x y k = true := h
    unfold bSub at h
    replace h := two_true h
    rcases h with ⟨a, b, rfl, rfl, h⟩ | h
    · rcases bf_true h with ⟨hle, h⟩ | ⟨_, h⟩
      · rcases bf_true h with ⟨hm, h⟩ | ⟨_, h⟩
        · rw [fN_eq] at h
          refine ⟨_, ?_, h⟩
          have hba := Nat.le_of_ble_eq_true hle
          have := wrap_small (n := a - b) (Nat.le_trans (Nat.sub_le _ _) (Nat.le_of_ble_eq_true hm))
          simp only [binAV, binInt, ne_eq, not_true_eq_false, if_false]
          rw [← Int.natCast_sub hba, this]; rfl
        · exact gBin_true h
      · exact gBin_true h
    · exact gBin_true h
  case mul =>
    replace h : bMul x y k = true := h
    unfold bMul at h
    replace h := two_true h
    rcases h with ⟨a, b, rfl, rfl, h⟩ | h
    · rcases bf_true h with ⟨hle, h⟩ | ⟨_, h⟩
      · rw [fN_eq] at h
        refine ⟨_, ?_, h⟩
        have : IntKind.wrap .i64 ((a * b : Nat) : Int) = (a * b : Nat) := wrap_small (Nat.le_of_ble_eq_true hle)
        simp only [binAV, binInt, ne_eq, not_true_eq_false, if_false]
        rw [← Int.natCast_mul, this]; rfl
      · exact gBin_true h
    · exact gBin_true h
  case eql =>
    replace h : bEql x y k = true := h
    unfold bEql at h
    replace h := two_true h
    rcases h with ⟨a, b, rfl, rfl, h⟩ | h
    · rw [fB_eq] at h
      refine ⟨_, ?_, h⟩
      simp only [binAV, binInt, ne_eq, not_true_eq_false, if_false]
      congr 2
      by_cases e : a = b
      · rw [beqT e]; simp [e]
      · rw [beqF e]; simp; omega
    · exact gBin_true h
  case neq =>
    replace h : bNeq x y k = true := h
    unfold bNeq at h
    replace h := two_true h
    rcases h with ⟨a, b, rfl, rfl, h⟩ | h
    · rcases bf_true h with ⟨e, h⟩ | ⟨e, h⟩
      · refine ⟨_, ?_, h⟩
        have := Nat.eq_of_beq_eq_true e
        simp [binAV, binInt, this]
      · refine ⟨_, ?_, h⟩
        have : a ≠ b := fun e' => by rw [beqT e'] at e; cases e
        simp only [binAV, binInt, ne_eq, not_true_eq_false, if_false]
        congr 2
        simp
        omega
    · exact gBin_true h
  case lss =>
    replace h : bLss x y k = true := h
    unfold bLss at h
    replace h := two_true h
    rcases h with ⟨a, b, rfl, rfl, h⟩ | h
    · rw [fB_eq] at h
      refine ⟨_, ?_, h⟩
      simp only [binAV, binInt, ne_eq, not_true_eq_false, if_false]
      congr 2
      rw [Bool.eq_iff_iff]; simp [Nat.blt_eq]
    · exact gBin_true h
  case leq =>
    replace h : bLeq x y k = true := h
    unfold bLeq at h
    replace h := two_true h
    rcases h with ⟨a, b, rfl, rfl, h⟩ | h
    · rw [fB_eq] at h
      refine ⟨_, ?_, h⟩
      simp only [binAV, binInt, ne_eq, not_true_eq_false, if_false]
      congr 2
      rw [Bool.eq_iff_iff]; simp
    · exact gBin_true h
  case gtr =>
    replace h : bGtr x y k = true := h
    unfold bGtr at h
    replace h := two_true h
    rcases h with ⟨a, b, rfl, rfl, h⟩ | h
    · rw [fB_eq] at h
      refine ⟨_, ?_, h⟩
      simp only [binAV, binInt, ne_eq, not_true_eq_false, if_false]
      congr 2
      rw [Bool.eq_iff_iff]; simp [Nat.blt_eq]
    · exact gBin_true h
  case geq =>
    replace h : bGeq x y k = true := h
    unfold bGeq at h
    replace h := two_true h
    rcases h with ⟨a, b, rfl, rfl, h⟩ | h
    · rw [fB_eq] at h
      refine ⟨_, ?_, h⟩
      simp only [binAV, binInt, ne_eq, not_true_eq_false, if_false]
      congr 2
      rw [Bool.eq_iff_iff]; simp
    · exact gBin_true h
  all_goals exact gBin_true h
theorem bin_ok (op : BinOp) (x y : AO) : OpOk call callA (.bin op x y) (oBin op x y) := .loc (fun _ => rfl) fun e aid h k hw hk => by
  obtain ⟨v, hv, hk⟩ := binD_true hk
  rw [ev_eq, ev_eq] at hv
  exact val_ok hw hv hk

theorem alloc_ok (z : List AV) : OpOk call callA (.alloc z) (oAlloc z) := .loc (fun _ => rfl) fun e aid h k hw hk => by
  have hk : lenK z 0 (fun n => new h aid (.cells n z .nil true) fun h => k (.ptr (some (aid, 0))) h (.loc [] [] (some aid))) = true := hk
  rw [lenK_eq, Nat.zero_add, new_eq] at hk
  refine ⟨_, loc_run_iff.2 ⟨[], .undef, [], some (.cells z true), rfl, rfl, rfl⟩, _, hw.set (x := .cells z.length z .nil true) (rfl : z.length = z.length), ?_, hk⟩
  rw [new_abs]
  simp [FB.abs, merge_nil, upd, H.puts]
theorem box_ok (x : AO) : OpOk call callA (.box x) (oBox x) := .loc (fun _ => rfl) fun e aid h k hw hk => by
  obtain ⟨cs, hc, hk⟩ := oC_some hk
  rw [ev_eq] at hc
  have hk : lenK cs 0 (fun n => new h aid (.cells n cs .nil true) fun h => k (.ptr (some (aid, 0))) h (.loc [] [] (some aid))) = true := hk
  rw [lenK_eq, Nat.zero_add, new_eq] at hk
  refine ⟨(.ptr (some (aid, 0)), h.abs.new aid (.cells cs true), .loc [] [] (some aid)), ?_, _, hw.set (x := .cells cs.length cs .nil true) (rfl : cs.length = cs.length), ?_, hk⟩
  · simp only [opLoc, hc]
    exact loc_run_iff.2 ⟨[], .undef, [], some (.cells cs true), rfl, rfl, rfl⟩
  · rw [new_abs]
    simp [FB.abs, merge_nil]
end Go.Ax.K
