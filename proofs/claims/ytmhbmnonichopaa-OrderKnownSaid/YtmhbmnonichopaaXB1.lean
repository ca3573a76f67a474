/-
  Each operation of the abstract machine answers to the machine's own.
-/
import Derived.Test.YtmhbmnonichopaaXB0
namespace Go.Ax

variable {P : Program} {base : Nat}

/-- what an operation's run has to come to -/
def Sim (P : Program) (base : Nat) (ι : Io) (h : H) (w : World) (s : Sem Value) (v : AV) (h' : H) : Prop :=
  ∃ v' w' ι', s.run P w = .ok v' w' ∧ RelV ι' v v' ∧ RelS P base ι' h' w' ∧ StepR ι h w ι' h' w'

theorem Sim.pure {ι : Io} {h : H} {w : World} {s : Sem Value} {v : AV} {v' : Value} (hS : RelS P base ι h w) (hr : s.run P w = .ok v' w) (hv : RelV ι v v') : Sim P base ι h w s v h :=
  ⟨v', w, ι, hr, hv, hS, .refl ι h w⟩

/-! ### Pure operations -/
theorem rel_int {ι : Io} {k : IntKind} {n : Int} {v : Value} (h : RelV ι (.int k n) v) : v = .int k n := by cases h; rfl
theorem rel_bool {ι : Io} {b : Bool} {v : Value} (h : RelV ι (.bool b) v) : v = .bool b := by cases h; rfl
theorem rel_str {ι : Io} {b : ByteArray} {v : Value} (h : RelV ι (.str b) v) : v = .string b := by cases h; rfl

theorem bin_rel {ι : Io} (op : BinOp) {x y r : AV} {x' y' : Value} (t : TypeId) (w : World) (hx : RelV ι x x') (hy : RelV ι y y') (h : binAV op x y = some r) :
    ∃ r', (binOp op t x' y').run P w = .ok r' w ∧ RelV ι r r' := by
  cases x <;> cases y <;> simp only [binAV, reduceCtorEq] at h
  case int.int k a k' b =>
    obtain rfl := rel_int hx
    obtain rfl := rel_int hy
    cases op <;> simp only [binInt] at h
    case shl =>
      split at h <;> simp only [Option.some.injEq, reduceCtorEq] at h
      rename_i hn; subst h
      refine ⟨_, ?_, .int _ _⟩
      simp [binOp, Op.shift, hn]
    case shr =>
      split at h <;> simp only [Option.some.injEq, reduceCtorEq] at h
      rename_i hn; subst h
      refine ⟨_, ?_, .int _ _⟩
      simp [binOp, Op.shift, hn]
    all_goals
      split at h <;> try (simp only [reduceCtorEq] at h; done)
      rename_i hk
      simp only [ne_eq, Decidable.not_not] at hk
      subst hk
    case quo =>
      split at h <;> simp only [Option.some.injEq, reduceCtorEq] at h
      rename_i hb; subst h
      exact ⟨_, by simp [binOp, Op.intDiv, hb], .int _ _⟩
    case rem =>
      split at h <;> simp only [Option.some.injEq, reduceCtorEq] at h
      rename_i hb; subst h
      exact ⟨_, by simp [binOp, Op.intDiv, hb], .int _ _⟩
    all_goals
      simp only [Option.some.injEq] at h
      subst h
      first
        | exact ⟨_, by simp only [binOp, ne_eq, not_true_eq_false, if_false]; rfl, .int _ _⟩
        | exact ⟨_, by simp only [binOp, ne_eq, not_true_eq_false, if_false]; rfl, .bool _⟩
  case str.str a b =>
    obtain rfl := rel_str hx
    obtain rfl := rel_str hy
    cases op <;> simp only [binStr, Option.some.injEq, reduceCtorEq] at h
    case add =>
      split at h <;> simp only [Option.some.injEq, reduceCtorEq] at h
      rename_i hsz; subst h
      refine ⟨_, ?_, .str _⟩
      simp only [binOp, Op.stringOp]
      rw [if_neg (by rw [show IntKind.i64.max = 9223372036854775807 from rfl]; omega)]
      rfl
    all_goals
      subst h
      exact ⟨_, rfl, .bool _⟩

theorem un_rel {ι : Io} (op : UnOp) {x r : AV} {x' : Value} (w : World) (hx : RelV ι x x') (h : unAV op x = some r) :
    ∃ r', (Op.unary op x').run P w = .ok r' w ∧ RelV ι r r' := by
  cases x <;> simp only [unAV, reduceCtorEq] at h
  case bool b =>
    obtain rfl := rel_bool hx
    cases op <;> simp only [Option.some.injEq, reduceCtorEq] at h
    subst h
    exact ⟨_, rfl, .bool _⟩
  case int k n =>
    obtain rfl := rel_int hx
    cases op <;> simp only [Option.some.injEq, reduceCtorEq] at h <;> subst h
    · exact ⟨_, rfl, .int _ _⟩
    · exact ⟨_, rfl, .int _ _⟩
end Go.Ax
