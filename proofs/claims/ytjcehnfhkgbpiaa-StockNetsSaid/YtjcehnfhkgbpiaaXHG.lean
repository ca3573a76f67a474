/-
  The table's functions; the examples' function; ranges and cans out of what was read.
-/
import Derived.Test.YtjcehnfhkgbpiaaXH1
import Derived.Test.YtjcehnfhkgbpiaaXF2
import Derived.Test.YtjcehnfhkgbpiaaXMK
import Derived.KernelRfl
open Go.RowKit Go.ChangeShapes Go.Proofs
namespace Go.Ax
set_option maxHeartbeats 1000000
set_option maxRecDepth 100000
theorem works_ran : K.run tbl 4000 16 = true := by decide +kernel
theorem tblW_ok : TblOk Try.prog tblW := by
  intro g fn h
  unfold tblW at h
  cases hg : Nat.beq g 16 with
  | true =>
    rw [hg] at h
    cases h
    have := Nat.eq_of_beq_eq_true hg
    subst this
    exact ⟨_, _, Try.func16, cf16, .inr ⟨rfl, fun w => closed_calls tblOk mixed works_ran w⟩⟩
  | false =>
    rw [hg] at h
    exact tblOk g fn h
theorem law_calls {g : Nat} {args : List AV} {argsv : List Value} {ι : Io} {h : H} {F : Hp} {w : World} (G : GivenF Try.prog ι h w F) (ha : RelL ι args argsv) (hp : Pure tblW (.fn (.func g) [] []) args F (.bool true)) :
    Calls Try.prog g argsv.toArray w fun e w' => e = .returned (.bool true) ∧ Below w.heap.size w w' := by
  obtain ⟨n, hn⟩ := (hp 0).run h G.f (Nat.zero_le _) (Nat.zero_le _)
  exact ax_true tblW_ok mixed G.g ha (T.all_mono (fun r ⟨_, _, h, _⟩ => h) hn)
theorem maxLen_lt {n : Nat} (h : n ≤ maxLen) : n ≤ 9223372036854775807 := h
theorem range40 : IsPair Try.prog 40 .i64 := ⟨⟨_, _, Try.underlying40, Try.underlying2, Try.underlying2, rfl, rfl, by kernel_rfl, by kernel_rfl⟩, by kernel_rfl⟩
theorem can73 : IsPair Try.prog 73 .i64 := ⟨⟨_, _, Try.underlying73, Try.underlying2, Try.underlying2, rfl, rfl, by kernel_rfl, by kernel_rfl⟩, by kernel_rfl⟩
theorem range_open {H' : Type} {enc : TypeId × Value → H'} {W : World} {base : Nat} {v : Value} {d : DataW H'} {p : List MemPlace} (hval : Value.okWide Try.prog W .any base 40 v)
    (h : DataW.Trod enc Try.prog W 0 (fun _ => true) true 40 v d p) : ∃ a b : Int, v = .agg #[.int .i64 a, .int .i64 b] := by
  simp only [Value.okWide, Try.underlying40] at hval
  obtain ⟨cs, rfl, _, _⟩ := hval
  obtain ⟨fuel, h⟩ := h
  obtain ⟨a, b, e⟩ := open_pair2 range40 (show DataW.trod enc Try.prog W 0 (fun _ => true) true fuel 40 cs.toList = some (d, p) from h)
  refine ⟨a, b, ?_⟩
  obtain ⟨l⟩ := cs
  have e : l = _ := e
  rw [e]
theorem cans_open {H' : Type} {enc : TypeId × Value → H'} {W : World} {base : Nat} {v : Value} {d : DataW H'} {p : List MemPlace} (hval : Value.okWide Try.prog W .any base 51 v) (h : DataW.Trod enc Try.prog W 0 (fun _ => true) true 51 v d p) :
    ∃ rs : List (Int × Int), SlcAt W v rs.length (flat rs) ∧ rs.length ≤ maxLen := by
  obtain ⟨a, l, c, rfl⟩ := Go.WideShapes.okWide_slice Try.underlying51 hval
  simp only [Value.okWide, Try.underlying51] at hval
  obtain ⟨fuel, h⟩ := h
  exact slcAt_pairs Try.underlying51 can73 (show DataW.trod enc Try.prog W 0 (fun _ => true) true fuel 51 [.slice a l c] = some (d, p) from h) hval
theorem range_rel {ι : Io} {a b : Int} : RelV ι (.agg [.int .i64 a, .int .i64 b]) (.agg #[.int .i64 a, .int .i64 b]) := by
  have hL : RelL ι [AV.int .i64 a, .int .i64 b] [.int .i64 a, .int .i64 b] := .cons (.int _ _) (.cons (.int _ _) .nil)
  refine .agg rfl ?_ (fun i x v hx hv => hL.2 i x v hx (by simpa using hv))
  intro x hx
  simp only [List.mem_cons, List.not_mem_nil, or_false] at hx
  rcases hx with rfl | rfl <;> rfl
end Go.Ax
