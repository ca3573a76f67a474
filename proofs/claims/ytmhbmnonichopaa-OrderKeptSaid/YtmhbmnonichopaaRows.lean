/-
  No cell of these rows narrows 'for every input' (looked for: loops, veiled, ifaces, maps, wideKeys, modest, calm, conditions, laid).
  DERIVED. THE GIVEN ROWS OF THIS SEAT. 11 by the template 'for every input the law returns true; each argument reads behind the call as it read before'; 0 by the template 'total and deterministic' (their statements: YtmhbmnonichopaaTotals.lean).
  GIVEN WITH THE SEED: the statements are not yours to turn. If you find one false, say at which input.
  Laid BY PROGRAM, IN A SANDBOX (cutbox-rows.mjs): the forced cells as the released guide's own fill.sh prints them over the translation 0a903856592c34d6… (all of the seat's roots in one cut). By AI agents, Wed Nov 11 2026. No macro, syntax, notation, axiom, sorry.
-/
import Derived.Test.YtmhbmnonichopaaChecked
import GoSem.Claim
import GoSem.ClaimJoined
import GoSem.ClaimMapViews
import Derived.JoinedTies
import Derived.KernelRfl
namespace Go.Proofs.Ytmhbmnonichopaa
/- THE CELL 'sum', in the pinned program and in every row, IS THE sha256 OF THE DUMP (.gsa) THAT YtmhbmnonichopaaProg.lean LOADS. Nothing in Lean hashes anything: it is a label: what it is worth is what the hold of that sum in a sandbox is worth. -/
noncomputable def Try.pinned : Pinned := { name := "ytmhbmnonichopaa", sum := "0a903856592c34d609b9626da49530ea6d71382ca93ff6af6dd0d71c3cb51d5a", checked := Try.checked }
namespace Rows
def none {H : Type} : Left H := { results := [], args := [] }

/-- 'forecourtlaw07.OrderPlans': WHATEVER THE INPUT: true; the input reads as it did. -/
def orderPlansSpec : ChangeSpec := { name := "orderPlans", fn := fun _ => fun
  | [d1, d2] => { results := [.lit (.bool true)], args := [d1, d2] }
  | _ => none }
def orderPlansRow : OpenClaim := { program := "ytmhbmnonichopaa", sum := "0a903856592c34d609b9626da49530ea6d71382ca93ff6af6dd0d71c3cb51d5a", func := "forecourt/forecourtlaw07.OrderPlans", spec := "orderPlans", unfollowed := true, recurses := true, plainKeys := false, apart := false }
def OrderPlansSaid : Prop := orderPlansRow.holds Try.pinned (OpenSpec.ofChange orderPlansSpec)

/-- ITS FALSE NEIGHBOUR: 'it returns false'. Refute it at one input. -/
def orderPlansWrong : ChangeSpec := { name := "orderPlans", fn := fun _ => fun
  | [d1, d2] => { results := [.lit (.bool false)], args := [d1, d2] }
  | _ => none }
def OrderPlansWrongFalsely : Prop := orderPlansRow.holds Try.pinned (OpenSpec.ofChange orderPlansWrong)

/-- 'forecourtlaw07.OrderFollows': WHATEVER THE INPUT: true; the input reads as it did. -/
def orderFollowsSpec : ChangeSpec := { name := "orderFollows", fn := fun _ => fun
  | [d1, d2, d3, d4] => { results := [.lit (.bool true)], args := [d1, d2, d3, d4] }
  | _ => none }
def orderFollowsRow : OpenClaim := { program := "ytmhbmnonichopaa", sum := "0a903856592c34d609b9626da49530ea6d71382ca93ff6af6dd0d71c3cb51d5a", func := "forecourt/forecourtlaw07.OrderFollows", spec := "orderFollows", unfollowed := true, recurses := true, plainKeys := false, apart := false }
def OrderFollowsSaid : Prop := orderFollowsRow.holds Try.pinned (OpenSpec.ofChange orderFollowsSpec)

/-- ITS FALSE NEIGHBOUR: 'it returns false'. Refute it at one input. -/
def orderFollowsWrong : ChangeSpec := { name := "orderFollows", fn := fun _ => fun
  | [d1, d2, d3, d4] => { results := [.lit (.bool false)], args := [d1, d2, d3, d4] }
  | _ => none }
def OrderFollowsWrongFalsely : Prop := orderFollowsRow.holds Try.pinned (OpenSpec.ofChange orderFollowsWrong)

/-- 'forecourtlaw07.OrderBests': WHATEVER THE INPUT: true; the input reads as it did. -/
def orderBestsSpec : ChangeSpec := { name := "orderBests", fn := fun _ => fun
  | [d] => { results := [.lit (.bool true)], args := [d] }
  | _ => none }
def orderBestsRow : OpenClaim := { program := "ytmhbmnonichopaa", sum := "0a903856592c34d609b9626da49530ea6d71382ca93ff6af6dd0d71c3cb51d5a", func := "forecourt/forecourtlaw07.OrderBests", spec := "orderBests", unfollowed := true, recurses := true, plainKeys := false, apart := false }
def OrderBestsSaid : Prop := orderBestsRow.holds Try.pinned (OpenSpec.ofChange orderBestsSpec)

/-- ITS FALSE NEIGHBOUR: 'it returns false'. Refute it at one input. -/
def orderBestsWrong : ChangeSpec := { name := "orderBests", fn := fun _ => fun
  | [d] => { results := [.lit (.bool false)], args := [d] }
  | _ => none }
def OrderBestsWrongFalsely : Prop := orderBestsRow.holds Try.pinned (OpenSpec.ofChange orderBestsWrong)

/-- 'forecourtlaw07.OrderValues': WHATEVER THE INPUT: true; the input reads as it did. -/
def orderValuesSpec : ChangeSpec := { name := "orderValues", fn := fun _ => fun
  | [d1, d2] => { results := [.lit (.bool true)], args := [d1, d2] }
  | _ => none }
def orderValuesRow : OpenClaim := { program := "ytmhbmnonichopaa", sum := "0a903856592c34d609b9626da49530ea6d71382ca93ff6af6dd0d71c3cb51d5a", func := "forecourt/forecourtlaw07.OrderValues", spec := "orderValues", unfollowed := true, recurses := true, plainKeys := false, apart := false }
def OrderValuesSaid : Prop := orderValuesRow.holds Try.pinned (OpenSpec.ofChange orderValuesSpec)

/-- ITS FALSE NEIGHBOUR: 'it returns false'. Refute it at one input. -/
def orderValuesWrong : ChangeSpec := { name := "orderValues", fn := fun _ => fun
  | [d1, d2] => { results := [.lit (.bool false)], args := [d1, d2] }
  | _ => none }
def OrderValuesWrongFalsely : Prop := orderValuesRow.holds Try.pinned (OpenSpec.ofChange orderValuesWrong)

/-- 'forecourtlaw07.OrderKept': WHATEVER THE INPUT: true; the input reads as it did. -/
def orderKeptSpec : ChangeSpec := { name := "orderKept", fn := fun _ => fun
  | [d1, d2, d3, d4] => { results := [.lit (.bool true)], args := [d1, d2, d3, d4] }
  | _ => none }
def orderKeptRow : OpenClaim := { program := "ytmhbmnonichopaa", sum := "0a903856592c34d609b9626da49530ea6d71382ca93ff6af6dd0d71c3cb51d5a", func := "forecourt/forecourtlaw07.OrderKept", spec := "orderKept", unfollowed := true, recurses := true, plainKeys := false, apart := false }
def OrderKeptSaid : Prop := orderKeptRow.holds Try.pinned (OpenSpec.ofChange orderKeptSpec)

/-- ITS FALSE NEIGHBOUR: 'it returns false'. Refute it at one input. -/
def orderKeptWrong : ChangeSpec := { name := "orderKept", fn := fun _ => fun
  | [d1, d2, d3, d4] => { results := [.lit (.bool false)], args := [d1, d2, d3, d4] }
  | _ => none }
def OrderKeptWrongFalsely : Prop := orderKeptRow.holds Try.pinned (OpenSpec.ofChange orderKeptWrong)

/-- 'forecourtlaw07.OrderProved': WHATEVER THE INPUT: true; the input reads as it did. -/
def orderProvedSpec : ChangeSpec := { name := "orderProved", fn := fun _ => fun
  | [d1, d2, d3, d4] => { results := [.lit (.bool true)], args := [d1, d2, d3, d4] }
  | _ => none }
def orderProvedRow : OpenClaim := { program := "ytmhbmnonichopaa", sum := "0a903856592c34d609b9626da49530ea6d71382ca93ff6af6dd0d71c3cb51d5a", func := "forecourt/forecourtlaw07.OrderProved", spec := "orderProved", unfollowed := true, recurses := true, plainKeys := false, apart := false }
def OrderProvedSaid : Prop := orderProvedRow.holds Try.pinned (OpenSpec.ofChange orderProvedSpec)

/-- ITS FALSE NEIGHBOUR: 'it returns false'. Refute it at one input. -/
def orderProvedWrong : ChangeSpec := { name := "orderProved", fn := fun _ => fun
  | [d1, d2, d3, d4] => { results := [.lit (.bool false)], args := [d1, d2, d3, d4] }
  | _ => none }
def OrderProvedWrongFalsely : Prop := orderProvedRow.holds Try.pinned (OpenSpec.ofChange orderProvedWrong)

/-- 'forecourtlaw07.OrderEither': WHATEVER THE INPUT: true; the input reads as it did. -/
def orderEitherSpec : ChangeSpec := { name := "orderEither", fn := fun _ => fun
  | [d1, d2] => { results := [.lit (.bool true)], args := [d1, d2] }
  | _ => none }
def orderEitherRow : OpenClaim := { program := "ytmhbmnonichopaa", sum := "0a903856592c34d609b9626da49530ea6d71382ca93ff6af6dd0d71c3cb51d5a", func := "forecourt/forecourtlaw07.OrderEither", spec := "orderEither", unfollowed := true, recurses := true, plainKeys := false, apart := false }
def OrderEitherSaid : Prop := orderEitherRow.holds Try.pinned (OpenSpec.ofChange orderEitherSpec)

/-- ITS FALSE NEIGHBOUR: 'it returns false'. Refute it at one input. -/
def orderEitherWrong : ChangeSpec := { name := "orderEither", fn := fun _ => fun
  | [d1, d2] => { results := [.lit (.bool false)], args := [d1, d2] }
  | _ => none }
def OrderEitherWrongFalsely : Prop := orderEitherRow.holds Try.pinned (OpenSpec.ofChange orderEitherWrong)

/-- 'forecourtlaw07.OrderNarrower': WHATEVER THE INPUT: true; the input reads as it did. -/
def orderNarrowerSpec : ChangeSpec := { name := "orderNarrower", fn := fun _ => fun
  | [d1, d2, d3, d4, d5, d6] => { results := [.lit (.bool true)], args := [d1, d2, d3, d4, d5, d6] }
  | _ => none }
def orderNarrowerRow : OpenClaim := { program := "ytmhbmnonichopaa", sum := "0a903856592c34d609b9626da49530ea6d71382ca93ff6af6dd0d71c3cb51d5a", func := "forecourt/forecourtlaw07.OrderNarrower", spec := "orderNarrower", unfollowed := true, recurses := true, plainKeys := false, apart := false }
def OrderNarrowerSaid : Prop := orderNarrowerRow.holds Try.pinned (OpenSpec.ofChange orderNarrowerSpec)

/-- ITS FALSE NEIGHBOUR: 'it returns false'. Refute it at one input. -/
def orderNarrowerWrong : ChangeSpec := { name := "orderNarrower", fn := fun _ => fun
  | [d1, d2, d3, d4, d5, d6] => { results := [.lit (.bool false)], args := [d1, d2, d3, d4, d5, d6] }
  | _ => none }
def OrderNarrowerWrongFalsely : Prop := orderNarrowerRow.holds Try.pinned (OpenSpec.ofChange orderNarrowerWrong)

/-- 'forecourtlaw07.OrderCosts': WHATEVER THE INPUT: true; the input reads as it did. -/
def orderCostsSpec : ChangeSpec := { name := "orderCosts", fn := fun _ => fun
  | [d1, d2, d3, d4] => { results := [.lit (.bool true)], args := [d1, d2, d3, d4] }
  | _ => none }
def orderCostsRow : OpenClaim := { program := "ytmhbmnonichopaa", sum := "0a903856592c34d609b9626da49530ea6d71382ca93ff6af6dd0d71c3cb51d5a", func := "forecourt/forecourtlaw07.OrderCosts", spec := "orderCosts", unfollowed := true, recurses := true, plainKeys := false, apart := false }
def OrderCostsSaid : Prop := orderCostsRow.holds Try.pinned (OpenSpec.ofChange orderCostsSpec)

/-- ITS FALSE NEIGHBOUR: 'it returns false'. Refute it at one input. -/
def orderCostsWrong : ChangeSpec := { name := "orderCosts", fn := fun _ => fun
  | [d1, d2, d3, d4] => { results := [.lit (.bool false)], args := [d1, d2, d3, d4] }
  | _ => none }
def OrderCostsWrongFalsely : Prop := orderCostsRow.holds Try.pinned (OpenSpec.ofChange orderCostsWrong)

/-- 'forecourtlaw07.OrderLater': WHATEVER THE INPUT: true; the input reads as it did. -/
def orderLaterSpec : ChangeSpec := { name := "orderLater", fn := fun _ => fun
  | [d1, d2, d3] => { results := [.lit (.bool true)], args := [d1, d2, d3] }
  | _ => none }
def orderLaterRow : OpenClaim := { program := "ytmhbmnonichopaa", sum := "0a903856592c34d609b9626da49530ea6d71382ca93ff6af6dd0d71c3cb51d5a", func := "forecourt/forecourtlaw07.OrderLater", spec := "orderLater", unfollowed := true, recurses := true, plainKeys := false, apart := false }
def OrderLaterSaid : Prop := orderLaterRow.holds Try.pinned (OpenSpec.ofChange orderLaterSpec)

/-- ITS FALSE NEIGHBOUR: 'it returns false'. Refute it at one input. -/
def orderLaterWrong : ChangeSpec := { name := "orderLater", fn := fun _ => fun
  | [d1, d2, d3] => { results := [.lit (.bool false)], args := [d1, d2, d3] }
  | _ => none }
def OrderLaterWrongFalsely : Prop := orderLaterRow.holds Try.pinned (OpenSpec.ofChange orderLaterWrong)

/-- 'forecourtlaw07.OrderKnown': WHATEVER THE INPUT: true; the input reads as it did. -/
def orderKnownSpec : ChangeSpec := { name := "orderKnown", fn := fun _ => fun
  | [] => { results := [.lit (.bool true)], args := [] }
  | _ => none }
def orderKnownRow : OpenClaim := { program := "ytmhbmnonichopaa", sum := "0a903856592c34d609b9626da49530ea6d71382ca93ff6af6dd0d71c3cb51d5a", func := "forecourt/forecourtlaw07.OrderKnown", spec := "orderKnown", unfollowed := true, recurses := true, plainKeys := false, apart := false }
def OrderKnownSaid : Prop := orderKnownRow.holds Try.pinned (OpenSpec.ofChange orderKnownSpec)

/-- ITS FALSE NEIGHBOUR: 'it returns false'. Refute it at one input. -/
def orderKnownWrong : ChangeSpec := { name := "orderKnown", fn := fun _ => fun
  | [] => { results := [.lit (.bool false)], args := [] }
  | _ => none }
def OrderKnownWrongFalsely : Prop := orderKnownRow.holds Try.pinned (OpenSpec.ofChange orderKnownWrong)

/- THE SECOND FORM. 'bulk': how many values and letters a reading holds, each counted each time it is reached (what is shared counts as often as it is met; a slice's spare places count too). A statement '..UptoSaid' is the law's where the arguments, and the package variables that the reading takes, are together of bulk at most 1048576: NARROWER than '..Said'. Prove '..Said' where nothing that the law and all that it calls make is longer than what came in: it says more and counts as full. Else prove '..UptoSaid'. A law counts once. -/
mutual
def uptoBulk {H : Type} : DataW H → Nat
  | .lit (.string bytes) => bytes.length + 1
  | .lit _ => 1
  | .nil => 1
  | .ptr d => uptoBulk d + 1
  | .slice elems spare => uptoBulkAll elems + uptoBulkAll spare + 1
  | .agg parts => uptoBulkAll parts + 1
  | .iface _ d => uptoBulk d + 1
  | .map entries => uptoBulkEntries entries + 1
  | .held _ => 1
def uptoBulkAll {H : Type} : List (DataW H) → Nat
  | [] => 0
  | d :: r => uptoBulk d + uptoBulkAll r
def uptoBulkEntries {H : Type} : List (Lit × DataW H) → Nat
  | [] => 0
  | x :: r => uptoBulkEntry x + uptoBulkEntries r
def uptoBulkEntry {H : Type} : Lit × DataW H → Nat
  | (.string bytes, d) => bytes.length + uptoBulk d + 1
  | (_, d) => uptoBulk d + 1
 end
def uptoSmall : (H : Type) → List (DataW H) → Bool := fun _ ds => decide (uptoBulkAll ds ≤ 1048576)
def OpenSpec.upto (s : _root_.Go.ChangeSpec) : _root_.Go.OpenSpec := { _root_.Go.OpenSpec.ofChange s with cond := some uptoSmall }

/-- 'forecourtlaw07.OrderPlans', WHERE WHAT IT READS IS OF BULK AT MOST 1048576: true; the input reads as it did. -/
def orderPlansUptoRow : OpenClaim := { program := "ytmhbmnonichopaa", sum := "0a903856592c34d609b9626da49530ea6d71382ca93ff6af6dd0d71c3cb51d5a", func := "forecourt/forecourtlaw07.OrderPlans", spec := "orderPlans", unfollowed := true, recurses := true, plainKeys := false, apart := false, narrowed := true }
def OrderPlansUptoSaid : Prop := orderPlansUptoRow.holds Try.pinned (OpenSpec.upto orderPlansSpec)

/-- 'forecourtlaw07.OrderFollows', WHERE WHAT IT READS IS OF BULK AT MOST 1048576: true; the input reads as it did. -/
def orderFollowsUptoRow : OpenClaim := { program := "ytmhbmnonichopaa", sum := "0a903856592c34d609b9626da49530ea6d71382ca93ff6af6dd0d71c3cb51d5a", func := "forecourt/forecourtlaw07.OrderFollows", spec := "orderFollows", unfollowed := true, recurses := true, plainKeys := false, apart := false, narrowed := true }
def OrderFollowsUptoSaid : Prop := orderFollowsUptoRow.holds Try.pinned (OpenSpec.upto orderFollowsSpec)

/-- 'forecourtlaw07.OrderBests', WHERE WHAT IT READS IS OF BULK AT MOST 1048576: true; the input reads as it did. -/
def orderBestsUptoRow : OpenClaim := { program := "ytmhbmnonichopaa", sum := "0a903856592c34d609b9626da49530ea6d71382ca93ff6af6dd0d71c3cb51d5a", func := "forecourt/forecourtlaw07.OrderBests", spec := "orderBests", unfollowed := true, recurses := true, plainKeys := false, apart := false, narrowed := true }
def OrderBestsUptoSaid : Prop := orderBestsUptoRow.holds Try.pinned (OpenSpec.upto orderBestsSpec)

/-- 'forecourtlaw07.OrderValues', WHERE WHAT IT READS IS OF BULK AT MOST 1048576: true; the input reads as it did. -/
def orderValuesUptoRow : OpenClaim := { program := "ytmhbmnonichopaa", sum := "0a903856592c34d609b9626da49530ea6d71382ca93ff6af6dd0d71c3cb51d5a", func := "forecourt/forecourtlaw07.OrderValues", spec := "orderValues", unfollowed := true, recurses := true, plainKeys := false, apart := false, narrowed := true }
def OrderValuesUptoSaid : Prop := orderValuesUptoRow.holds Try.pinned (OpenSpec.upto orderValuesSpec)

/-- 'forecourtlaw07.OrderKept', WHERE WHAT IT READS IS OF BULK AT MOST 1048576: true; the input reads as it did. -/
def orderKeptUptoRow : OpenClaim := { program := "ytmhbmnonichopaa", sum := "0a903856592c34d609b9626da49530ea6d71382ca93ff6af6dd0d71c3cb51d5a", func := "forecourt/forecourtlaw07.OrderKept", spec := "orderKept", unfollowed := true, recurses := true, plainKeys := false, apart := false, narrowed := true }
def OrderKeptUptoSaid : Prop := orderKeptUptoRow.holds Try.pinned (OpenSpec.upto orderKeptSpec)

/-- 'forecourtlaw07.OrderProved', WHERE WHAT IT READS IS OF BULK AT MOST 1048576: true; the input reads as it did. -/
def orderProvedUptoRow : OpenClaim := { program := "ytmhbmnonichopaa", sum := "0a903856592c34d609b9626da49530ea6d71382ca93ff6af6dd0d71c3cb51d5a", func := "forecourt/forecourtlaw07.OrderProved", spec := "orderProved", unfollowed := true, recurses := true, plainKeys := false, apart := false, narrowed := true }
def OrderProvedUptoSaid : Prop := orderProvedUptoRow.holds Try.pinned (OpenSpec.upto orderProvedSpec)

/-- 'forecourtlaw07.OrderEither', WHERE WHAT IT READS IS OF BULK AT MOST 1048576: true; the input reads as it did. -/
def orderEitherUptoRow : OpenClaim := { program := "ytmhbmnonichopaa", sum := "0a903856592c34d609b9626da49530ea6d71382ca93ff6af6dd0d71c3cb51d5a", func := "forecourt/forecourtlaw07.OrderEither", spec := "orderEither", unfollowed := true, recurses := true, plainKeys := false, apart := false, narrowed := true }
def OrderEitherUptoSaid : Prop := orderEitherUptoRow.holds Try.pinned (OpenSpec.upto orderEitherSpec)

/-- 'forecourtlaw07.OrderNarrower', WHERE WHAT IT READS IS OF BULK AT MOST 1048576: true; the input reads as it did. -/
def orderNarrowerUptoRow : OpenClaim := { program := "ytmhbmnonichopaa", sum := "0a903856592c34d609b9626da49530ea6d71382ca93ff6af6dd0d71c3cb51d5a", func := "forecourt/forecourtlaw07.OrderNarrower", spec := "orderNarrower", unfollowed := true, recurses := true, plainKeys := false, apart := false, narrowed := true }
def OrderNarrowerUptoSaid : Prop := orderNarrowerUptoRow.holds Try.pinned (OpenSpec.upto orderNarrowerSpec)

/-- 'forecourtlaw07.OrderCosts', WHERE WHAT IT READS IS OF BULK AT MOST 1048576: true; the input reads as it did. -/
def orderCostsUptoRow : OpenClaim := { program := "ytmhbmnonichopaa", sum := "0a903856592c34d609b9626da49530ea6d71382ca93ff6af6dd0d71c3cb51d5a", func := "forecourt/forecourtlaw07.OrderCosts", spec := "orderCosts", unfollowed := true, recurses := true, plainKeys := false, apart := false, narrowed := true }
def OrderCostsUptoSaid : Prop := orderCostsUptoRow.holds Try.pinned (OpenSpec.upto orderCostsSpec)

/-- 'forecourtlaw07.OrderLater', WHERE WHAT IT READS IS OF BULK AT MOST 1048576: true; the input reads as it did. -/
def orderLaterUptoRow : OpenClaim := { program := "ytmhbmnonichopaa", sum := "0a903856592c34d609b9626da49530ea6d71382ca93ff6af6dd0d71c3cb51d5a", func := "forecourt/forecourtlaw07.OrderLater", spec := "orderLater", unfollowed := true, recurses := true, plainKeys := false, apart := false, narrowed := true }
def OrderLaterUptoSaid : Prop := orderLaterUptoRow.holds Try.pinned (OpenSpec.upto orderLaterSpec)

/-- 'forecourtlaw07.OrderKnown', WHERE WHAT IT READS IS OF BULK AT MOST 1048576: true; the input reads as it did. -/
def orderKnownUptoRow : OpenClaim := { program := "ytmhbmnonichopaa", sum := "0a903856592c34d609b9626da49530ea6d71382ca93ff6af6dd0d71c3cb51d5a", func := "forecourt/forecourtlaw07.OrderKnown", spec := "orderKnown", unfollowed := true, recurses := true, plainKeys := false, apart := false, narrowed := true }
def OrderKnownUptoSaid : Prop := orderKnownUptoRow.holds Try.pinned (OpenSpec.upto orderKnownSpec)

end Rows
end Go.Proofs.Ytmhbmnonichopaa
