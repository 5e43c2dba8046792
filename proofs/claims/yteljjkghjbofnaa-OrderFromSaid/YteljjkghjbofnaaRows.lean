/-
  No cell of these rows narrows 'for every input' (looked for: loops, veiled, ifaces, maps, wideKeys, modest, calm, conditions, laid).
  DERIVED. THE GIVEN ROWS OF THIS SEAT. 19 by the template 'for every input the law returns true; each argument reads behind the call as it read before'; 0 by the template 'total and deterministic' (their statements: YteljjkghjbofnaaTotals.lean).
  GIVEN WITH THE SEED: the statements are not yours to turn. If you find one false, say at which input.
  Laid BY PROGRAM, IN A SANDBOX (cutbox-rows.mjs): the forced cells as the released guide's own fill.sh prints them over the translation f24c1d344ebfd66e… (all of the seat's roots in one cut). By AI agents, Wed Nov 11 2026. No macro, syntax, notation, axiom, sorry.
-/
import Derived.Test.YteljjkghjbofnaaChecked
import GoSem.Claim
import GoSem.ClaimJoined
import GoSem.ClaimMapViews
import Derived.JoinedTies
import Derived.KernelRfl
namespace Go.Proofs.Yteljjkghjbofnaa
/- THE CELL 'sum', in the pinned program and in every row, IS THE sha256 OF THE DUMP (.gsa) THAT YteljjkghjbofnaaProg.lean LOADS. Nothing in Lean hashes anything: it is a label: what it is worth is what the hold of that sum in a sandbox is worth. -/
noncomputable def Try.pinned : Pinned := { name := "yteljjkghjbofnaa", sum := "f24c1d344ebfd66e73eb1cb253f04679aa60985ea3f2c29211b44ac6539409fa", checked := Try.checked }
namespace Rows
def none {H : Type} : Left H := { results := [], args := [] }

/-- 'giornatalaw05.OrderChecks': WHATEVER THE INPUT: true; the input reads as it did. -/
def orderChecksSpec : ChangeSpec := { name := "orderChecks", fn := fun _ => fun
  | [d1, d2, d3] => { results := [.lit (.bool true)], args := [d1, d2, d3] }
  | _ => none }
def orderChecksRow : OpenClaim := { program := "yteljjkghjbofnaa", sum := "f24c1d344ebfd66e73eb1cb253f04679aa60985ea3f2c29211b44ac6539409fa", func := "giornata/giornatalaw05.OrderChecks", spec := "orderChecks", unfollowed := true, recurses := true, plainKeys := false, apart := false }
def OrderChecksSaid : Prop := orderChecksRow.holds Try.pinned (OpenSpec.ofChange orderChecksSpec)

/-- ITS FALSE NEIGHBOUR: 'it returns false'. Refute it at one input. -/
def orderChecksWrong : ChangeSpec := { name := "orderChecks", fn := fun _ => fun
  | [d1, d2, d3] => { results := [.lit (.bool false)], args := [d1, d2, d3] }
  | _ => none }
def OrderChecksWrongFalsely : Prop := orderChecksRow.holds Try.pinned (OpenSpec.ofChange orderChecksWrong)

/-- 'giornatalaw05.OrderWaits': WHATEVER THE INPUT: true; the input reads as it did. -/
def orderWaitsSpec : ChangeSpec := { name := "orderWaits", fn := fun _ => fun
  | [d1, d2] => { results := [.lit (.bool true)], args := [d1, d2] }
  | _ => none }
def orderWaitsRow : OpenClaim := { program := "yteljjkghjbofnaa", sum := "f24c1d344ebfd66e73eb1cb253f04679aa60985ea3f2c29211b44ac6539409fa", func := "giornata/giornatalaw05.OrderWaits", spec := "orderWaits", unfollowed := true, recurses := true, plainKeys := false, apart := false }
def OrderWaitsSaid : Prop := orderWaitsRow.holds Try.pinned (OpenSpec.ofChange orderWaitsSpec)

/-- ITS FALSE NEIGHBOUR: 'it returns false'. Refute it at one input. -/
def orderWaitsWrong : ChangeSpec := { name := "orderWaits", fn := fun _ => fun
  | [d1, d2] => { results := [.lit (.bool false)], args := [d1, d2] }
  | _ => none }
def OrderWaitsWrongFalsely : Prop := orderWaitsRow.holds Try.pinned (OpenSpec.ofChange orderWaitsWrong)

/-- 'giornatalaw05.OrderReasons': WHATEVER THE INPUT: true; the input reads as it did. -/
def orderReasonsSpec : ChangeSpec := { name := "orderReasons", fn := fun _ => fun
  | [d1, d2, d3] => { results := [.lit (.bool true)], args := [d1, d2, d3] }
  | _ => none }
def orderReasonsRow : OpenClaim := { program := "yteljjkghjbofnaa", sum := "f24c1d344ebfd66e73eb1cb253f04679aa60985ea3f2c29211b44ac6539409fa", func := "giornata/giornatalaw05.OrderReasons", spec := "orderReasons", unfollowed := true, recurses := true, plainKeys := false, apart := false }
def OrderReasonsSaid : Prop := orderReasonsRow.holds Try.pinned (OpenSpec.ofChange orderReasonsSpec)

/-- ITS FALSE NEIGHBOUR: 'it returns false'. Refute it at one input. -/
def orderReasonsWrong : ChangeSpec := { name := "orderReasons", fn := fun _ => fun
  | [d1, d2, d3] => { results := [.lit (.bool false)], args := [d1, d2, d3] }
  | _ => none }
def OrderReasonsWrongFalsely : Prop := orderReasonsRow.holds Try.pinned (OpenSpec.ofChange orderReasonsWrong)

/-- 'giornatalaw05.OrderCircles': WHATEVER THE INPUT: true; the input reads as it did. -/
def orderCirclesSpec : ChangeSpec := { name := "orderCircles", fn := fun _ => fun
  | [d1, d2] => { results := [.lit (.bool true)], args := [d1, d2] }
  | _ => none }
def orderCirclesRow : OpenClaim := { program := "yteljjkghjbofnaa", sum := "f24c1d344ebfd66e73eb1cb253f04679aa60985ea3f2c29211b44ac6539409fa", func := "giornata/giornatalaw05.OrderCircles", spec := "orderCircles", unfollowed := true, recurses := true, plainKeys := false, apart := false }
def OrderCirclesSaid : Prop := orderCirclesRow.holds Try.pinned (OpenSpec.ofChange orderCirclesSpec)

/-- ITS FALSE NEIGHBOUR: 'it returns false'. Refute it at one input. -/
def orderCirclesWrong : ChangeSpec := { name := "orderCircles", fn := fun _ => fun
  | [d1, d2] => { results := [.lit (.bool false)], args := [d1, d2] }
  | _ => none }
def OrderCirclesWrongFalsely : Prop := orderCirclesRow.holds Try.pinned (OpenSpec.ofChange orderCirclesWrong)

/-- 'giornatalaw05.OrderEither': WHATEVER THE INPUT: true; the input reads as it did. -/
def orderEitherSpec : ChangeSpec := { name := "orderEither", fn := fun _ => fun
  | [d1, d2] => { results := [.lit (.bool true)], args := [d1, d2] }
  | _ => none }
def orderEitherRow : OpenClaim := { program := "yteljjkghjbofnaa", sum := "f24c1d344ebfd66e73eb1cb253f04679aa60985ea3f2c29211b44ac6539409fa", func := "giornata/giornatalaw05.OrderEither", spec := "orderEither", unfollowed := true, recurses := true, plainKeys := false, apart := false }
def OrderEitherSaid : Prop := orderEitherRow.holds Try.pinned (OpenSpec.ofChange orderEitherSpec)

/-- ITS FALSE NEIGHBOUR: 'it returns false'. Refute it at one input. -/
def orderEitherWrong : ChangeSpec := { name := "orderEither", fn := fun _ => fun
  | [d1, d2] => { results := [.lit (.bool false)], args := [d1, d2] }
  | _ => none }
def OrderEitherWrongFalsely : Prop := orderEitherRow.holds Try.pinned (OpenSpec.ofChange orderEitherWrong)

/-- 'giornatalaw05.OrderDays': WHATEVER THE INPUT: true; the input reads as it did. -/
def orderDaysSpec : ChangeSpec := { name := "orderDays", fn := fun _ => fun
  | [d1, d2, d3, d4] => { results := [.lit (.bool true)], args := [d1, d2, d3, d4] }
  | _ => none }
def orderDaysRow : OpenClaim := { program := "yteljjkghjbofnaa", sum := "f24c1d344ebfd66e73eb1cb253f04679aa60985ea3f2c29211b44ac6539409fa", func := "giornata/giornatalaw05.OrderDays", spec := "orderDays", unfollowed := true, recurses := true, plainKeys := false, apart := false }
def OrderDaysSaid : Prop := orderDaysRow.holds Try.pinned (OpenSpec.ofChange orderDaysSpec)

/-- ITS FALSE NEIGHBOUR: 'it returns false'. Refute it at one input. -/
def orderDaysWrong : ChangeSpec := { name := "orderDays", fn := fun _ => fun
  | [d1, d2, d3, d4] => { results := [.lit (.bool false)], args := [d1, d2, d3, d4] }
  | _ => none }
def OrderDaysWrongFalsely : Prop := orderDaysRow.holds Try.pinned (OpenSpec.ofChange orderDaysWrong)

/-- 'giornatalaw05.OrderEarliest': WHATEVER THE INPUT: true; the input reads as it did. -/
def orderEarliestSpec : ChangeSpec := { name := "orderEarliest", fn := fun _ => fun
  | [d1, d2, d3] => { results := [.lit (.bool true)], args := [d1, d2, d3] }
  | _ => none }
def orderEarliestRow : OpenClaim := { program := "yteljjkghjbofnaa", sum := "f24c1d344ebfd66e73eb1cb253f04679aa60985ea3f2c29211b44ac6539409fa", func := "giornata/giornatalaw05.OrderEarliest", spec := "orderEarliest", unfollowed := true, recurses := true, plainKeys := false, apart := false }
def OrderEarliestSaid : Prop := orderEarliestRow.holds Try.pinned (OpenSpec.ofChange orderEarliestSpec)

/-- ITS FALSE NEIGHBOUR: 'it returns false'. Refute it at one input. -/
def orderEarliestWrong : ChangeSpec := { name := "orderEarliest", fn := fun _ => fun
  | [d1, d2, d3] => { results := [.lit (.bool false)], args := [d1, d2, d3] }
  | _ => none }
def OrderEarliestWrongFalsely : Prop := orderEarliestRow.holds Try.pinned (OpenSpec.ofChange orderEarliestWrong)

/-- 'giornatalaw05.OrderFirsts': WHATEVER THE INPUT: true; the input reads as it did. -/
def orderFirstsSpec : ChangeSpec := { name := "orderFirsts", fn := fun _ => fun
  | [d1, d2] => { results := [.lit (.bool true)], args := [d1, d2] }
  | _ => none }
def orderFirstsRow : OpenClaim := { program := "yteljjkghjbofnaa", sum := "f24c1d344ebfd66e73eb1cb253f04679aa60985ea3f2c29211b44ac6539409fa", func := "giornata/giornatalaw05.OrderFirsts", spec := "orderFirsts", unfollowed := true, recurses := true, plainKeys := false, apart := false }
def OrderFirstsSaid : Prop := orderFirstsRow.holds Try.pinned (OpenSpec.ofChange orderFirstsSpec)

/-- ITS FALSE NEIGHBOUR: 'it returns false'. Refute it at one input. -/
def orderFirstsWrong : ChangeSpec := { name := "orderFirsts", fn := fun _ => fun
  | [d1, d2] => { results := [.lit (.bool false)], args := [d1, d2] }
  | _ => none }
def OrderFirstsWrongFalsely : Prop := orderFirstsRow.holds Try.pinned (OpenSpec.ofChange orderFirstsWrong)

/-- 'giornatalaw05.OrderCounts': WHATEVER THE INPUT: true; the input reads as it did. -/
def orderCountsSpec : ChangeSpec := { name := "orderCounts", fn := fun _ => fun
  | [d1, d2, d3] => { results := [.lit (.bool true)], args := [d1, d2, d3] }
  | _ => none }
def orderCountsRow : OpenClaim := { program := "yteljjkghjbofnaa", sum := "f24c1d344ebfd66e73eb1cb253f04679aa60985ea3f2c29211b44ac6539409fa", func := "giornata/giornatalaw05.OrderCounts", spec := "orderCounts", unfollowed := true, recurses := true, plainKeys := false, apart := false }
def OrderCountsSaid : Prop := orderCountsRow.holds Try.pinned (OpenSpec.ofChange orderCountsSpec)

/-- ITS FALSE NEIGHBOUR: 'it returns false'. Refute it at one input. -/
def orderCountsWrong : ChangeSpec := { name := "orderCounts", fn := fun _ => fun
  | [d1, d2, d3] => { results := [.lit (.bool false)], args := [d1, d2, d3] }
  | _ => none }
def OrderCountsWrongFalsely : Prop := orderCountsRow.holds Try.pinned (OpenSpec.ofChange orderCountsWrong)

/-- 'giornatalaw05.OrderCloses': WHATEVER THE INPUT: true; the input reads as it did. -/
def orderClosesSpec : ChangeSpec := { name := "orderCloses", fn := fun _ => fun
  | [d] => { results := [.lit (.bool true)], args := [d] }
  | _ => none }
def orderClosesRow : OpenClaim := { program := "yteljjkghjbofnaa", sum := "f24c1d344ebfd66e73eb1cb253f04679aa60985ea3f2c29211b44ac6539409fa", func := "giornata/giornatalaw05.OrderCloses", spec := "orderCloses", unfollowed := true, recurses := true, plainKeys := false, apart := false }
def OrderClosesSaid : Prop := orderClosesRow.holds Try.pinned (OpenSpec.ofChange orderClosesSpec)

/-- ITS FALSE NEIGHBOUR: 'it returns false'. Refute it at one input. -/
def orderClosesWrong : ChangeSpec := { name := "orderCloses", fn := fun _ => fun
  | [d] => { results := [.lit (.bool false)], args := [d] }
  | _ => none }
def OrderClosesWrongFalsely : Prop := orderClosesRow.holds Try.pinned (OpenSpec.ofChange orderClosesWrong)

/-- 'giornatalaw05.OrderStands': WHATEVER THE INPUT: true; the input reads as it did. -/
def orderStandsSpec : ChangeSpec := { name := "orderStands", fn := fun _ => fun
  | [d1, d2, d3, d4] => { results := [.lit (.bool true)], args := [d1, d2, d3, d4] }
  | _ => none }
def orderStandsRow : OpenClaim := { program := "yteljjkghjbofnaa", sum := "f24c1d344ebfd66e73eb1cb253f04679aa60985ea3f2c29211b44ac6539409fa", func := "giornata/giornatalaw05.OrderStands", spec := "orderStands", unfollowed := true, recurses := true, plainKeys := false, apart := false }
def OrderStandsSaid : Prop := orderStandsRow.holds Try.pinned (OpenSpec.ofChange orderStandsSpec)

/-- ITS FALSE NEIGHBOUR: 'it returns false'. Refute it at one input. -/
def orderStandsWrong : ChangeSpec := { name := "orderStands", fn := fun _ => fun
  | [d1, d2, d3, d4] => { results := [.lit (.bool false)], args := [d1, d2, d3, d4] }
  | _ => none }
def OrderStandsWrongFalsely : Prop := orderStandsRow.holds Try.pinned (OpenSpec.ofChange orderStandsWrong)

/-- 'giornatalaw05.OrderLeasts': WHATEVER THE INPUT: true; the input reads as it did. -/
def orderLeastsSpec : ChangeSpec := { name := "orderLeasts", fn := fun _ => fun
  | [d] => { results := [.lit (.bool true)], args := [d] }
  | _ => none }
def orderLeastsRow : OpenClaim := { program := "yteljjkghjbofnaa", sum := "f24c1d344ebfd66e73eb1cb253f04679aa60985ea3f2c29211b44ac6539409fa", func := "giornata/giornatalaw05.OrderLeasts", spec := "orderLeasts", unfollowed := true, recurses := true, plainKeys := false, apart := false }
def OrderLeastsSaid : Prop := orderLeastsRow.holds Try.pinned (OpenSpec.ofChange orderLeastsSpec)

/-- ITS FALSE NEIGHBOUR: 'it returns false'. Refute it at one input. -/
def orderLeastsWrong : ChangeSpec := { name := "orderLeasts", fn := fun _ => fun
  | [d] => { results := [.lit (.bool false)], args := [d] }
  | _ => none }
def OrderLeastsWrongFalsely : Prop := orderLeastsRow.holds Try.pinned (OpenSpec.ofChange orderLeastsWrong)

/-- 'giornatalaw05.OrderMends': WHATEVER THE INPUT: true; the input reads as it did. -/
def orderMendsSpec : ChangeSpec := { name := "orderMends", fn := fun _ => fun
  | [d1, d2] => { results := [.lit (.bool true)], args := [d1, d2] }
  | _ => none }
def orderMendsRow : OpenClaim := { program := "yteljjkghjbofnaa", sum := "f24c1d344ebfd66e73eb1cb253f04679aa60985ea3f2c29211b44ac6539409fa", func := "giornata/giornatalaw05.OrderMends", spec := "orderMends", unfollowed := true, recurses := true, plainKeys := false, apart := false }
def OrderMendsSaid : Prop := orderMendsRow.holds Try.pinned (OpenSpec.ofChange orderMendsSpec)

/-- ITS FALSE NEIGHBOUR: 'it returns false'. Refute it at one input. -/
def orderMendsWrong : ChangeSpec := { name := "orderMends", fn := fun _ => fun
  | [d1, d2] => { results := [.lit (.bool false)], args := [d1, d2] }
  | _ => none }
def OrderMendsWrongFalsely : Prop := orderMendsRow.holds Try.pinned (OpenSpec.ofChange orderMendsWrong)

/-- 'giornatalaw05.OrderFrees': WHATEVER THE INPUT: true; the input reads as it did. -/
def orderFreesSpec : ChangeSpec := { name := "orderFrees", fn := fun _ => fun
  | [d1, d2, d3] => { results := [.lit (.bool true)], args := [d1, d2, d3] }
  | _ => none }
def orderFreesRow : OpenClaim := { program := "yteljjkghjbofnaa", sum := "f24c1d344ebfd66e73eb1cb253f04679aa60985ea3f2c29211b44ac6539409fa", func := "giornata/giornatalaw05.OrderFrees", spec := "orderFrees", unfollowed := true, recurses := true, plainKeys := false, apart := false }
def OrderFreesSaid : Prop := orderFreesRow.holds Try.pinned (OpenSpec.ofChange orderFreesSpec)

/-- ITS FALSE NEIGHBOUR: 'it returns false'. Refute it at one input. -/
def orderFreesWrong : ChangeSpec := { name := "orderFrees", fn := fun _ => fun
  | [d1, d2, d3] => { results := [.lit (.bool false)], args := [d1, d2, d3] }
  | _ => none }
def OrderFreesWrongFalsely : Prop := orderFreesRow.holds Try.pinned (OpenSpec.ofChange orderFreesWrong)

/-- 'giornatalaw05.OrderFrom': WHATEVER THE INPUT: true; the input reads as it did. -/
def orderFromSpec : ChangeSpec := { name := "orderFrom", fn := fun _ => fun
  | [d1, d2] => { results := [.lit (.bool true)], args := [d1, d2] }
  | _ => none }
def orderFromRow : OpenClaim := { program := "yteljjkghjbofnaa", sum := "f24c1d344ebfd66e73eb1cb253f04679aa60985ea3f2c29211b44ac6539409fa", func := "giornata/giornatalaw05.OrderFrom", spec := "orderFrom", unfollowed := true, recurses := true, plainKeys := false, apart := false }
def OrderFromSaid : Prop := orderFromRow.holds Try.pinned (OpenSpec.ofChange orderFromSpec)

/-- ITS FALSE NEIGHBOUR: 'it returns false'. Refute it at one input. -/
def orderFromWrong : ChangeSpec := { name := "orderFrom", fn := fun _ => fun
  | [d1, d2] => { results := [.lit (.bool false)], args := [d1, d2] }
  | _ => none }
def OrderFromWrongFalsely : Prop := orderFromRow.holds Try.pinned (OpenSpec.ofChange orderFromWrong)

/-- 'giornatalaw05.OrderMore': WHATEVER THE INPUT: true; the input reads as it did. -/
def orderMoreSpec : ChangeSpec := { name := "orderMore", fn := fun _ => fun
  | [d1, d2, d3, d4] => { results := [.lit (.bool true)], args := [d1, d2, d3, d4] }
  | _ => none }
def orderMoreRow : OpenClaim := { program := "yteljjkghjbofnaa", sum := "f24c1d344ebfd66e73eb1cb253f04679aa60985ea3f2c29211b44ac6539409fa", func := "giornata/giornatalaw05.OrderMore", spec := "orderMore", unfollowed := true, recurses := true, plainKeys := false, apart := false }
def OrderMoreSaid : Prop := orderMoreRow.holds Try.pinned (OpenSpec.ofChange orderMoreSpec)

/-- ITS FALSE NEIGHBOUR: 'it returns false'. Refute it at one input. -/
def orderMoreWrong : ChangeSpec := { name := "orderMore", fn := fun _ => fun
  | [d1, d2, d3, d4] => { results := [.lit (.bool false)], args := [d1, d2, d3, d4] }
  | _ => none }
def OrderMoreWrongFalsely : Prop := orderMoreRow.holds Try.pinned (OpenSpec.ofChange orderMoreWrong)

/-- 'giornatalaw05.OrderMemory': WHATEVER THE INPUT: true; the input reads as it did. -/
def orderMemorySpec : ChangeSpec := { name := "orderMemory", fn := fun _ => fun
  | [d1, d2, d3] => { results := [.lit (.bool true)], args := [d1, d2, d3] }
  | _ => none }
def orderMemoryRow : OpenClaim := { program := "yteljjkghjbofnaa", sum := "f24c1d344ebfd66e73eb1cb253f04679aa60985ea3f2c29211b44ac6539409fa", func := "giornata/giornatalaw05.OrderMemory", spec := "orderMemory", unfollowed := true, recurses := true, plainKeys := false, apart := false }
def OrderMemorySaid : Prop := orderMemoryRow.holds Try.pinned (OpenSpec.ofChange orderMemorySpec)

/-- ITS FALSE NEIGHBOUR: 'it returns false'. Refute it at one input. -/
def orderMemoryWrong : ChangeSpec := { name := "orderMemory", fn := fun _ => fun
  | [d1, d2, d3] => { results := [.lit (.bool false)], args := [d1, d2, d3] }
  | _ => none }
def OrderMemoryWrongFalsely : Prop := orderMemoryRow.holds Try.pinned (OpenSpec.ofChange orderMemoryWrong)

/-- 'giornatalaw05.OrderJoins': WHATEVER THE INPUT: true; the input reads as it did. -/
def orderJoinsSpec : ChangeSpec := { name := "orderJoins", fn := fun _ => fun
  | [d1, d2, d3] => { results := [.lit (.bool true)], args := [d1, d2, d3] }
  | _ => none }
def orderJoinsRow : OpenClaim := { program := "yteljjkghjbofnaa", sum := "f24c1d344ebfd66e73eb1cb253f04679aa60985ea3f2c29211b44ac6539409fa", func := "giornata/giornatalaw05.OrderJoins", spec := "orderJoins", unfollowed := true, recurses := true, plainKeys := false, apart := false }
def OrderJoinsSaid : Prop := orderJoinsRow.holds Try.pinned (OpenSpec.ofChange orderJoinsSpec)

/-- ITS FALSE NEIGHBOUR: 'it returns false'. Refute it at one input. -/
def orderJoinsWrong : ChangeSpec := { name := "orderJoins", fn := fun _ => fun
  | [d1, d2, d3] => { results := [.lit (.bool false)], args := [d1, d2, d3] }
  | _ => none }
def OrderJoinsWrongFalsely : Prop := orderJoinsRow.holds Try.pinned (OpenSpec.ofChange orderJoinsWrong)

/-- 'giornatalaw05.OrderPlaces': WHATEVER THE INPUT: true; the input reads as it did. -/
def orderPlacesSpec : ChangeSpec := { name := "orderPlaces", fn := fun _ => fun
  | [d1, d2, d3] => { results := [.lit (.bool true)], args := [d1, d2, d3] }
  | _ => none }
def orderPlacesRow : OpenClaim := { program := "yteljjkghjbofnaa", sum := "f24c1d344ebfd66e73eb1cb253f04679aa60985ea3f2c29211b44ac6539409fa", func := "giornata/giornatalaw05.OrderPlaces", spec := "orderPlaces", unfollowed := true, recurses := true, plainKeys := false, apart := false }
def OrderPlacesSaid : Prop := orderPlacesRow.holds Try.pinned (OpenSpec.ofChange orderPlacesSpec)

/-- ITS FALSE NEIGHBOUR: 'it returns false'. Refute it at one input. -/
def orderPlacesWrong : ChangeSpec := { name := "orderPlaces", fn := fun _ => fun
  | [d1, d2, d3] => { results := [.lit (.bool false)], args := [d1, d2, d3] }
  | _ => none }
def OrderPlacesWrongFalsely : Prop := orderPlacesRow.holds Try.pinned (OpenSpec.ofChange orderPlacesWrong)

/- THE SECOND FORM. 'bulk': how many values and letters a reading holds, each counted each time it is reached (what is shared counts as often as it is met; a slice's spare places count too). A statement '..UptoSaid' is the law's where the arguments, and the package variables that the reading takes, are together of bulk at most 1048576: NARROWER than '..Said'. Prove '..Said' where nothing that the law and all that it calls make is longer than what came in: it says more and counts as full. Else prove '..UptoSaid'. A law counts once. -/
mutual
def uptoBulk {H : Type} : DataW H → Nat
  | .lit (.string bytes) => bytes.length + 1
  | .lit _ => 1
  | .nil => 1
  | .ptr d => uptoBulk d + 1
  | .slice elems spare => uptoBulkAll elems + uptoBulkAll spare + 1
  | .agg parts => uptoBulkAll parts + 1
  | .iface _ d => uptoBulk d + 1
  | .map entries => uptoBulkEntries entries + 1
  | .held _ => 1
def uptoBulkAll {H : Type} : List (DataW H) → Nat
  | [] => 0
  | d :: r => uptoBulk d + uptoBulkAll r
def uptoBulkEntries {H : Type} : List (Lit × DataW H) → Nat
  | [] => 0
  | x :: r => uptoBulkEntry x + uptoBulkEntries r
def uptoBulkEntry {H : Type} : Lit × DataW H → Nat
  | (.string bytes, d) => bytes.length + uptoBulk d + 1
  | (_, d) => uptoBulk d + 1
 end
def uptoSmall : (H : Type) → List (DataW H) → Bool := fun _ ds => decide (uptoBulkAll ds ≤ 1048576)
def OpenSpec.upto (s : _root_.Go.ChangeSpec) : _root_.Go.OpenSpec := { _root_.Go.OpenSpec.ofChange s with cond := some uptoSmall }

/-- 'giornatalaw05.OrderChecks', WHERE WHAT IT READS IS OF BULK AT MOST 1048576: true; the input reads as it did. -/
def orderChecksUptoRow : OpenClaim := { program := "yteljjkghjbofnaa", sum := "f24c1d344ebfd66e73eb1cb253f04679aa60985ea3f2c29211b44ac6539409fa", func := "giornata/giornatalaw05.OrderChecks", spec := "orderChecks", unfollowed := true, recurses := true, plainKeys := false, apart := false, narrowed := true }
def OrderChecksUptoSaid : Prop := orderChecksUptoRow.holds Try.pinned (OpenSpec.upto orderChecksSpec)

/-- 'giornatalaw05.OrderWaits', WHERE WHAT IT READS IS OF BULK AT MOST 1048576: true; the input reads as it did. -/
def orderWaitsUptoRow : OpenClaim := { program := "yteljjkghjbofnaa", sum := "f24c1d344ebfd66e73eb1cb253f04679aa60985ea3f2c29211b44ac6539409fa", func := "giornata/giornatalaw05.OrderWaits", spec := "orderWaits", unfollowed := true, recurses := true, plainKeys := false, apart := false, narrowed := true }
def OrderWaitsUptoSaid : Prop := orderWaitsUptoRow.holds Try.pinned (OpenSpec.upto orderWaitsSpec)

/-- 'giornatalaw05.OrderReasons', WHERE WHAT IT READS IS OF BULK AT MOST 1048576: true; the input reads as it did. -/
def orderReasonsUptoRow : OpenClaim := { program := "yteljjkghjbofnaa", sum := "f24c1d344ebfd66e73eb1cb253f04679aa60985ea3f2c29211b44ac6539409fa", func := "giornata/giornatalaw05.OrderReasons", spec := "orderReasons", unfollowed := true, recurses := true, plainKeys := false, apart := false, narrowed := true }
def OrderReasonsUptoSaid : Prop := orderReasonsUptoRow.holds Try.pinned (OpenSpec.upto orderReasonsSpec)

/-- 'giornatalaw05.OrderCircles', WHERE WHAT IT READS IS OF BULK AT MOST 1048576: true; the input reads as it did. -/
def orderCirclesUptoRow : OpenClaim := { program := "yteljjkghjbofnaa", sum := "f24c1d344ebfd66e73eb1cb253f04679aa60985ea3f2c29211b44ac6539409fa", func := "giornata/giornatalaw05.OrderCircles", spec := "orderCircles", unfollowed := true, recurses := true, plainKeys := false, apart := false, narrowed := true }
def OrderCirclesUptoSaid : Prop := orderCirclesUptoRow.holds Try.pinned (OpenSpec.upto orderCirclesSpec)

/-- 'giornatalaw05.OrderEither', WHERE WHAT IT READS IS OF BULK AT MOST 1048576: true; the input reads as it did. -/
def orderEitherUptoRow : OpenClaim := { program := "yteljjkghjbofnaa", sum := "f24c1d344ebfd66e73eb1cb253f04679aa60985ea3f2c29211b44ac6539409fa", func := "giornata/giornatalaw05.OrderEither", spec := "orderEither", unfollowed := true, recurses := true, plainKeys := false, apart := false, narrowed := true }
def OrderEitherUptoSaid : Prop := orderEitherUptoRow.holds Try.pinned (OpenSpec.upto orderEitherSpec)

/-- 'giornatalaw05.OrderDays', WHERE WHAT IT READS IS OF BULK AT MOST 1048576: true; the input reads as it did. -/
def orderDaysUptoRow : OpenClaim := { program := "yteljjkghjbofnaa", sum := "f24c1d344ebfd66e73eb1cb253f04679aa60985ea3f2c29211b44ac6539409fa", func := "giornata/giornatalaw05.OrderDays", spec := "orderDays", unfollowed := true, recurses := true, plainKeys := false, apart := false, narrowed := true }
def OrderDaysUptoSaid : Prop := orderDaysUptoRow.holds Try.pinned (OpenSpec.upto orderDaysSpec)

/-- 'giornatalaw05.OrderEarliest', WHERE WHAT IT READS IS OF BULK AT MOST 1048576: true; the input reads as it did. -/
def orderEarliestUptoRow : OpenClaim := { program := "yteljjkghjbofnaa", sum := "f24c1d344ebfd66e73eb1cb253f04679aa60985ea3f2c29211b44ac6539409fa", func := "giornata/giornatalaw05.OrderEarliest", spec := "orderEarliest", unfollowed := true, recurses := true, plainKeys := false, apart := false, narrowed := true }
def OrderEarliestUptoSaid : Prop := orderEarliestUptoRow.holds Try.pinned (OpenSpec.upto orderEarliestSpec)

/-- 'giornatalaw05.OrderFirsts', WHERE WHAT IT READS IS OF BULK AT MOST 1048576: true; the input reads as it did. -/
def orderFirstsUptoRow : OpenClaim := { program := "yteljjkghjbofnaa", sum := "f24c1d344ebfd66e73eb1cb253f04679aa60985ea3f2c29211b44ac6539409fa", func := "giornata/giornatalaw05.OrderFirsts", spec := "orderFirsts", unfollowed := true, recurses := true, plainKeys := false, apart := false, narrowed := true }
def OrderFirstsUptoSaid : Prop := orderFirstsUptoRow.holds Try.pinned (OpenSpec.upto orderFirstsSpec)

/-- 'giornatalaw05.OrderCounts', WHERE WHAT IT READS IS OF BULK AT MOST 1048576: true; the input reads as it did. -/
def orderCountsUptoRow : OpenClaim := { program := "yteljjkghjbofnaa", sum := "f24c1d344ebfd66e73eb1cb253f04679aa60985ea3f2c29211b44ac6539409fa", func := "giornata/giornatalaw05.OrderCounts", spec := "orderCounts", unfollowed := true, recurses := true, plainKeys := false, apart := false, narrowed := true }
def OrderCountsUptoSaid : Prop := orderCountsUptoRow.holds Try.pinned (OpenSpec.upto orderCountsSpec)

/-- 'giornatalaw05.OrderCloses', WHERE WHAT IT READS IS OF BULK AT MOST 1048576: true; the input reads as it did. -/
def orderClosesUptoRow : OpenClaim := { program := "yteljjkghjbofnaa", sum := "f24c1d344ebfd66e73eb1cb253f04679aa60985ea3f2c29211b44ac6539409fa", func := "giornata/giornatalaw05.OrderCloses", spec := "orderCloses", unfollowed := true, recurses := true, plainKeys := false, apart := false, narrowed := true }
def OrderClosesUptoSaid : Prop := orderClosesUptoRow.holds Try.pinned (OpenSpec.upto orderClosesSpec)

/-- 'giornatalaw05.OrderStands', WHERE WHAT IT READS IS OF BULK AT MOST 1048576: true; the input reads as it did. -/
def orderStandsUptoRow : OpenClaim := { program := "yteljjkghjbofnaa", sum := "f24c1d344ebfd66e73eb1cb253f04679aa60985ea3f2c29211b44ac6539409fa", func := "giornata/giornatalaw05.OrderStands", spec := "orderStands", unfollowed := true, recurses := true, plainKeys := false, apart := false, narrowed := true }
def OrderStandsUptoSaid : Prop := orderStandsUptoRow.holds Try.pinned (OpenSpec.upto orderStandsSpec)

/-- 'giornatalaw05.OrderLeasts', WHERE WHAT IT READS IS OF BULK AT MOST 1048576: true; the input reads as it did. -/
def orderLeastsUptoRow : OpenClaim := { program := "yteljjkghjbofnaa", sum := "f24c1d344ebfd66e73eb1cb253f04679aa60985ea3f2c29211b44ac6539409fa", func := "giornata/giornatalaw05.OrderLeasts", spec := "orderLeasts", unfollowed := true, recurses := true, plainKeys := false, apart := false, narrowed := true }
def OrderLeastsUptoSaid : Prop := orderLeastsUptoRow.holds Try.pinned (OpenSpec.upto orderLeastsSpec)

/-- 'giornatalaw05.OrderMends', WHERE WHAT IT READS IS OF BULK AT MOST 1048576: true; the input reads as it did. -/
def orderMendsUptoRow : OpenClaim := { program := "yteljjkghjbofnaa", sum := "f24c1d344ebfd66e73eb1cb253f04679aa60985ea3f2c29211b44ac6539409fa", func := "giornata/giornatalaw05.OrderMends", spec := "orderMends", unfollowed := true, recurses := true, plainKeys := false, apart := false, narrowed := true }
def OrderMendsUptoSaid : Prop := orderMendsUptoRow.holds Try.pinned (OpenSpec.upto orderMendsSpec)

/-- 'giornatalaw05.OrderFrees', WHERE WHAT IT READS IS OF BULK AT MOST 1048576: true; the input reads as it did. -/
def orderFreesUptoRow : OpenClaim := { program := "yteljjkghjbofnaa", sum := "f24c1d344ebfd66e73eb1cb253f04679aa60985ea3f2c29211b44ac6539409fa", func := "giornata/giornatalaw05.OrderFrees", spec := "orderFrees", unfollowed := true, recurses := true, plainKeys := false, apart := false, narrowed := true }
def OrderFreesUptoSaid : Prop := orderFreesUptoRow.holds Try.pinned (OpenSpec.upto orderFreesSpec)

/-- 'giornatalaw05.OrderFrom', WHERE WHAT IT READS IS OF BULK AT MOST 1048576: true; the input reads as it did. -/
def orderFromUptoRow : OpenClaim := { program := "yteljjkghjbofnaa", sum := "f24c1d344ebfd66e73eb1cb253f04679aa60985ea3f2c29211b44ac6539409fa", func := "giornata/giornatalaw05.OrderFrom", spec := "orderFrom", unfollowed := true, recurses := true, plainKeys := false, apart := false, narrowed := true }
def OrderFromUptoSaid : Prop := orderFromUptoRow.holds Try.pinned (OpenSpec.upto orderFromSpec)

/-- 'giornatalaw05.OrderMore', WHERE WHAT IT READS IS OF BULK AT MOST 1048576: true; the input reads as it did. -/
def orderMoreUptoRow : OpenClaim := { program := "yteljjkghjbofnaa", sum := "f24c1d344ebfd66e73eb1cb253f04679aa60985ea3f2c29211b44ac6539409fa", func := "giornata/giornatalaw05.OrderMore", spec := "orderMore", unfollowed := true, recurses := true, plainKeys := false, apart := false, narrowed := true }
def OrderMoreUptoSaid : Prop := orderMoreUptoRow.holds Try.pinned (OpenSpec.upto orderMoreSpec)

/-- 'giornatalaw05.OrderMemory', WHERE WHAT IT READS IS OF BULK AT MOST 1048576: true; the input reads as it did. -/
def orderMemoryUptoRow : OpenClaim := { program := "yteljjkghjbofnaa", sum := "f24c1d344ebfd66e73eb1cb253f04679aa60985ea3f2c29211b44ac6539409fa", func := "giornata/giornatalaw05.OrderMemory", spec := "orderMemory", unfollowed := true, recurses := true, plainKeys := false, apart := false, narrowed := true }
def OrderMemoryUptoSaid : Prop := orderMemoryUptoRow.holds Try.pinned (OpenSpec.upto orderMemorySpec)

/-- 'giornatalaw05.OrderJoins', WHERE WHAT IT READS IS OF BULK AT MOST 1048576: true; the input reads as it did. -/
def orderJoinsUptoRow : OpenClaim := { program := "yteljjkghjbofnaa", sum := "f24c1d344ebfd66e73eb1cb253f04679aa60985ea3f2c29211b44ac6539409fa", func := "giornata/giornatalaw05.OrderJoins", spec := "orderJoins", unfollowed := true, recurses := true, plainKeys := false, apart := false, narrowed := true }
def OrderJoinsUptoSaid : Prop := orderJoinsUptoRow.holds Try.pinned (OpenSpec.upto orderJoinsSpec)

/-- 'giornatalaw05.OrderPlaces', WHERE WHAT IT READS IS OF BULK AT MOST 1048576: true; the input reads as it did. -/
def orderPlacesUptoRow : OpenClaim := { program := "yteljjkghjbofnaa", sum := "f24c1d344ebfd66e73eb1cb253f04679aa60985ea3f2c29211b44ac6539409fa", func := "giornata/giornatalaw05.OrderPlaces", spec := "orderPlaces", unfollowed := true, recurses := true, plainKeys := false, apart := false, narrowed := true }
def OrderPlacesUptoSaid : Prop := orderPlacesUptoRow.holds Try.pinned (OpenSpec.upto orderPlacesSpec)

end Rows
end Go.Proofs.Yteljjkghjbofnaa
