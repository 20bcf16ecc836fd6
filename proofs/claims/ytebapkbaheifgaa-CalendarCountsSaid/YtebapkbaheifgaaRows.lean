/-
  No cell of these rows narrows 'for every input' (looked for: loops, veiled, ifaces, maps, wideKeys, modest, calm, conditions, laid).
  DERIVED. THE GIVEN ROWS OF THIS SEAT. 5 by the template 'for every input the law returns true; each argument reads behind the call as it read before'; 0 by the template 'total and deterministic' (their statements: YtebapkbaheifgaaTotals.lean).
  GIVEN WITH THE SEED: the statements are not yours to turn. If you find one false, say at which input.
  Laid BY PROGRAM, IN A SANDBOX (cutbox-rows.mjs): the forced cells as the released guide's own fill.sh prints them over the translation baecda43431e2804… (all of the seat's roots in one cut). By AI agents, Wed Nov 11 2026. No macro, syntax, notation, axiom, sorry.
-/
import Derived.Test.YtebapkbaheifgaaChecked
import GoSem.Claim
import GoSem.ClaimJoined
import GoSem.ClaimMapViews
import Derived.JoinedTies
import Derived.KernelRfl
namespace Go.Proofs.Ytebapkbaheifgaa
/- THE CELL 'sum', in the pinned program and in every row, IS THE sha256 OF THE DUMP (.gsa) THAT YtebapkbaheifgaaProg.lean LOADS. Nothing in Lean hashes anything: it is a label: what it is worth is what the hold of that sum in a sandbox is worth. -/
noncomputable def Try.pinned : Pinned := { name := "ytebapkbaheifgaa", sum := "baecda43431e280452e52e0d528f3b41e10440673c79db9d7d218548b4132c99", checked := Try.checked }
namespace Rows
def none {H : Type} : Left H := { results := [], args := [] }

/-- 'belfrylaw05.CalendarMoves': WHATEVER THE INPUT: true; the input reads as it did. -/
def calendarMovesSpec : ChangeSpec := { name := "calendarMoves", fn := fun _ => fun
  | [d1, d2, d3] => { results := [.lit (.bool true)], args := [d1, d2, d3] }
  | _ => none }
def calendarMovesRow : OpenClaim := { program := "ytebapkbaheifgaa", sum := "baecda43431e280452e52e0d528f3b41e10440673c79db9d7d218548b4132c99", func := "belfry/belfrylaw05.CalendarMoves", spec := "calendarMoves", inPlace := ["math/bits.Add64"], apart := false }
def CalendarMovesSaid : Prop := calendarMovesRow.holds Try.pinned (OpenSpec.ofChange calendarMovesSpec)

/-- ITS FALSE NEIGHBOUR: 'it returns false'. Refute it at one input. -/
def calendarMovesWrong : ChangeSpec := { name := "calendarMoves", fn := fun _ => fun
  | [d1, d2, d3] => { results := [.lit (.bool false)], args := [d1, d2, d3] }
  | _ => none }
def CalendarMovesWrongFalsely : Prop := calendarMovesRow.holds Try.pinned (OpenSpec.ofChange calendarMovesWrong)

/-- 'belfrylaw05.CalendarCounts': WHATEVER THE INPUT: true; the input reads as it did. -/
def calendarCountsSpec : ChangeSpec := { name := "calendarCounts", fn := fun _ => fun
  | [d1, d2, d3] => { results := [.lit (.bool true)], args := [d1, d2, d3] }
  | _ => none }
def calendarCountsRow : OpenClaim := { program := "ytebapkbaheifgaa", sum := "baecda43431e280452e52e0d528f3b41e10440673c79db9d7d218548b4132c99", func := "belfry/belfrylaw05.CalendarCounts", spec := "calendarCounts", inPlace := ["math/bits.Add64"], apart := false }
def CalendarCountsSaid : Prop := calendarCountsRow.holds Try.pinned (OpenSpec.ofChange calendarCountsSpec)

/-- ITS FALSE NEIGHBOUR: 'it returns false'. Refute it at one input. -/
def calendarCountsWrong : ChangeSpec := { name := "calendarCounts", fn := fun _ => fun
  | [d1, d2, d3] => { results := [.lit (.bool false)], args := [d1, d2, d3] }
  | _ => none }
def CalendarCountsWrongFalsely : Prop := calendarCountsRow.holds Try.pinned (OpenSpec.ofChange calendarCountsWrong)

/-- 'belfrylaw05.CalendarTells': WHATEVER THE INPUT: true; the input reads as it did. -/
def calendarTellsSpec : ChangeSpec := { name := "calendarTells", fn := fun _ => fun
  | [d1, d2, d3] => { results := [.lit (.bool true)], args := [d1, d2, d3] }
  | _ => none }
def calendarTellsRow : OpenClaim := { program := "ytebapkbaheifgaa", sum := "baecda43431e280452e52e0d528f3b41e10440673c79db9d7d218548b4132c99", func := "belfry/belfrylaw05.CalendarTells", spec := "calendarTells", inPlace := ["math/bits.Add64"], apart := false }
def CalendarTellsSaid : Prop := calendarTellsRow.holds Try.pinned (OpenSpec.ofChange calendarTellsSpec)

/-- ITS FALSE NEIGHBOUR: 'it returns false'. Refute it at one input. -/
def calendarTellsWrong : ChangeSpec := { name := "calendarTells", fn := fun _ => fun
  | [d1, d2, d3] => { results := [.lit (.bool false)], args := [d1, d2, d3] }
  | _ => none }
def CalendarTellsWrongFalsely : Prop := calendarTellsRow.holds Try.pinned (OpenSpec.ofChange calendarTellsWrong)

/-- 'belfrylaw05.CalendarBetween': WHATEVER THE INPUT: true; the input reads as it did. -/
def calendarBetweenSpec : ChangeSpec := { name := "calendarBetween", fn := fun _ => fun
  | [d1, d2, d3] => { results := [.lit (.bool true)], args := [d1, d2, d3] }
  | _ => none }
def calendarBetweenRow : OpenClaim := { program := "ytebapkbaheifgaa", sum := "baecda43431e280452e52e0d528f3b41e10440673c79db9d7d218548b4132c99", func := "belfry/belfrylaw05.CalendarBetween", spec := "calendarBetween", inPlace := ["math/bits.Add64"], apart := false }
def CalendarBetweenSaid : Prop := calendarBetweenRow.holds Try.pinned (OpenSpec.ofChange calendarBetweenSpec)

/-- ITS FALSE NEIGHBOUR: 'it returns false'. Refute it at one input. -/
def calendarBetweenWrong : ChangeSpec := { name := "calendarBetween", fn := fun _ => fun
  | [d1, d2, d3] => { results := [.lit (.bool false)], args := [d1, d2, d3] }
  | _ => none }
def CalendarBetweenWrongFalsely : Prop := calendarBetweenRow.holds Try.pinned (OpenSpec.ofChange calendarBetweenWrong)

/-- 'belfrylaw05.CalendarOn': WHATEVER THE INPUT: true; the input reads as it did. -/
def calendarOnSpec : ChangeSpec := { name := "calendarOn", fn := fun _ => fun
  | [d1, d2, d3] => { results := [.lit (.bool true)], args := [d1, d2, d3] }
  | _ => none }
def calendarOnRow : OpenClaim := { program := "ytebapkbaheifgaa", sum := "baecda43431e280452e52e0d528f3b41e10440673c79db9d7d218548b4132c99", func := "belfry/belfrylaw05.CalendarOn", spec := "calendarOn", inPlace := ["math/bits.Add64"], apart := false }
def CalendarOnSaid : Prop := calendarOnRow.holds Try.pinned (OpenSpec.ofChange calendarOnSpec)

/-- ITS FALSE NEIGHBOUR: 'it returns false'. Refute it at one input. -/
def calendarOnWrong : ChangeSpec := { name := "calendarOn", fn := fun _ => fun
  | [d1, d2, d3] => { results := [.lit (.bool false)], args := [d1, d2, d3] }
  | _ => none }
def CalendarOnWrongFalsely : Prop := calendarOnRow.holds Try.pinned (OpenSpec.ofChange calendarOnWrong)

/- THE SECOND FORM. 'bulk': how many values and letters a reading holds, each counted each time it is reached (what is shared counts as often as it is met; a slice's spare places count too). A statement '..UptoSaid' is the law's where the arguments, and the package variables that the reading takes, are together of bulk at most 1048576: NARROWER than '..Said'. Prove '..Said' where nothing that the law and all that it calls make is longer than what came in: it says more and counts as full. Else prove '..UptoSaid'. A law counts once. -/
mutual
def uptoBulk {H : Type} : DataW H → Nat
  | .lit (.string bytes) => bytes.length + 1
  | .lit _ => 1
  | .nil => 1
  | .ptr d => uptoBulk d + 1
  | .slice elems spare => uptoBulkAll elems + uptoBulkAll spare + 1
  | .agg parts => uptoBulkAll parts + 1
  | .iface _ d => uptoBulk d + 1
  | .map entries => uptoBulkEntries entries + 1
  | .held _ => 1
def uptoBulkAll {H : Type} : List (DataW H) → Nat
  | [] => 0
  | d :: r => uptoBulk d + uptoBulkAll r
def uptoBulkEntries {H : Type} : List (Lit × DataW H) → Nat
  | [] => 0
  | x :: r => uptoBulkEntry x + uptoBulkEntries r
def uptoBulkEntry {H : Type} : Lit × DataW H → Nat
  | (.string bytes, d) => bytes.length + uptoBulk d + 1
  | (_, d) => uptoBulk d + 1
 end
def uptoSmall : (H : Type) → List (DataW H) → Bool := fun _ ds => decide (uptoBulkAll ds ≤ 1048576)
def OpenSpec.upto (s : _root_.Go.ChangeSpec) : _root_.Go.OpenSpec := { _root_.Go.OpenSpec.ofChange s with cond := some uptoSmall }

/-- 'belfrylaw05.CalendarMoves', WHERE WHAT IT READS IS OF BULK AT MOST 1048576: true; the input reads as it did. -/
def calendarMovesUptoRow : OpenClaim := { program := "ytebapkbaheifgaa", sum := "baecda43431e280452e52e0d528f3b41e10440673c79db9d7d218548b4132c99", func := "belfry/belfrylaw05.CalendarMoves", spec := "calendarMoves", inPlace := ["math/bits.Add64"], apart := false, narrowed := true }
def CalendarMovesUptoSaid : Prop := calendarMovesUptoRow.holds Try.pinned (OpenSpec.upto calendarMovesSpec)

/-- 'belfrylaw05.CalendarCounts', WHERE WHAT IT READS IS OF BULK AT MOST 1048576: true; the input reads as it did. -/
def calendarCountsUptoRow : OpenClaim := { program := "ytebapkbaheifgaa", sum := "baecda43431e280452e52e0d528f3b41e10440673c79db9d7d218548b4132c99", func := "belfry/belfrylaw05.CalendarCounts", spec := "calendarCounts", inPlace := ["math/bits.Add64"], apart := false, narrowed := true }
def CalendarCountsUptoSaid : Prop := calendarCountsUptoRow.holds Try.pinned (OpenSpec.upto calendarCountsSpec)

/-- 'belfrylaw05.CalendarTells', WHERE WHAT IT READS IS OF BULK AT MOST 1048576: true; the input reads as it did. -/
def calendarTellsUptoRow : OpenClaim := { program := "ytebapkbaheifgaa", sum := "baecda43431e280452e52e0d528f3b41e10440673c79db9d7d218548b4132c99", func := "belfry/belfrylaw05.CalendarTells", spec := "calendarTells", inPlace := ["math/bits.Add64"], apart := false, narrowed := true }
def CalendarTellsUptoSaid : Prop := calendarTellsUptoRow.holds Try.pinned (OpenSpec.upto calendarTellsSpec)

/-- 'belfrylaw05.CalendarBetween', WHERE WHAT IT READS IS OF BULK AT MOST 1048576: true; the input reads as it did. -/
def calendarBetweenUptoRow : OpenClaim := { program := "ytebapkbaheifgaa", sum := "baecda43431e280452e52e0d528f3b41e10440673c79db9d7d218548b4132c99", func := "belfry/belfrylaw05.CalendarBetween", spec := "calendarBetween", inPlace := ["math/bits.Add64"], apart := false, narrowed := true }
def CalendarBetweenUptoSaid : Prop := calendarBetweenUptoRow.holds Try.pinned (OpenSpec.upto calendarBetweenSpec)

/-- 'belfrylaw05.CalendarOn', WHERE WHAT IT READS IS OF BULK AT MOST 1048576: true; the input reads as it did. -/
def calendarOnUptoRow : OpenClaim := { program := "ytebapkbaheifgaa", sum := "baecda43431e280452e52e0d528f3b41e10440673c79db9d7d218548b4132c99", func := "belfry/belfrylaw05.CalendarOn", spec := "calendarOn", inPlace := ["math/bits.Add64"], apart := false, narrowed := true }
def CalendarOnUptoSaid : Prop := calendarOnUptoRow.holds Try.pinned (OpenSpec.upto calendarOnSpec)

end Rows
end Go.Proofs.Ytebapkbaheifgaa
