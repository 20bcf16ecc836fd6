/-
  No cell of these rows narrows 'for every input' (looked for: loops, veiled, ifaces, maps, wideKeys, modest, calm, conditions, laid).
  DERIVED. THE GIVEN ROWS OF THIS SEAT. 3 by the template 'for every input the law returns true; each argument reads behind the call as it read before'; 0 by the template 'total and deterministic' (their statements: YtlemjdkefojoeaaTotals.lean).
  GIVEN WITH THE SEED: the statements are not yours to turn. If you find one false, say at which input.
  Laid BY PROGRAM, IN A SANDBOX (cutbox-rows.mjs): the forced cells as the released guide's own fill.sh prints them over the translation bf9bce40e442bb7b… (all of the seat's roots in one cut). By AI agents, Wed Nov 11 2026. No macro, syntax, notation, axiom, sorry.
-/
import Derived.Test.YtlemjdkefojoeaaChecked
import GoSem.Claim
import GoSem.ClaimJoined
import GoSem.ClaimMapViews
import Derived.JoinedTies
import Derived.KernelRfl
namespace Go.Proofs.Ytlemjdkefojoeaa
/- THE CELL 'sum', in the pinned program and in every row, IS THE sha256 OF THE DUMP (.gsa) THAT YtlemjdkefojoeaaProg.lean LOADS. Nothing in Lean hashes anything: it is a label: what it is worth is what the hold of that sum in a sandbox is worth. -/
noncomputable def Try.pinned : Pinned := { name := "ytlemjdkefojoeaa", sum := "bf9bce40e442bb7bd576abc8b0f8b89d827b0efb1844bc0a9488e3a98fa1d4d1", checked := Try.checked }
namespace Rows
def none {H : Type} : Left H := { results := [], args := [] }

/-- 'belfrylaw11.QuotaOf': WHATEVER THE INPUT: true; the input reads as it did. -/
def quotaOfSpec : ChangeSpec := { name := "quotaOf", fn := fun _ => fun
  | [d1, d2, d3] => { results := [.lit (.bool true)], args := [d1, d2, d3] }
  | _ => none }
def quotaOfRow : OpenClaim := { program := "ytlemjdkefojoeaa", sum := "bf9bce40e442bb7bd576abc8b0f8b89d827b0efb1844bc0a9488e3a98fa1d4d1", func := "belfry/belfrylaw11.QuotaOf", spec := "quotaOf", unfollowed := true, recurses := true, apart := false }
def QuotaOfSaid : Prop := quotaOfRow.holds Try.pinned (OpenSpec.ofChange quotaOfSpec)

/-- ITS FALSE NEIGHBOUR: 'it returns false'. Refute it at one input. -/
def quotaOfWrong : ChangeSpec := { name := "quotaOf", fn := fun _ => fun
  | [d1, d2, d3] => { results := [.lit (.bool false)], args := [d1, d2, d3] }
  | _ => none }
def QuotaOfWrongFalsely : Prop := quotaOfRow.holds Try.pinned (OpenSpec.ofChange quotaOfWrong)

/-- 'belfrylaw11.QuotaOne': WHATEVER THE INPUT: true; the input reads as it did. -/
def quotaOneSpec : ChangeSpec := { name := "quotaOne", fn := fun _ => fun
  | [d1, d2] => { results := [.lit (.bool true)], args := [d1, d2] }
  | _ => none }
def quotaOneRow : OpenClaim := { program := "ytlemjdkefojoeaa", sum := "bf9bce40e442bb7bd576abc8b0f8b89d827b0efb1844bc0a9488e3a98fa1d4d1", func := "belfry/belfrylaw11.QuotaOne", spec := "quotaOne", unfollowed := true, recurses := true, apart := false }
def QuotaOneSaid : Prop := quotaOneRow.holds Try.pinned (OpenSpec.ofChange quotaOneSpec)

/-- ITS FALSE NEIGHBOUR: 'it returns false'. Refute it at one input. -/
def quotaOneWrong : ChangeSpec := { name := "quotaOne", fn := fun _ => fun
  | [d1, d2] => { results := [.lit (.bool false)], args := [d1, d2] }
  | _ => none }
def QuotaOneWrongFalsely : Prop := quotaOneRow.holds Try.pinned (OpenSpec.ofChange quotaOneWrong)

/-- 'belfrylaw11.QuotaBack': WHATEVER THE INPUT: true; the input reads as it did. -/
def quotaBackSpec : ChangeSpec := { name := "quotaBack", fn := fun _ => fun
  | [d1, d2] => { results := [.lit (.bool true)], args := [d1, d2] }
  | _ => none }
def quotaBackRow : OpenClaim := { program := "ytlemjdkefojoeaa", sum := "bf9bce40e442bb7bd576abc8b0f8b89d827b0efb1844bc0a9488e3a98fa1d4d1", func := "belfry/belfrylaw11.QuotaBack", spec := "quotaBack", unfollowed := true, recurses := true, apart := false }
def QuotaBackSaid : Prop := quotaBackRow.holds Try.pinned (OpenSpec.ofChange quotaBackSpec)

/-- ITS FALSE NEIGHBOUR: 'it returns false'. Refute it at one input. -/
def quotaBackWrong : ChangeSpec := { name := "quotaBack", fn := fun _ => fun
  | [d1, d2] => { results := [.lit (.bool false)], args := [d1, d2] }
  | _ => none }
def QuotaBackWrongFalsely : Prop := quotaBackRow.holds Try.pinned (OpenSpec.ofChange quotaBackWrong)

/- THE SECOND FORM. 'bulk': how many values and letters a reading holds, each counted each time it is reached (what is shared counts as often as it is met; a slice's spare places count too). A statement '..UptoSaid' is the law's where the arguments, and the package variables that the reading takes, are together of bulk at most 1048576: NARROWER than '..Said'. Prove '..Said' where nothing that the law and all that it calls make is longer than what came in: it says more and counts as full. Else prove '..UptoSaid'. A law counts once. -/
mutual
def uptoBulk {H : Type} : DataW H → Nat
  | .lit (.string bytes) => bytes.length + 1
  | .lit _ => 1
  | .nil => 1
  | .ptr d => uptoBulk d + 1
  | .slice elems spare => uptoBulkAll elems + uptoBulkAll spare + 1
  | .agg parts => uptoBulkAll parts + 1
  | .iface _ d => uptoBulk d + 1
  | .map entries => uptoBulkEntries entries + 1
  | .held _ => 1
def uptoBulkAll {H : Type} : List (DataW H) → Nat
  | [] => 0
  | d :: r => uptoBulk d + uptoBulkAll r
def uptoBulkEntries {H : Type} : List (Lit × DataW H) → Nat
  | [] => 0
  | x :: r => uptoBulkEntry x + uptoBulkEntries r
def uptoBulkEntry {H : Type} : Lit × DataW H → Nat
  | (.string bytes, d) => bytes.length + uptoBulk d + 1
  | (_, d) => uptoBulk d + 1
 end
def uptoSmall : (H : Type) → List (DataW H) → Bool := fun _ ds => decide (uptoBulkAll ds ≤ 1048576)
def OpenSpec.upto (s : _root_.Go.ChangeSpec) : _root_.Go.OpenSpec := { _root_.Go.OpenSpec.ofChange s with cond := some uptoSmall }

/-- 'belfrylaw11.QuotaOf', WHERE WHAT IT READS IS OF BULK AT MOST 1048576: true; the input reads as it did. -/
def quotaOfUptoRow : OpenClaim := { program := "ytlemjdkefojoeaa", sum := "bf9bce40e442bb7bd576abc8b0f8b89d827b0efb1844bc0a9488e3a98fa1d4d1", func := "belfry/belfrylaw11.QuotaOf", spec := "quotaOf", unfollowed := true, recurses := true, apart := false, narrowed := true }
def QuotaOfUptoSaid : Prop := quotaOfUptoRow.holds Try.pinned (OpenSpec.upto quotaOfSpec)

/-- 'belfrylaw11.QuotaOne', WHERE WHAT IT READS IS OF BULK AT MOST 1048576: true; the input reads as it did. -/
def quotaOneUptoRow : OpenClaim := { program := "ytlemjdkefojoeaa", sum := "bf9bce40e442bb7bd576abc8b0f8b89d827b0efb1844bc0a9488e3a98fa1d4d1", func := "belfry/belfrylaw11.QuotaOne", spec := "quotaOne", unfollowed := true, recurses := true, apart := false, narrowed := true }
def QuotaOneUptoSaid : Prop := quotaOneUptoRow.holds Try.pinned (OpenSpec.upto quotaOneSpec)

/-- 'belfrylaw11.QuotaBack', WHERE WHAT IT READS IS OF BULK AT MOST 1048576: true; the input reads as it did. -/
def quotaBackUptoRow : OpenClaim := { program := "ytlemjdkefojoeaa", sum := "bf9bce40e442bb7bd576abc8b0f8b89d827b0efb1844bc0a9488e3a98fa1d4d1", func := "belfry/belfrylaw11.QuotaBack", spec := "quotaBack", unfollowed := true, recurses := true, apart := false, narrowed := true }
def QuotaBackUptoSaid : Prop := quotaBackUptoRow.holds Try.pinned (OpenSpec.upto quotaBackSpec)

end Rows
end Go.Proofs.Ytlemjdkefojoeaa
