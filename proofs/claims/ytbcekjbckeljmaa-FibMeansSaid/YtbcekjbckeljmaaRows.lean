/-
  No cell of these rows narrows 'for every input' (looked for: loops, veiled, ifaces, maps, wideKeys, modest, calm, conditions, laid).
  DERIVED. THE GIVEN ROWS OF THIS SEAT. 4 by the template 'for every input the law returns true; each argument reads behind the call as it read before'; 0 by the template 'total and deterministic' (their statements: YtbcekjbckeljmaaTotals.lean).
  GIVEN WITH THE SEED: the statements are not yours to turn. If you find one false, say at which input.
  Laid BY PROGRAM, IN A SANDBOX (cutbox-rows.mjs): the forced cells as the released guide's own fill.sh prints them over the translation 83f82c9f8b68a0cb… (all of the seat's roots in one cut). By AI agents, Wed Nov 11 2026. No macro, syntax, notation, axiom, sorry.
-/
import Derived.Test.YtbcekjbckeljmaaChecked
import GoSem.Claim
import GoSem.ClaimJoined
import GoSem.ClaimMapViews
import Derived.JoinedTies
import Derived.KernelRfl
namespace Go.Proofs.Ytbcekjbckeljmaa
/- THE CELL 'sum', in the pinned program and in every row, IS THE sha256 OF THE DUMP (.gsa) THAT YtbcekjbckeljmaaProg.lean LOADS. Nothing in Lean hashes anything: it is a label: what it is worth is what the hold of that sum in a sandbox is worth. -/
noncomputable def Try.pinned : Pinned := { name := "ytbcekjbckeljmaa", sum := "83f82c9f8b68a0cb46f868efa71f4e4008963d4452b3d759912c586389c2ae53", checked := Try.checked }
namespace Rows
def none {H : Type} : Left H := { results := [], args := [] }

/-- 'guidepostlaw14.FibEntries': WHATEVER THE INPUT: true; the input reads as it did. -/
def fibEntriesSpec : ChangeSpec := { name := "fibEntries", fn := fun _ => fun
  | [d] => { results := [.lit (.bool true)], args := [d] }
  | _ => none }
def fibEntriesRow : OpenClaim := { program := "ytbcekjbckeljmaa", sum := "83f82c9f8b68a0cb46f868efa71f4e4008963d4452b3d759912c586389c2ae53", func := "guidepost/guidepostlaw14.FibEntries", spec := "fibEntries", unfollowed := true, recurses := true, apart := false }
def FibEntriesSaid : Prop := fibEntriesRow.holds Try.pinned (OpenSpec.ofChange fibEntriesSpec)

/-- ITS FALSE NEIGHBOUR: 'it returns false'. Refute it at one input. -/
def fibEntriesWrong : ChangeSpec := { name := "fibEntries", fn := fun _ => fun
  | [d] => { results := [.lit (.bool false)], args := [d] }
  | _ => none }
def FibEntriesWrongFalsely : Prop := fibEntriesRow.holds Try.pinned (OpenSpec.ofChange fibEntriesWrong)

/-- 'guidepostlaw14.FibLongest': WHATEVER THE INPUT: true; the input reads as it did. -/
def fibLongestSpec : ChangeSpec := { name := "fibLongest", fn := fun _ => fun
  | [d1, d2] => { results := [.lit (.bool true)], args := [d1, d2] }
  | _ => none }
def fibLongestRow : OpenClaim := { program := "ytbcekjbckeljmaa", sum := "83f82c9f8b68a0cb46f868efa71f4e4008963d4452b3d759912c586389c2ae53", func := "guidepost/guidepostlaw14.FibLongest", spec := "fibLongest", unfollowed := true, recurses := true, apart := false }
def FibLongestSaid : Prop := fibLongestRow.holds Try.pinned (OpenSpec.ofChange fibLongestSpec)

/-- ITS FALSE NEIGHBOUR: 'it returns false'. Refute it at one input. -/
def fibLongestWrong : ChangeSpec := { name := "fibLongest", fn := fun _ => fun
  | [d1, d2] => { results := [.lit (.bool false)], args := [d1, d2] }
  | _ => none }
def FibLongestWrongFalsely : Prop := fibLongestRow.holds Try.pinned (OpenSpec.ofChange fibLongestWrong)

/-- 'guidepostlaw14.FibMeans': WHATEVER THE INPUT: true; the input reads as it did. -/
def fibMeansSpec : ChangeSpec := { name := "fibMeans", fn := fun _ => fun
  | [d1, d2] => { results := [.lit (.bool true)], args := [d1, d2] }
  | _ => none }
def fibMeansRow : OpenClaim := { program := "ytbcekjbckeljmaa", sum := "83f82c9f8b68a0cb46f868efa71f4e4008963d4452b3d759912c586389c2ae53", func := "guidepost/guidepostlaw14.FibMeans", spec := "fibMeans", unfollowed := true, recurses := true, apart := false }
def FibMeansSaid : Prop := fibMeansRow.holds Try.pinned (OpenSpec.ofChange fibMeansSpec)

/-- ITS FALSE NEIGHBOUR: 'it returns false'. Refute it at one input. -/
def fibMeansWrong : ChangeSpec := { name := "fibMeans", fn := fun _ => fun
  | [d1, d2] => { results := [.lit (.bool false)], args := [d1, d2] }
  | _ => none }
def FibMeansWrongFalsely : Prop := fibMeansRow.holds Try.pinned (OpenSpec.ofChange fibMeansWrong)

/-- 'guidepostlaw14.FibNil': WHATEVER THE INPUT: true; the input reads as it did. -/
def fibNilSpec : ChangeSpec := { name := "fibNil", fn := fun _ => fun
  | [] => { results := [.lit (.bool true)], args := [] }
  | _ => none }
def fibNilRow : OpenClaim := { program := "ytbcekjbckeljmaa", sum := "83f82c9f8b68a0cb46f868efa71f4e4008963d4452b3d759912c586389c2ae53", func := "guidepost/guidepostlaw14.FibNil", spec := "fibNil", unfollowed := true, recurses := true, apart := false }
def FibNilSaid : Prop := fibNilRow.holds Try.pinned (OpenSpec.ofChange fibNilSpec)

/-- ITS FALSE NEIGHBOUR: 'it returns false'. Refute it at one input. -/
def fibNilWrong : ChangeSpec := { name := "fibNil", fn := fun _ => fun
  | [] => { results := [.lit (.bool false)], args := [] }
  | _ => none }
def FibNilWrongFalsely : Prop := fibNilRow.holds Try.pinned (OpenSpec.ofChange fibNilWrong)

/- THE SECOND FORM. 'bulk': how many values and letters a reading holds, each counted each time it is reached (what is shared counts as often as it is met; a slice's spare places count too). A statement '..UptoSaid' is the law's where the arguments, and the package variables that the reading takes, are together of bulk at most 1048576: NARROWER than '..Said'. Prove '..Said' where nothing that the law and all that it calls make is longer than what came in: it says more and counts as full. Else prove '..UptoSaid'. A law counts once. -/
mutual
def uptoBulk {H : Type} : DataW H → Nat
  | .lit (.string bytes) => bytes.length + 1
  | .lit _ => 1
  | .nil => 1
  | .ptr d => uptoBulk d + 1
  | .slice elems spare => uptoBulkAll elems + uptoBulkAll spare + 1
  | .agg parts => uptoBulkAll parts + 1
  | .iface _ d => uptoBulk d + 1
  | .map entries => uptoBulkEntries entries + 1
  | .held _ => 1
def uptoBulkAll {H : Type} : List (DataW H) → Nat
  | [] => 0
  | d :: r => uptoBulk d + uptoBulkAll r
def uptoBulkEntries {H : Type} : List (Lit × DataW H) → Nat
  | [] => 0
  | x :: r => uptoBulkEntry x + uptoBulkEntries r
def uptoBulkEntry {H : Type} : Lit × DataW H → Nat
  | (.string bytes, d) => bytes.length + uptoBulk d + 1
  | (_, d) => uptoBulk d + 1
 end
def uptoSmall : (H : Type) → List (DataW H) → Bool := fun _ ds => decide (uptoBulkAll ds ≤ 1048576)
def OpenSpec.upto (s : _root_.Go.ChangeSpec) : _root_.Go.OpenSpec := { _root_.Go.OpenSpec.ofChange s with cond := some uptoSmall }

/-- 'guidepostlaw14.FibEntries', WHERE WHAT IT READS IS OF BULK AT MOST 1048576: true; the input reads as it did. -/
def fibEntriesUptoRow : OpenClaim := { program := "ytbcekjbckeljmaa", sum := "83f82c9f8b68a0cb46f868efa71f4e4008963d4452b3d759912c586389c2ae53", func := "guidepost/guidepostlaw14.FibEntries", spec := "fibEntries", unfollowed := true, recurses := true, apart := false, narrowed := true }
def FibEntriesUptoSaid : Prop := fibEntriesUptoRow.holds Try.pinned (OpenSpec.upto fibEntriesSpec)

/-- 'guidepostlaw14.FibLongest', WHERE WHAT IT READS IS OF BULK AT MOST 1048576: true; the input reads as it did. -/
def fibLongestUptoRow : OpenClaim := { program := "ytbcekjbckeljmaa", sum := "83f82c9f8b68a0cb46f868efa71f4e4008963d4452b3d759912c586389c2ae53", func := "guidepost/guidepostlaw14.FibLongest", spec := "fibLongest", unfollowed := true, recurses := true, apart := false, narrowed := true }
def FibLongestUptoSaid : Prop := fibLongestUptoRow.holds Try.pinned (OpenSpec.upto fibLongestSpec)

/-- 'guidepostlaw14.FibMeans', WHERE WHAT IT READS IS OF BULK AT MOST 1048576: true; the input reads as it did. -/
def fibMeansUptoRow : OpenClaim := { program := "ytbcekjbckeljmaa", sum := "83f82c9f8b68a0cb46f868efa71f4e4008963d4452b3d759912c586389c2ae53", func := "guidepost/guidepostlaw14.FibMeans", spec := "fibMeans", unfollowed := true, recurses := true, apart := false, narrowed := true }
def FibMeansUptoSaid : Prop := fibMeansUptoRow.holds Try.pinned (OpenSpec.upto fibMeansSpec)

/-- 'guidepostlaw14.FibNil', WHERE WHAT IT READS IS OF BULK AT MOST 1048576: true; the input reads as it did. -/
def fibNilUptoRow : OpenClaim := { program := "ytbcekjbckeljmaa", sum := "83f82c9f8b68a0cb46f868efa71f4e4008963d4452b3d759912c586389c2ae53", func := "guidepost/guidepostlaw14.FibNil", spec := "fibNil", unfollowed := true, recurses := true, apart := false, narrowed := true }
def FibNilUptoSaid : Prop := fibNilUptoRow.holds Try.pinned (OpenSpec.upto fibNilSpec)

end Rows
end Go.Proofs.Ytbcekjbckeljmaa
