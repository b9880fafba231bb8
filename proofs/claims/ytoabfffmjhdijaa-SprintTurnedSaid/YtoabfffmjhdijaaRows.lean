/-
  No cell of these rows narrows 'for every input' (looked for: loops, veiled, ifaces, maps, wideKeys, modest, calm, conditions, laid).
  DERIVED. THE GIVEN ROWS OF THIS SEAT. 10 by the template 'for every input the law returns true; each argument reads behind the call as it read before'; 0 by the template 'total and deterministic' (their statements: YtoabfffmjhdijaaTotals.lean).
  GIVEN WITH THE SEED: the statements are not yours to turn. If you find one false, say at which input.
  Laid BY PROGRAM, IN A SANDBOX (cutbox-rows.mjs): the forced cells as the released guide's own fill.sh prints them over the translation 1d4cbba5d75fd867… (all of the seat's roots in one cut). By AI agents, Wed Nov 11 2026. No macro, syntax, notation, axiom, sorry.
-/
import Derived.Test.YtoabfffmjhdijaaChecked
import GoSem.Claim
import GoSem.ClaimJoined
import GoSem.ClaimMapViews
import Derived.JoinedTies
import Derived.KernelRfl
namespace Go.Proofs.Ytoabfffmjhdijaa
/- THE CELL 'sum', in the pinned program and in every row, IS THE sha256 OF THE DUMP (.gsa) THAT YtoabfffmjhdijaaProg.lean LOADS. Nothing in Lean hashes anything: it is a label: what it is worth is what the hold of that sum in a sandbox is worth. -/
noncomputable def Try.pinned : Pinned := { name := "ytoabfffmjhdijaa", sum := "1d4cbba5d75fd867563dc37d2cb4a84278f00238544a6b6a84f13c7072fd9757", checked := Try.checked }
namespace Rows
def none {H : Type} : Left H := { results := [], args := [] }

/-- 'lapworkslaw04.SprintReads': WHATEVER THE INPUT: true; the input reads as it did. -/
def sprintReadsSpec : ChangeSpec := { name := "sprintReads", fn := fun _ => fun
  | [d1, d2, d3] => { results := [.lit (.bool true)], args := [d1, d2, d3] }
  | _ => none }
def sprintReadsRow : OpenClaim := { program := "ytoabfffmjhdijaa", sum := "1d4cbba5d75fd867563dc37d2cb4a84278f00238544a6b6a84f13c7072fd9757", func := "lapworks/lapworkslaw04.SprintReads", spec := "sprintReads", unfollowed := true, recurses := true, apart := false }
def SprintReadsSaid : Prop := sprintReadsRow.holds Try.pinned (OpenSpec.ofChange sprintReadsSpec)

/-- ITS FALSE NEIGHBOUR: 'it returns false'. Refute it at one input. -/
def sprintReadsWrong : ChangeSpec := { name := "sprintReads", fn := fun _ => fun
  | [d1, d2, d3] => { results := [.lit (.bool false)], args := [d1, d2, d3] }
  | _ => none }
def SprintReadsWrongFalsely : Prop := sprintReadsRow.holds Try.pinned (OpenSpec.ofChange sprintReadsWrong)

/-- 'lapworkslaw04.SprintCounts': WHATEVER THE INPUT: true; the input reads as it did. -/
def sprintCountsSpec : ChangeSpec := { name := "sprintCounts", fn := fun _ => fun
  | [d1, d2, d3] => { results := [.lit (.bool true)], args := [d1, d2, d3] }
  | _ => none }
def sprintCountsRow : OpenClaim := { program := "ytoabfffmjhdijaa", sum := "1d4cbba5d75fd867563dc37d2cb4a84278f00238544a6b6a84f13c7072fd9757", func := "lapworks/lapworkslaw04.SprintCounts", spec := "sprintCounts", unfollowed := true, recurses := true, apart := false }
def SprintCountsSaid : Prop := sprintCountsRow.holds Try.pinned (OpenSpec.ofChange sprintCountsSpec)

/-- ITS FALSE NEIGHBOUR: 'it returns false'. Refute it at one input. -/
def sprintCountsWrong : ChangeSpec := { name := "sprintCounts", fn := fun _ => fun
  | [d1, d2, d3] => { results := [.lit (.bool false)], args := [d1, d2, d3] }
  | _ => none }
def SprintCountsWrongFalsely : Prop := sprintCountsRow.holds Try.pinned (OpenSpec.ofChange sprintCountsWrong)

/-- 'lapworkslaw04.SprintLooks': WHATEVER THE INPUT: true; the input reads as it did. -/
def sprintLooksSpec : ChangeSpec := { name := "sprintLooks", fn := fun _ => fun
  | [d1, d2] => { results := [.lit (.bool true)], args := [d1, d2] }
  | _ => none }
def sprintLooksRow : OpenClaim := { program := "ytoabfffmjhdijaa", sum := "1d4cbba5d75fd867563dc37d2cb4a84278f00238544a6b6a84f13c7072fd9757", func := "lapworks/lapworkslaw04.SprintLooks", spec := "sprintLooks", unfollowed := true, recurses := true, apart := false }
def SprintLooksSaid : Prop := sprintLooksRow.holds Try.pinned (OpenSpec.ofChange sprintLooksSpec)

/-- ITS FALSE NEIGHBOUR: 'it returns false'. Refute it at one input. -/
def sprintLooksWrong : ChangeSpec := { name := "sprintLooks", fn := fun _ => fun
  | [d1, d2] => { results := [.lit (.bool false)], args := [d1, d2] }
  | _ => none }
def SprintLooksWrongFalsely : Prop := sprintLooksRow.holds Try.pinned (OpenSpec.ofChange sprintLooksWrong)

/-- 'lapworkslaw04.SprintTrue': WHATEVER THE INPUT: true; the input reads as it did. -/
def sprintTrueSpec : ChangeSpec := { name := "sprintTrue", fn := fun _ => fun
  | [d] => { results := [.lit (.bool true)], args := [d] }
  | _ => none }
def sprintTrueRow : OpenClaim := { program := "ytoabfffmjhdijaa", sum := "1d4cbba5d75fd867563dc37d2cb4a84278f00238544a6b6a84f13c7072fd9757", func := "lapworks/lapworkslaw04.SprintTrue", spec := "sprintTrue", unfollowed := true, recurses := true, apart := false }
def SprintTrueSaid : Prop := sprintTrueRow.holds Try.pinned (OpenSpec.ofChange sprintTrueSpec)

/-- ITS FALSE NEIGHBOUR: 'it returns false'. Refute it at one input. -/
def sprintTrueWrong : ChangeSpec := { name := "sprintTrue", fn := fun _ => fun
  | [d] => { results := [.lit (.bool false)], args := [d] }
  | _ => none }
def SprintTrueWrongFalsely : Prop := sprintTrueRow.holds Try.pinned (OpenSpec.ofChange sprintTrueWrong)

/-- 'lapworkslaw04.SprintPlaces': WHATEVER THE INPUT: true; the input reads as it did. -/
def sprintPlacesSpec : ChangeSpec := { name := "sprintPlaces", fn := fun _ => fun
  | [d1, d2, d3] => { results := [.lit (.bool true)], args := [d1, d2, d3] }
  | _ => none }
def sprintPlacesRow : OpenClaim := { program := "ytoabfffmjhdijaa", sum := "1d4cbba5d75fd867563dc37d2cb4a84278f00238544a6b6a84f13c7072fd9757", func := "lapworks/lapworkslaw04.SprintPlaces", spec := "sprintPlaces", unfollowed := true, recurses := true, apart := false }
def SprintPlacesSaid : Prop := sprintPlacesRow.holds Try.pinned (OpenSpec.ofChange sprintPlacesSpec)

/-- ITS FALSE NEIGHBOUR: 'it returns false'. Refute it at one input. -/
def sprintPlacesWrong : ChangeSpec := { name := "sprintPlaces", fn := fun _ => fun
  | [d1, d2, d3] => { results := [.lit (.bool false)], args := [d1, d2, d3] }
  | _ => none }
def SprintPlacesWrongFalsely : Prop := sprintPlacesRow.holds Try.pinned (OpenSpec.ofChange sprintPlacesWrong)

/-- 'lapworkslaw04.SprintMargins': WHATEVER THE INPUT: true; the input reads as it did. -/
def sprintMarginsSpec : ChangeSpec := { name := "sprintMargins", fn := fun _ => fun
  | [d1, d2, d3, d4] => { results := [.lit (.bool true)], args := [d1, d2, d3, d4] }
  | _ => none }
def sprintMarginsRow : OpenClaim := { program := "ytoabfffmjhdijaa", sum := "1d4cbba5d75fd867563dc37d2cb4a84278f00238544a6b6a84f13c7072fd9757", func := "lapworks/lapworkslaw04.SprintMargins", spec := "sprintMargins", unfollowed := true, recurses := true, apart := false }
def SprintMarginsSaid : Prop := sprintMarginsRow.holds Try.pinned (OpenSpec.ofChange sprintMarginsSpec)

/-- ITS FALSE NEIGHBOUR: 'it returns false'. Refute it at one input. -/
def sprintMarginsWrong : ChangeSpec := { name := "sprintMargins", fn := fun _ => fun
  | [d1, d2, d3, d4] => { results := [.lit (.bool false)], args := [d1, d2, d3, d4] }
  | _ => none }
def SprintMarginsWrongFalsely : Prop := sprintMarginsRow.holds Try.pinned (OpenSpec.ofChange sprintMarginsWrong)

/-- 'lapworkslaw04.SprintClash': WHATEVER THE INPUT: true; the input reads as it did. -/
def sprintClashSpec : ChangeSpec := { name := "sprintClash", fn := fun _ => fun
  | [d1, d2, d3] => { results := [.lit (.bool true)], args := [d1, d2, d3] }
  | _ => none }
def sprintClashRow : OpenClaim := { program := "ytoabfffmjhdijaa", sum := "1d4cbba5d75fd867563dc37d2cb4a84278f00238544a6b6a84f13c7072fd9757", func := "lapworks/lapworkslaw04.SprintClash", spec := "sprintClash", unfollowed := true, recurses := true, apart := false }
def SprintClashSaid : Prop := sprintClashRow.holds Try.pinned (OpenSpec.ofChange sprintClashSpec)

/-- ITS FALSE NEIGHBOUR: 'it returns false'. Refute it at one input. -/
def sprintClashWrong : ChangeSpec := { name := "sprintClash", fn := fun _ => fun
  | [d1, d2, d3] => { results := [.lit (.bool false)], args := [d1, d2, d3] }
  | _ => none }
def SprintClashWrongFalsely : Prop := sprintClashRow.holds Try.pinned (OpenSpec.ofChange sprintClashWrong)

/-- 'lapworkslaw04.SprintAsk': WHATEVER THE INPUT: true; the input reads as it did. -/
def sprintAskSpec : ChangeSpec := { name := "sprintAsk", fn := fun _ => fun
  | [d1, d2, d3, d4] => { results := [.lit (.bool true)], args := [d1, d2, d3, d4] }
  | _ => none }
def sprintAskRow : OpenClaim := { program := "ytoabfffmjhdijaa", sum := "1d4cbba5d75fd867563dc37d2cb4a84278f00238544a6b6a84f13c7072fd9757", func := "lapworks/lapworkslaw04.SprintAsk", spec := "sprintAsk", unfollowed := true, recurses := true, apart := false }
def SprintAskSaid : Prop := sprintAskRow.holds Try.pinned (OpenSpec.ofChange sprintAskSpec)

/-- ITS FALSE NEIGHBOUR: 'it returns false'. Refute it at one input. -/
def sprintAskWrong : ChangeSpec := { name := "sprintAsk", fn := fun _ => fun
  | [d1, d2, d3, d4] => { results := [.lit (.bool false)], args := [d1, d2, d3, d4] }
  | _ => none }
def SprintAskWrongFalsely : Prop := sprintAskRow.holds Try.pinned (OpenSpec.ofChange sprintAskWrong)

/-- 'lapworkslaw04.SprintMore': WHATEVER THE INPUT: true; the input reads as it did. -/
def sprintMoreSpec : ChangeSpec := { name := "sprintMore", fn := fun _ => fun
  | [d1, d2, d3, d4, d5] => { results := [.lit (.bool true)], args := [d1, d2, d3, d4, d5] }
  | _ => none }
def sprintMoreRow : OpenClaim := { program := "ytoabfffmjhdijaa", sum := "1d4cbba5d75fd867563dc37d2cb4a84278f00238544a6b6a84f13c7072fd9757", func := "lapworks/lapworkslaw04.SprintMore", spec := "sprintMore", unfollowed := true, recurses := true, apart := false }
def SprintMoreSaid : Prop := sprintMoreRow.holds Try.pinned (OpenSpec.ofChange sprintMoreSpec)

/-- ITS FALSE NEIGHBOUR: 'it returns false'. Refute it at one input. -/
def sprintMoreWrong : ChangeSpec := { name := "sprintMore", fn := fun _ => fun
  | [d1, d2, d3, d4, d5] => { results := [.lit (.bool false)], args := [d1, d2, d3, d4, d5] }
  | _ => none }
def SprintMoreWrongFalsely : Prop := sprintMoreRow.holds Try.pinned (OpenSpec.ofChange sprintMoreWrong)

/-- 'lapworkslaw04.SprintTurned': WHATEVER THE INPUT: true; the input reads as it did. -/
def sprintTurnedSpec : ChangeSpec := { name := "sprintTurned", fn := fun _ => fun
  | [d1, d2, d3, d4] => { results := [.lit (.bool true)], args := [d1, d2, d3, d4] }
  | _ => none }
def sprintTurnedRow : OpenClaim := { program := "ytoabfffmjhdijaa", sum := "1d4cbba5d75fd867563dc37d2cb4a84278f00238544a6b6a84f13c7072fd9757", func := "lapworks/lapworkslaw04.SprintTurned", spec := "sprintTurned", unfollowed := true, recurses := true, apart := false }
def SprintTurnedSaid : Prop := sprintTurnedRow.holds Try.pinned (OpenSpec.ofChange sprintTurnedSpec)

/-- ITS FALSE NEIGHBOUR: 'it returns false'. Refute it at one input. -/
def sprintTurnedWrong : ChangeSpec := { name := "sprintTurned", fn := fun _ => fun
  | [d1, d2, d3, d4] => { results := [.lit (.bool false)], args := [d1, d2, d3, d4] }
  | _ => none }
def SprintTurnedWrongFalsely : Prop := sprintTurnedRow.holds Try.pinned (OpenSpec.ofChange sprintTurnedWrong)

/- THE SECOND FORM. 'bulk': how many values and letters a reading holds, each counted each time it is reached (what is shared counts as often as it is met; a slice's spare places count too). A statement '..UptoSaid' is the law's where the arguments, and the package variables that the reading takes, are together of bulk at most 1048576: NARROWER than '..Said'. Prove '..Said' where nothing that the law and all that it calls make is longer than what came in: it says more and counts as full. Else prove '..UptoSaid'. A law counts once. -/
mutual
def uptoBulk {H : Type} : DataW H → Nat
  | .lit (.string bytes) => bytes.length + 1
  | .lit _ => 1
  | .nil => 1
  | .ptr d => uptoBulk d + 1
  | .slice elems spare => uptoBulkAll elems + uptoBulkAll spare + 1
  | .agg parts => uptoBulkAll parts + 1
  | .iface _ d => uptoBulk d + 1
  | .map entries => uptoBulkEntries entries + 1
  | .held _ => 1
def uptoBulkAll {H : Type} : List (DataW H) → Nat
  | [] => 0
  | d :: r => uptoBulk d + uptoBulkAll r
def uptoBulkEntries {H : Type} : List (Lit × DataW H) → Nat
  | [] => 0
  | x :: r => uptoBulkEntry x + uptoBulkEntries r
def uptoBulkEntry {H : Type} : Lit × DataW H → Nat
  | (.string bytes, d) => bytes.length + uptoBulk d + 1
  | (_, d) => uptoBulk d + 1
 end
def uptoSmall : (H : Type) → List (DataW H) → Bool := fun _ ds => decide (uptoBulkAll ds ≤ 1048576)
def OpenSpec.upto (s : _root_.Go.ChangeSpec) : _root_.Go.OpenSpec := { _root_.Go.OpenSpec.ofChange s with cond := some uptoSmall }

/-- 'lapworkslaw04.SprintReads', WHERE WHAT IT READS IS OF BULK AT MOST 1048576: true; the input reads as it did. -/
def sprintReadsUptoRow : OpenClaim := { program := "ytoabfffmjhdijaa", sum := "1d4cbba5d75fd867563dc37d2cb4a84278f00238544a6b6a84f13c7072fd9757", func := "lapworks/lapworkslaw04.SprintReads", spec := "sprintReads", unfollowed := true, recurses := true, apart := false, narrowed := true }
def SprintReadsUptoSaid : Prop := sprintReadsUptoRow.holds Try.pinned (OpenSpec.upto sprintReadsSpec)

/-- 'lapworkslaw04.SprintCounts', WHERE WHAT IT READS IS OF BULK AT MOST 1048576: true; the input reads as it did. -/
def sprintCountsUptoRow : OpenClaim := { program := "ytoabfffmjhdijaa", sum := "1d4cbba5d75fd867563dc37d2cb4a84278f00238544a6b6a84f13c7072fd9757", func := "lapworks/lapworkslaw04.SprintCounts", spec := "sprintCounts", unfollowed := true, recurses := true, apart := false, narrowed := true }
def SprintCountsUptoSaid : Prop := sprintCountsUptoRow.holds Try.pinned (OpenSpec.upto sprintCountsSpec)

/-- 'lapworkslaw04.SprintLooks', WHERE WHAT IT READS IS OF BULK AT MOST 1048576: true; the input reads as it did. -/
def sprintLooksUptoRow : OpenClaim := { program := "ytoabfffmjhdijaa", sum := "1d4cbba5d75fd867563dc37d2cb4a84278f00238544a6b6a84f13c7072fd9757", func := "lapworks/lapworkslaw04.SprintLooks", spec := "sprintLooks", unfollowed := true, recurses := true, apart := false, narrowed := true }
def SprintLooksUptoSaid : Prop := sprintLooksUptoRow.holds Try.pinned (OpenSpec.upto sprintLooksSpec)

/-- 'lapworkslaw04.SprintTrue', WHERE WHAT IT READS IS OF BULK AT MOST 1048576: true; the input reads as it did. -/
def sprintTrueUptoRow : OpenClaim := { program := "ytoabfffmjhdijaa", sum := "1d4cbba5d75fd867563dc37d2cb4a84278f00238544a6b6a84f13c7072fd9757", func := "lapworks/lapworkslaw04.SprintTrue", spec := "sprintTrue", unfollowed := true, recurses := true, apart := false, narrowed := true }
def SprintTrueUptoSaid : Prop := sprintTrueUptoRow.holds Try.pinned (OpenSpec.upto sprintTrueSpec)

/-- 'lapworkslaw04.SprintPlaces', WHERE WHAT IT READS IS OF BULK AT MOST 1048576: true; the input reads as it did. -/
def sprintPlacesUptoRow : OpenClaim := { program := "ytoabfffmjhdijaa", sum := "1d4cbba5d75fd867563dc37d2cb4a84278f00238544a6b6a84f13c7072fd9757", func := "lapworks/lapworkslaw04.SprintPlaces", spec := "sprintPlaces", unfollowed := true, recurses := true, apart := false, narrowed := true }
def SprintPlacesUptoSaid : Prop := sprintPlacesUptoRow.holds Try.pinned (OpenSpec.upto sprintPlacesSpec)

/-- 'lapworkslaw04.SprintMargins', WHERE WHAT IT READS IS OF BULK AT MOST 1048576: true; the input reads as it did. -/
def sprintMarginsUptoRow : OpenClaim := { program := "ytoabfffmjhdijaa", sum := "1d4cbba5d75fd867563dc37d2cb4a84278f00238544a6b6a84f13c7072fd9757", func := "lapworks/lapworkslaw04.SprintMargins", spec := "sprintMargins", unfollowed := true, recurses := true, apart := false, narrowed := true }
def SprintMarginsUptoSaid : Prop := sprintMarginsUptoRow.holds Try.pinned (OpenSpec.upto sprintMarginsSpec)

/-- 'lapworkslaw04.SprintClash', WHERE WHAT IT READS IS OF BULK AT MOST 1048576: true; the input reads as it did. -/
def sprintClashUptoRow : OpenClaim := { program := "ytoabfffmjhdijaa", sum := "1d4cbba5d75fd867563dc37d2cb4a84278f00238544a6b6a84f13c7072fd9757", func := "lapworks/lapworkslaw04.SprintClash", spec := "sprintClash", unfollowed := true, recurses := true, apart := false, narrowed := true }
def SprintClashUptoSaid : Prop := sprintClashUptoRow.holds Try.pinned (OpenSpec.upto sprintClashSpec)

/-- 'lapworkslaw04.SprintAsk', WHERE WHAT IT READS IS OF BULK AT MOST 1048576: true; the input reads as it did. -/
def sprintAskUptoRow : OpenClaim := { program := "ytoabfffmjhdijaa", sum := "1d4cbba5d75fd867563dc37d2cb4a84278f00238544a6b6a84f13c7072fd9757", func := "lapworks/lapworkslaw04.SprintAsk", spec := "sprintAsk", unfollowed := true, recurses := true, apart := false, narrowed := true }
def SprintAskUptoSaid : Prop := sprintAskUptoRow.holds Try.pinned (OpenSpec.upto sprintAskSpec)

/-- 'lapworkslaw04.SprintMore', WHERE WHAT IT READS IS OF BULK AT MOST 1048576: true; the input reads as it did. -/
def sprintMoreUptoRow : OpenClaim := { program := "ytoabfffmjhdijaa", sum := "1d4cbba5d75fd867563dc37d2cb4a84278f00238544a6b6a84f13c7072fd9757", func := "lapworks/lapworkslaw04.SprintMore", spec := "sprintMore", unfollowed := true, recurses := true, apart := false, narrowed := true }
def SprintMoreUptoSaid : Prop := sprintMoreUptoRow.holds Try.pinned (OpenSpec.upto sprintMoreSpec)

/-- 'lapworkslaw04.SprintTurned', WHERE WHAT IT READS IS OF BULK AT MOST 1048576: true; the input reads as it did. -/
def sprintTurnedUptoRow : OpenClaim := { program := "ytoabfffmjhdijaa", sum := "1d4cbba5d75fd867563dc37d2cb4a84278f00238544a6b6a84f13c7072fd9757", func := "lapworks/lapworkslaw04.SprintTurned", spec := "sprintTurned", unfollowed := true, recurses := true, apart := false, narrowed := true }
def SprintTurnedUptoSaid : Prop := sprintTurnedUptoRow.holds Try.pinned (OpenSpec.upto sprintTurnedSpec)

end Rows
end Go.Proofs.Ytoabfffmjhdijaa
