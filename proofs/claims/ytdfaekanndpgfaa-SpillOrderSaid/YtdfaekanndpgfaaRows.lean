/-
  No cell of these rows narrows 'for every input' (looked for: loops, veiled, ifaces, maps, wideKeys, modest, calm, conditions, laid).
  DERIVED. THE GIVEN ROWS OF THIS SEAT. 9 by the template 'for every input the law returns true; each argument reads behind the call as it read before'; 0 by the template 'total and deterministic' (their statements: YtdfaekanndpgfaaTotals.lean).
  GIVEN WITH THE SEED: the statements are not yours to turn. If you find one false, say at which input.
  Laid BY PROGRAM, IN A SANDBOX (cutbox-rows.mjs): the forced cells as the released guide's own fill.sh prints them over the translation 49b449761585c3b2… (all of the seat's roots in one cut). By AI agents, Wed Nov 11 2026. No macro, syntax, notation, axiom, sorry.
-/
import Derived.Test.YtdfaekanndpgfaaChecked
import GoSem.Claim
import GoSem.ClaimJoined
import GoSem.ClaimMapViews
import Derived.JoinedTies
import Derived.KernelRfl
namespace Go.Proofs.Ytdfaekanndpgfaa
/- THE CELL 'sum', in the pinned program and in every row, IS THE sha256 OF THE DUMP (.gsa) THAT YtdfaekanndpgfaaProg.lean LOADS. Nothing in Lean hashes anything: it is a label: what it is worth is what the hold of that sum in a sandbox is worth. -/
noncomputable def Try.pinned : Pinned := { name := "ytdfaekanndpgfaa", sum := "49b449761585c3b2d8d86894811e258142d699768294309400f1c7dda216d6b5", checked := Try.checked }
namespace Rows
def none {H : Type} : Left H := { results := [], args := [] }

/-- 'lapworkslaw05.SpillMerges': WHATEVER THE INPUT: true; the input reads as it did. -/
def spillMergesSpec : ChangeSpec := { name := "spillMerges", fn := fun _ => fun
  | [d1, d2] => { results := [.lit (.bool true)], args := [d1, d2] }
  | _ => none }
def spillMergesRow : OpenClaim := { program := "ytdfaekanndpgfaa", sum := "49b449761585c3b2d8d86894811e258142d699768294309400f1c7dda216d6b5", func := "lapworks/lapworkslaw05.SpillMerges", spec := "spillMerges", unfollowed := true, recurses := true, apart := false }
def SpillMergesSaid : Prop := spillMergesRow.holds Try.pinned (OpenSpec.ofChange spillMergesSpec)

/-- ITS FALSE NEIGHBOUR: 'it returns false'. Refute it at one input. -/
def spillMergesWrong : ChangeSpec := { name := "spillMerges", fn := fun _ => fun
  | [d1, d2] => { results := [.lit (.bool false)], args := [d1, d2] }
  | _ => none }
def SpillMergesWrongFalsely : Prop := spillMergesRow.holds Try.pinned (OpenSpec.ofChange spillMergesWrong)

/-- 'lapworkslaw05.SpillTells': WHATEVER THE INPUT: true; the input reads as it did. -/
def spillTellsSpec : ChangeSpec := { name := "spillTells", fn := fun _ => fun
  | [d1, d2, d3] => { results := [.lit (.bool true)], args := [d1, d2, d3] }
  | _ => none }
def spillTellsRow : OpenClaim := { program := "ytdfaekanndpgfaa", sum := "49b449761585c3b2d8d86894811e258142d699768294309400f1c7dda216d6b5", func := "lapworks/lapworkslaw05.SpillTells", spec := "spillTells", unfollowed := true, recurses := true, apart := false }
def SpillTellsSaid : Prop := spillTellsRow.holds Try.pinned (OpenSpec.ofChange spillTellsSpec)

/-- ITS FALSE NEIGHBOUR: 'it returns false'. Refute it at one input. -/
def spillTellsWrong : ChangeSpec := { name := "spillTells", fn := fun _ => fun
  | [d1, d2, d3] => { results := [.lit (.bool false)], args := [d1, d2, d3] }
  | _ => none }
def SpillTellsWrongFalsely : Prop := spillTellsRow.holds Try.pinned (OpenSpec.ofChange spillTellsWrong)

/-- 'lapworkslaw05.SpillNames': WHATEVER THE INPUT: true; the input reads as it did. -/
def spillNamesSpec : ChangeSpec := { name := "spillNames", fn := fun _ => fun
  | [] => { results := [.lit (.bool true)], args := [] }
  | _ => none }
def spillNamesRow : OpenClaim := { program := "ytdfaekanndpgfaa", sum := "49b449761585c3b2d8d86894811e258142d699768294309400f1c7dda216d6b5", func := "lapworks/lapworkslaw05.SpillNames", spec := "spillNames", unfollowed := true, recurses := true, apart := false }
def SpillNamesSaid : Prop := spillNamesRow.holds Try.pinned (OpenSpec.ofChange spillNamesSpec)

/-- ITS FALSE NEIGHBOUR: 'it returns false'. Refute it at one input. -/
def spillNamesWrong : ChangeSpec := { name := "spillNames", fn := fun _ => fun
  | [] => { results := [.lit (.bool false)], args := [] }
  | _ => none }
def SpillNamesWrongFalsely : Prop := spillNamesRow.holds Try.pinned (OpenSpec.ofChange spillNamesWrong)

/-- 'lapworkslaw05.SpillOrder': WHATEVER THE INPUT: true; the input reads as it did. -/
def spillOrderSpec : ChangeSpec := { name := "spillOrder", fn := fun _ => fun
  | [d1, d2, d3, d4] => { results := [.lit (.bool true)], args := [d1, d2, d3, d4] }
  | _ => none }
def spillOrderRow : OpenClaim := { program := "ytdfaekanndpgfaa", sum := "49b449761585c3b2d8d86894811e258142d699768294309400f1c7dda216d6b5", func := "lapworks/lapworkslaw05.SpillOrder", spec := "spillOrder", unfollowed := true, recurses := true, apart := false }
def SpillOrderSaid : Prop := spillOrderRow.holds Try.pinned (OpenSpec.ofChange spillOrderSpec)

/-- ITS FALSE NEIGHBOUR: 'it returns false'. Refute it at one input. -/
def spillOrderWrong : ChangeSpec := { name := "spillOrder", fn := fun _ => fun
  | [d1, d2, d3, d4] => { results := [.lit (.bool false)], args := [d1, d2, d3, d4] }
  | _ => none }
def SpillOrderWrongFalsely : Prop := spillOrderRow.holds Try.pinned (OpenSpec.ofChange spillOrderWrong)

/-- 'lapworkslaw05.SpillTrue': WHATEVER THE INPUT: true; the input reads as it did. -/
def spillTrueSpec : ChangeSpec := { name := "spillTrue", fn := fun _ => fun
  | [d1, d2] => { results := [.lit (.bool true)], args := [d1, d2] }
  | _ => none }
def spillTrueRow : OpenClaim := { program := "ytdfaekanndpgfaa", sum := "49b449761585c3b2d8d86894811e258142d699768294309400f1c7dda216d6b5", func := "lapworks/lapworkslaw05.SpillTrue", spec := "spillTrue", unfollowed := true, recurses := true, apart := false }
def SpillTrueSaid : Prop := spillTrueRow.holds Try.pinned (OpenSpec.ofChange spillTrueSpec)

/-- ITS FALSE NEIGHBOUR: 'it returns false'. Refute it at one input. -/
def spillTrueWrong : ChangeSpec := { name := "spillTrue", fn := fun _ => fun
  | [d1, d2] => { results := [.lit (.bool false)], args := [d1, d2] }
  | _ => none }
def SpillTrueWrongFalsely : Prop := spillTrueRow.holds Try.pinned (OpenSpec.ofChange spillTrueWrong)

/-- 'lapworkslaw05.SpillEnds': WHATEVER THE INPUT: true; the input reads as it did. -/
def spillEndsSpec : ChangeSpec := { name := "spillEnds", fn := fun _ => fun
  | [d1, d2, d3] => { results := [.lit (.bool true)], args := [d1, d2, d3] }
  | _ => none }
def spillEndsRow : OpenClaim := { program := "ytdfaekanndpgfaa", sum := "49b449761585c3b2d8d86894811e258142d699768294309400f1c7dda216d6b5", func := "lapworks/lapworkslaw05.SpillEnds", spec := "spillEnds", unfollowed := true, recurses := true, apart := false }
def SpillEndsSaid : Prop := spillEndsRow.holds Try.pinned (OpenSpec.ofChange spillEndsSpec)

/-- ITS FALSE NEIGHBOUR: 'it returns false'. Refute it at one input. -/
def spillEndsWrong : ChangeSpec := { name := "spillEnds", fn := fun _ => fun
  | [d1, d2, d3] => { results := [.lit (.bool false)], args := [d1, d2, d3] }
  | _ => none }
def SpillEndsWrongFalsely : Prop := spillEndsRow.holds Try.pinned (OpenSpec.ofChange spillEndsWrong)

/-- 'lapworkslaw05.SpillAsk': WHATEVER THE INPUT: true; the input reads as it did. -/
def spillAskSpec : ChangeSpec := { name := "spillAsk", fn := fun _ => fun
  | [d1, d2, d3] => { results := [.lit (.bool true)], args := [d1, d2, d3] }
  | _ => none }
def spillAskRow : OpenClaim := { program := "ytdfaekanndpgfaa", sum := "49b449761585c3b2d8d86894811e258142d699768294309400f1c7dda216d6b5", func := "lapworks/lapworkslaw05.SpillAsk", spec := "spillAsk", unfollowed := true, recurses := true, apart := false }
def SpillAskSaid : Prop := spillAskRow.holds Try.pinned (OpenSpec.ofChange spillAskSpec)

/-- ITS FALSE NEIGHBOUR: 'it returns false'. Refute it at one input. -/
def spillAskWrong : ChangeSpec := { name := "spillAsk", fn := fun _ => fun
  | [d1, d2, d3] => { results := [.lit (.bool false)], args := [d1, d2, d3] }
  | _ => none }
def SpillAskWrongFalsely : Prop := spillAskRow.holds Try.pinned (OpenSpec.ofChange spillAskWrong)

/-- 'lapworkslaw05.SpillMore': WHATEVER THE INPUT: true; the input reads as it did. -/
def spillMoreSpec : ChangeSpec := { name := "spillMore", fn := fun _ => fun
  | [d1, d2, d3, d4] => { results := [.lit (.bool true)], args := [d1, d2, d3, d4] }
  | _ => none }
def spillMoreRow : OpenClaim := { program := "ytdfaekanndpgfaa", sum := "49b449761585c3b2d8d86894811e258142d699768294309400f1c7dda216d6b5", func := "lapworks/lapworkslaw05.SpillMore", spec := "spillMore", unfollowed := true, recurses := true, apart := false }
def SpillMoreSaid : Prop := spillMoreRow.holds Try.pinned (OpenSpec.ofChange spillMoreSpec)

/-- ITS FALSE NEIGHBOUR: 'it returns false'. Refute it at one input. -/
def spillMoreWrong : ChangeSpec := { name := "spillMore", fn := fun _ => fun
  | [d1, d2, d3, d4] => { results := [.lit (.bool false)], args := [d1, d2, d3, d4] }
  | _ => none }
def SpillMoreWrongFalsely : Prop := spillMoreRow.holds Try.pinned (OpenSpec.ofChange spillMoreWrong)

/-- 'lapworkslaw05.SpillTurned': WHATEVER THE INPUT: true; the input reads as it did. -/
def spillTurnedSpec : ChangeSpec := { name := "spillTurned", fn := fun _ => fun
  | [d1, d2] => { results := [.lit (.bool true)], args := [d1, d2] }
  | _ => none }
def spillTurnedRow : OpenClaim := { program := "ytdfaekanndpgfaa", sum := "49b449761585c3b2d8d86894811e258142d699768294309400f1c7dda216d6b5", func := "lapworks/lapworkslaw05.SpillTurned", spec := "spillTurned", unfollowed := true, recurses := true, apart := false }
def SpillTurnedSaid : Prop := spillTurnedRow.holds Try.pinned (OpenSpec.ofChange spillTurnedSpec)

/-- ITS FALSE NEIGHBOUR: 'it returns false'. Refute it at one input. -/
def spillTurnedWrong : ChangeSpec := { name := "spillTurned", fn := fun _ => fun
  | [d1, d2] => { results := [.lit (.bool false)], args := [d1, d2] }
  | _ => none }
def SpillTurnedWrongFalsely : Prop := spillTurnedRow.holds Try.pinned (OpenSpec.ofChange spillTurnedWrong)

/- THE SECOND FORM. 'bulk': how many values and letters a reading holds, each counted each time it is reached (what is shared counts as often as it is met; a slice's spare places count too). A statement '..UptoSaid' is the law's where the arguments, and the package variables that the reading takes, are together of bulk at most 1048576: NARROWER than '..Said'. Prove '..Said' where nothing that the law and all that it calls make is longer than what came in: it says more and counts as full. Else prove '..UptoSaid'. A law counts once. -/
mutual
def uptoBulk {H : Type} : DataW H → Nat
  | .lit (.string bytes) => bytes.length + 1
  | .lit _ => 1
  | .nil => 1
  | .ptr d => uptoBulk d + 1
  | .slice elems spare => uptoBulkAll elems + uptoBulkAll spare + 1
  | .agg parts => uptoBulkAll parts + 1
  | .iface _ d => uptoBulk d + 1
  | .map entries => uptoBulkEntries entries + 1
  | .held _ => 1
def uptoBulkAll {H : Type} : List (DataW H) → Nat
  | [] => 0
  | d :: r => uptoBulk d + uptoBulkAll r
def uptoBulkEntries {H : Type} : List (Lit × DataW H) → Nat
  | [] => 0
  | x :: r => uptoBulkEntry x + uptoBulkEntries r
def uptoBulkEntry {H : Type} : Lit × DataW H → Nat
  | (.string bytes, d) => bytes.length + uptoBulk d + 1
  | (_, d) => uptoBulk d + 1
 end
def uptoSmall : (H : Type) → List (DataW H) → Bool := fun _ ds => decide (uptoBulkAll ds ≤ 1048576)
def OpenSpec.upto (s : _root_.Go.ChangeSpec) : _root_.Go.OpenSpec := { _root_.Go.OpenSpec.ofChange s with cond := some uptoSmall }

/-- 'lapworkslaw05.SpillMerges', WHERE WHAT IT READS IS OF BULK AT MOST 1048576: true; the input reads as it did. -/
def spillMergesUptoRow : OpenClaim := { program := "ytdfaekanndpgfaa", sum := "49b449761585c3b2d8d86894811e258142d699768294309400f1c7dda216d6b5", func := "lapworks/lapworkslaw05.SpillMerges", spec := "spillMerges", unfollowed := true, recurses := true, apart := false, narrowed := true }
def SpillMergesUptoSaid : Prop := spillMergesUptoRow.holds Try.pinned (OpenSpec.upto spillMergesSpec)

/-- 'lapworkslaw05.SpillTells', WHERE WHAT IT READS IS OF BULK AT MOST 1048576: true; the input reads as it did. -/
def spillTellsUptoRow : OpenClaim := { program := "ytdfaekanndpgfaa", sum := "49b449761585c3b2d8d86894811e258142d699768294309400f1c7dda216d6b5", func := "lapworks/lapworkslaw05.SpillTells", spec := "spillTells", unfollowed := true, recurses := true, apart := false, narrowed := true }
def SpillTellsUptoSaid : Prop := spillTellsUptoRow.holds Try.pinned (OpenSpec.upto spillTellsSpec)

/-- 'lapworkslaw05.SpillNames', WHERE WHAT IT READS IS OF BULK AT MOST 1048576: true; the input reads as it did. -/
def spillNamesUptoRow : OpenClaim := { program := "ytdfaekanndpgfaa", sum := "49b449761585c3b2d8d86894811e258142d699768294309400f1c7dda216d6b5", func := "lapworks/lapworkslaw05.SpillNames", spec := "spillNames", unfollowed := true, recurses := true, apart := false, narrowed := true }
def SpillNamesUptoSaid : Prop := spillNamesUptoRow.holds Try.pinned (OpenSpec.upto spillNamesSpec)

/-- 'lapworkslaw05.SpillOrder', WHERE WHAT IT READS IS OF BULK AT MOST 1048576: true; the input reads as it did. -/
def spillOrderUptoRow : OpenClaim := { program := "ytdfaekanndpgfaa", sum := "49b449761585c3b2d8d86894811e258142d699768294309400f1c7dda216d6b5", func := "lapworks/lapworkslaw05.SpillOrder", spec := "spillOrder", unfollowed := true, recurses := true, apart := false, narrowed := true }
def SpillOrderUptoSaid : Prop := spillOrderUptoRow.holds Try.pinned (OpenSpec.upto spillOrderSpec)

/-- 'lapworkslaw05.SpillTrue', WHERE WHAT IT READS IS OF BULK AT MOST 1048576: true; the input reads as it did. -/
def spillTrueUptoRow : OpenClaim := { program := "ytdfaekanndpgfaa", sum := "49b449761585c3b2d8d86894811e258142d699768294309400f1c7dda216d6b5", func := "lapworks/lapworkslaw05.SpillTrue", spec := "spillTrue", unfollowed := true, recurses := true, apart := false, narrowed := true }
def SpillTrueUptoSaid : Prop := spillTrueUptoRow.holds Try.pinned (OpenSpec.upto spillTrueSpec)

/-- 'lapworkslaw05.SpillEnds', WHERE WHAT IT READS IS OF BULK AT MOST 1048576: true; the input reads as it did. -/
def spillEndsUptoRow : OpenClaim := { program := "ytdfaekanndpgfaa", sum := "49b449761585c3b2d8d86894811e258142d699768294309400f1c7dda216d6b5", func := "lapworks/lapworkslaw05.SpillEnds", spec := "spillEnds", unfollowed := true, recurses := true, apart := false, narrowed := true }
def SpillEndsUptoSaid : Prop := spillEndsUptoRow.holds Try.pinned (OpenSpec.upto spillEndsSpec)

/-- 'lapworkslaw05.SpillAsk', WHERE WHAT IT READS IS OF BULK AT MOST 1048576: true; the input reads as it did. -/
def spillAskUptoRow : OpenClaim := { program := "ytdfaekanndpgfaa", sum := "49b449761585c3b2d8d86894811e258142d699768294309400f1c7dda216d6b5", func := "lapworks/lapworkslaw05.SpillAsk", spec := "spillAsk", unfollowed := true, recurses := true, apart := false, narrowed := true }
def SpillAskUptoSaid : Prop := spillAskUptoRow.holds Try.pinned (OpenSpec.upto spillAskSpec)

/-- 'lapworkslaw05.SpillMore', WHERE WHAT IT READS IS OF BULK AT MOST 1048576: true; the input reads as it did. -/
def spillMoreUptoRow : OpenClaim := { program := "ytdfaekanndpgfaa", sum := "49b449761585c3b2d8d86894811e258142d699768294309400f1c7dda216d6b5", func := "lapworks/lapworkslaw05.SpillMore", spec := "spillMore", unfollowed := true, recurses := true, apart := false, narrowed := true }
def SpillMoreUptoSaid : Prop := spillMoreUptoRow.holds Try.pinned (OpenSpec.upto spillMoreSpec)

/-- 'lapworkslaw05.SpillTurned', WHERE WHAT IT READS IS OF BULK AT MOST 1048576: true; the input reads as it did. -/
def spillTurnedUptoRow : OpenClaim := { program := "ytdfaekanndpgfaa", sum := "49b449761585c3b2d8d86894811e258142d699768294309400f1c7dda216d6b5", func := "lapworks/lapworkslaw05.SpillTurned", spec := "spillTurned", unfollowed := true, recurses := true, apart := false, narrowed := true }
def SpillTurnedUptoSaid : Prop := spillTurnedUptoRow.holds Try.pinned (OpenSpec.upto spillTurnedSpec)

end Rows
end Go.Proofs.Ytdfaekanndpgfaa
