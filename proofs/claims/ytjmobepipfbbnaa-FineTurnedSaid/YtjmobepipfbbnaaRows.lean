/-
  No cell of these rows narrows 'for every input' (looked for: loops, veiled, ifaces, maps, wideKeys, modest, calm, conditions, laid).
  DERIVED. THE GIVEN ROWS OF THIS SEAT. 9 by the template 'for every input the law returns true; each argument reads behind the call as it read before'; 0 by the template 'total and deterministic' (their statements: YtjmobepipfbbnaaTotals.lean).
  GIVEN WITH THE SEED: the statements are not yours to turn. If you find one false, say at which input.
  Laid BY PROGRAM, IN A SANDBOX (cutbox-rows.mjs): the forced cells as the released guide's own fill.sh prints them over the translation 7c60ada295e5a9dc… (all of the seat's roots in one cut). By AI agents, Wed Nov 11 2026. No macro, syntax, notation, axiom, sorry.
-/
import Derived.Test.YtjmobepipfbbnaaChecked
import GoSem.Claim
import GoSem.ClaimJoined
import GoSem.ClaimMapViews
import Derived.JoinedTies
import Derived.KernelRfl
namespace Go.Proofs.Ytjmobepipfbbnaa
/- THE CELL 'sum', in the pinned program and in every row, IS THE sha256 OF THE DUMP (.gsa) THAT YtjmobepipfbbnaaProg.lean LOADS. Nothing in Lean hashes anything: it is a label: what it is worth is what the hold of that sum in a sandbox is worth. -/
noncomputable def Try.pinned : Pinned := { name := "ytjmobepipfbbnaa", sum := "7c60ada295e5a9dceadcf24c2d6c91468d12287ed9abf750d5a690b4d4a488e4", checked := Try.checked }
namespace Rows
def none {H : Type} : Left H := { results := [], args := [] }

/-- 'lapworkslaw11.FineTells': WHATEVER THE INPUT: true; the input reads as it did. -/
def fineTellsSpec : ChangeSpec := { name := "fineTells", fn := fun _ => fun
  | [d1, d2, d3, d4, d5] => { results := [.lit (.bool true)], args := [d1, d2, d3, d4, d5] }
  | _ => none }
def fineTellsRow : OpenClaim := { program := "ytjmobepipfbbnaa", sum := "7c60ada295e5a9dceadcf24c2d6c91468d12287ed9abf750d5a690b4d4a488e4", func := "lapworks/lapworkslaw11.FineTells", spec := "fineTells", unfollowed := true, recurses := true, plainKeys := false, apart := false }
def FineTellsSaid : Prop := fineTellsRow.holds Try.pinned (OpenSpec.ofChange fineTellsSpec)

/-- ITS FALSE NEIGHBOUR: 'it returns false'. Refute it at one input. -/
def fineTellsWrong : ChangeSpec := { name := "fineTells", fn := fun _ => fun
  | [d1, d2, d3, d4, d5] => { results := [.lit (.bool false)], args := [d1, d2, d3, d4, d5] }
  | _ => none }
def FineTellsWrongFalsely : Prop := fineTellsRow.holds Try.pinned (OpenSpec.ofChange fineTellsWrong)

/-- 'lapworkslaw11.FineDrops': WHATEVER THE INPUT: true; the input reads as it did. -/
def fineDropsSpec : ChangeSpec := { name := "fineDrops", fn := fun _ => fun
  | [d1, d2, d3] => { results := [.lit (.bool true)], args := [d1, d2, d3] }
  | _ => none }
def fineDropsRow : OpenClaim := { program := "ytjmobepipfbbnaa", sum := "7c60ada295e5a9dceadcf24c2d6c91468d12287ed9abf750d5a690b4d4a488e4", func := "lapworks/lapworkslaw11.FineDrops", spec := "fineDrops", unfollowed := true, recurses := true, plainKeys := false, apart := false }
def FineDropsSaid : Prop := fineDropsRow.holds Try.pinned (OpenSpec.ofChange fineDropsSpec)

/-- ITS FALSE NEIGHBOUR: 'it returns false'. Refute it at one input. -/
def fineDropsWrong : ChangeSpec := { name := "fineDrops", fn := fun _ => fun
  | [d1, d2, d3] => { results := [.lit (.bool false)], args := [d1, d2, d3] }
  | _ => none }
def FineDropsWrongFalsely : Prop := fineDropsRow.holds Try.pinned (OpenSpec.ofChange fineDropsWrong)

/-- 'lapworkslaw11.FineNames': WHATEVER THE INPUT: true; the input reads as it did. -/
def fineNamesSpec : ChangeSpec := { name := "fineNames", fn := fun _ => fun
  | [] => { results := [.lit (.bool true)], args := [] }
  | _ => none }
def fineNamesRow : OpenClaim := { program := "ytjmobepipfbbnaa", sum := "7c60ada295e5a9dceadcf24c2d6c91468d12287ed9abf750d5a690b4d4a488e4", func := "lapworks/lapworkslaw11.FineNames", spec := "fineNames", unfollowed := true, recurses := true, plainKeys := false, apart := false }
def FineNamesSaid : Prop := fineNamesRow.holds Try.pinned (OpenSpec.ofChange fineNamesSpec)

/-- ITS FALSE NEIGHBOUR: 'it returns false'. Refute it at one input. -/
def fineNamesWrong : ChangeSpec := { name := "fineNames", fn := fun _ => fun
  | [] => { results := [.lit (.bool false)], args := [] }
  | _ => none }
def FineNamesWrongFalsely : Prop := fineNamesRow.holds Try.pinned (OpenSpec.ofChange fineNamesWrong)

/-- 'lapworkslaw11.FineTrue': WHATEVER THE INPUT: true; the input reads as it did. -/
def fineTrueSpec : ChangeSpec := { name := "fineTrue", fn := fun _ => fun
  | [d1, d2] => { results := [.lit (.bool true)], args := [d1, d2] }
  | _ => none }
def fineTrueRow : OpenClaim := { program := "ytjmobepipfbbnaa", sum := "7c60ada295e5a9dceadcf24c2d6c91468d12287ed9abf750d5a690b4d4a488e4", func := "lapworks/lapworkslaw11.FineTrue", spec := "fineTrue", unfollowed := true, recurses := true, plainKeys := false, apart := false }
def FineTrueSaid : Prop := fineTrueRow.holds Try.pinned (OpenSpec.ofChange fineTrueSpec)

/-- ITS FALSE NEIGHBOUR: 'it returns false'. Refute it at one input. -/
def fineTrueWrong : ChangeSpec := { name := "fineTrue", fn := fun _ => fun
  | [d1, d2] => { results := [.lit (.bool false)], args := [d1, d2] }
  | _ => none }
def FineTrueWrongFalsely : Prop := fineTrueRow.holds Try.pinned (OpenSpec.ofChange fineTrueWrong)

/-- 'lapworkslaw11.FineExact': WHATEVER THE INPUT: true; the input reads as it did. -/
def fineExactSpec : ChangeSpec := { name := "fineExact", fn := fun _ => fun
  | [d1, d2] => { results := [.lit (.bool true)], args := [d1, d2] }
  | _ => none }
def fineExactRow : OpenClaim := { program := "ytjmobepipfbbnaa", sum := "7c60ada295e5a9dceadcf24c2d6c91468d12287ed9abf750d5a690b4d4a488e4", func := "lapworks/lapworkslaw11.FineExact", spec := "fineExact", unfollowed := true, recurses := true, plainKeys := false, apart := false }
def FineExactSaid : Prop := fineExactRow.holds Try.pinned (OpenSpec.ofChange fineExactSpec)

/-- ITS FALSE NEIGHBOUR: 'it returns false'. Refute it at one input. -/
def fineExactWrong : ChangeSpec := { name := "fineExact", fn := fun _ => fun
  | [d1, d2] => { results := [.lit (.bool false)], args := [d1, d2] }
  | _ => none }
def FineExactWrongFalsely : Prop := fineExactRow.holds Try.pinned (OpenSpec.ofChange fineExactWrong)

/-- 'lapworkslaw11.FineEnds': WHATEVER THE INPUT: true; the input reads as it did. -/
def fineEndsSpec : ChangeSpec := { name := "fineEnds", fn := fun _ => fun
  | [d1, d2] => { results := [.lit (.bool true)], args := [d1, d2] }
  | _ => none }
def fineEndsRow : OpenClaim := { program := "ytjmobepipfbbnaa", sum := "7c60ada295e5a9dceadcf24c2d6c91468d12287ed9abf750d5a690b4d4a488e4", func := "lapworks/lapworkslaw11.FineEnds", spec := "fineEnds", unfollowed := true, recurses := true, plainKeys := false, apart := false }
def FineEndsSaid : Prop := fineEndsRow.holds Try.pinned (OpenSpec.ofChange fineEndsSpec)

/-- ITS FALSE NEIGHBOUR: 'it returns false'. Refute it at one input. -/
def fineEndsWrong : ChangeSpec := { name := "fineEnds", fn := fun _ => fun
  | [d1, d2] => { results := [.lit (.bool false)], args := [d1, d2] }
  | _ => none }
def FineEndsWrongFalsely : Prop := fineEndsRow.holds Try.pinned (OpenSpec.ofChange fineEndsWrong)

/-- 'lapworkslaw11.FineWithdraw': WHATEVER THE INPUT: true; the input reads as it did. -/
def fineWithdrawSpec : ChangeSpec := { name := "fineWithdraw", fn := fun _ => fun
  | [d1, d2, d3, d4] => { results := [.lit (.bool true)], args := [d1, d2, d3, d4] }
  | _ => none }
def fineWithdrawRow : OpenClaim := { program := "ytjmobepipfbbnaa", sum := "7c60ada295e5a9dceadcf24c2d6c91468d12287ed9abf750d5a690b4d4a488e4", func := "lapworks/lapworkslaw11.FineWithdraw", spec := "fineWithdraw", unfollowed := true, recurses := true, plainKeys := false, apart := false }
def FineWithdrawSaid : Prop := fineWithdrawRow.holds Try.pinned (OpenSpec.ofChange fineWithdrawSpec)

/-- ITS FALSE NEIGHBOUR: 'it returns false'. Refute it at one input. -/
def fineWithdrawWrong : ChangeSpec := { name := "fineWithdraw", fn := fun _ => fun
  | [d1, d2, d3, d4] => { results := [.lit (.bool false)], args := [d1, d2, d3, d4] }
  | _ => none }
def FineWithdrawWrongFalsely : Prop := fineWithdrawRow.holds Try.pinned (OpenSpec.ofChange fineWithdrawWrong)

/-- 'lapworkslaw11.FineMore': WHATEVER THE INPUT: true; the input reads as it did. -/
def fineMoreSpec : ChangeSpec := { name := "fineMore", fn := fun _ => fun
  | [d1, d2, d3, d4] => { results := [.lit (.bool true)], args := [d1, d2, d3, d4] }
  | _ => none }
def fineMoreRow : OpenClaim := { program := "ytjmobepipfbbnaa", sum := "7c60ada295e5a9dceadcf24c2d6c91468d12287ed9abf750d5a690b4d4a488e4", func := "lapworks/lapworkslaw11.FineMore", spec := "fineMore", unfollowed := true, recurses := true, plainKeys := false, apart := false }
def FineMoreSaid : Prop := fineMoreRow.holds Try.pinned (OpenSpec.ofChange fineMoreSpec)

/-- ITS FALSE NEIGHBOUR: 'it returns false'. Refute it at one input. -/
def fineMoreWrong : ChangeSpec := { name := "fineMore", fn := fun _ => fun
  | [d1, d2, d3, d4] => { results := [.lit (.bool false)], args := [d1, d2, d3, d4] }
  | _ => none }
def FineMoreWrongFalsely : Prop := fineMoreRow.holds Try.pinned (OpenSpec.ofChange fineMoreWrong)

/-- 'lapworkslaw11.FineTurned': WHATEVER THE INPUT: true; the input reads as it did. -/
def fineTurnedSpec : ChangeSpec := { name := "fineTurned", fn := fun _ => fun
  | [d1, d2, d3] => { results := [.lit (.bool true)], args := [d1, d2, d3] }
  | _ => none }
def fineTurnedRow : OpenClaim := { program := "ytjmobepipfbbnaa", sum := "7c60ada295e5a9dceadcf24c2d6c91468d12287ed9abf750d5a690b4d4a488e4", func := "lapworks/lapworkslaw11.FineTurned", spec := "fineTurned", unfollowed := true, recurses := true, plainKeys := false, apart := false }
def FineTurnedSaid : Prop := fineTurnedRow.holds Try.pinned (OpenSpec.ofChange fineTurnedSpec)

/-- ITS FALSE NEIGHBOUR: 'it returns false'. Refute it at one input. -/
def fineTurnedWrong : ChangeSpec := { name := "fineTurned", fn := fun _ => fun
  | [d1, d2, d3] => { results := [.lit (.bool false)], args := [d1, d2, d3] }
  | _ => none }
def FineTurnedWrongFalsely : Prop := fineTurnedRow.holds Try.pinned (OpenSpec.ofChange fineTurnedWrong)

/- THE SECOND FORM. 'bulk': how many values and letters a reading holds, each counted each time it is reached (what is shared counts as often as it is met; a slice's spare places count too). A statement '..UptoSaid' is the law's where the arguments, and the package variables that the reading takes, are together of bulk at most 1048576: NARROWER than '..Said'. Prove '..Said' where nothing that the law and all that it calls make is longer than what came in: it says more and counts as full. Else prove '..UptoSaid'. A law counts once. -/
mutual
def uptoBulk {H : Type} : DataW H → Nat
  | .lit (.string bytes) => bytes.length + 1
  | .lit _ => 1
  | .nil => 1
  | .ptr d => uptoBulk d + 1
  | .slice elems spare => uptoBulkAll elems + uptoBulkAll spare + 1
  | .agg parts => uptoBulkAll parts + 1
  | .iface _ d => uptoBulk d + 1
  | .map entries => uptoBulkEntries entries + 1
  | .held _ => 1
def uptoBulkAll {H : Type} : List (DataW H) → Nat
  | [] => 0
  | d :: r => uptoBulk d + uptoBulkAll r
def uptoBulkEntries {H : Type} : List (Lit × DataW H) → Nat
  | [] => 0
  | x :: r => uptoBulkEntry x + uptoBulkEntries r
def uptoBulkEntry {H : Type} : Lit × DataW H → Nat
  | (.string bytes, d) => bytes.length + uptoBulk d + 1
  | (_, d) => uptoBulk d + 1
 end
def uptoSmall : (H : Type) → List (DataW H) → Bool := fun _ ds => decide (uptoBulkAll ds ≤ 1048576)
def OpenSpec.upto (s : _root_.Go.ChangeSpec) : _root_.Go.OpenSpec := { _root_.Go.OpenSpec.ofChange s with cond := some uptoSmall }

/-- 'lapworkslaw11.FineTells', WHERE WHAT IT READS IS OF BULK AT MOST 1048576: true; the input reads as it did. -/
def fineTellsUptoRow : OpenClaim := { program := "ytjmobepipfbbnaa", sum := "7c60ada295e5a9dceadcf24c2d6c91468d12287ed9abf750d5a690b4d4a488e4", func := "lapworks/lapworkslaw11.FineTells", spec := "fineTells", unfollowed := true, recurses := true, plainKeys := false, apart := false, narrowed := true }
def FineTellsUptoSaid : Prop := fineTellsUptoRow.holds Try.pinned (OpenSpec.upto fineTellsSpec)

/-- 'lapworkslaw11.FineDrops', WHERE WHAT IT READS IS OF BULK AT MOST 1048576: true; the input reads as it did. -/
def fineDropsUptoRow : OpenClaim := { program := "ytjmobepipfbbnaa", sum := "7c60ada295e5a9dceadcf24c2d6c91468d12287ed9abf750d5a690b4d4a488e4", func := "lapworks/lapworkslaw11.FineDrops", spec := "fineDrops", unfollowed := true, recurses := true, plainKeys := false, apart := false, narrowed := true }
def FineDropsUptoSaid : Prop := fineDropsUptoRow.holds Try.pinned (OpenSpec.upto fineDropsSpec)

/-- 'lapworkslaw11.FineNames', WHERE WHAT IT READS IS OF BULK AT MOST 1048576: true; the input reads as it did. -/
def fineNamesUptoRow : OpenClaim := { program := "ytjmobepipfbbnaa", sum := "7c60ada295e5a9dceadcf24c2d6c91468d12287ed9abf750d5a690b4d4a488e4", func := "lapworks/lapworkslaw11.FineNames", spec := "fineNames", unfollowed := true, recurses := true, plainKeys := false, apart := false, narrowed := true }
def FineNamesUptoSaid : Prop := fineNamesUptoRow.holds Try.pinned (OpenSpec.upto fineNamesSpec)

/-- 'lapworkslaw11.FineTrue', WHERE WHAT IT READS IS OF BULK AT MOST 1048576: true; the input reads as it did. -/
def fineTrueUptoRow : OpenClaim := { program := "ytjmobepipfbbnaa", sum := "7c60ada295e5a9dceadcf24c2d6c91468d12287ed9abf750d5a690b4d4a488e4", func := "lapworks/lapworkslaw11.FineTrue", spec := "fineTrue", unfollowed := true, recurses := true, plainKeys := false, apart := false, narrowed := true }
def FineTrueUptoSaid : Prop := fineTrueUptoRow.holds Try.pinned (OpenSpec.upto fineTrueSpec)

/-- 'lapworkslaw11.FineExact', WHERE WHAT IT READS IS OF BULK AT MOST 1048576: true; the input reads as it did. -/
def fineExactUptoRow : OpenClaim := { program := "ytjmobepipfbbnaa", sum := "7c60ada295e5a9dceadcf24c2d6c91468d12287ed9abf750d5a690b4d4a488e4", func := "lapworks/lapworkslaw11.FineExact", spec := "fineExact", unfollowed := true, recurses := true, plainKeys := false, apart := false, narrowed := true }
def FineExactUptoSaid : Prop := fineExactUptoRow.holds Try.pinned (OpenSpec.upto fineExactSpec)

/-- 'lapworkslaw11.FineEnds', WHERE WHAT IT READS IS OF BULK AT MOST 1048576: true; the input reads as it did. -/
def fineEndsUptoRow : OpenClaim := { program := "ytjmobepipfbbnaa", sum := "7c60ada295e5a9dceadcf24c2d6c91468d12287ed9abf750d5a690b4d4a488e4", func := "lapworks/lapworkslaw11.FineEnds", spec := "fineEnds", unfollowed := true, recurses := true, plainKeys := false, apart := false, narrowed := true }
def FineEndsUptoSaid : Prop := fineEndsUptoRow.holds Try.pinned (OpenSpec.upto fineEndsSpec)

/-- 'lapworkslaw11.FineWithdraw', WHERE WHAT IT READS IS OF BULK AT MOST 1048576: true; the input reads as it did. -/
def fineWithdrawUptoRow : OpenClaim := { program := "ytjmobepipfbbnaa", sum := "7c60ada295e5a9dceadcf24c2d6c91468d12287ed9abf750d5a690b4d4a488e4", func := "lapworks/lapworkslaw11.FineWithdraw", spec := "fineWithdraw", unfollowed := true, recurses := true, plainKeys := false, apart := false, narrowed := true }
def FineWithdrawUptoSaid : Prop := fineWithdrawUptoRow.holds Try.pinned (OpenSpec.upto fineWithdrawSpec)

/-- 'lapworkslaw11.FineMore', WHERE WHAT IT READS IS OF BULK AT MOST 1048576: true; the input reads as it did. -/
def fineMoreUptoRow : OpenClaim := { program := "ytjmobepipfbbnaa", sum := "7c60ada295e5a9dceadcf24c2d6c91468d12287ed9abf750d5a690b4d4a488e4", func := "lapworks/lapworkslaw11.FineMore", spec := "fineMore", unfollowed := true, recurses := true, plainKeys := false, apart := false, narrowed := true }
def FineMoreUptoSaid : Prop := fineMoreUptoRow.holds Try.pinned (OpenSpec.upto fineMoreSpec)

/-- 'lapworkslaw11.FineTurned', WHERE WHAT IT READS IS OF BULK AT MOST 1048576: true; the input reads as it did. -/
def fineTurnedUptoRow : OpenClaim := { program := "ytjmobepipfbbnaa", sum := "7c60ada295e5a9dceadcf24c2d6c91468d12287ed9abf750d5a690b4d4a488e4", func := "lapworks/lapworkslaw11.FineTurned", spec := "fineTurned", unfollowed := true, recurses := true, plainKeys := false, apart := false, narrowed := true }
def FineTurnedUptoSaid : Prop := fineTurnedUptoRow.holds Try.pinned (OpenSpec.upto fineTurnedSpec)

end Rows
end Go.Proofs.Ytjmobepipfbbnaa
