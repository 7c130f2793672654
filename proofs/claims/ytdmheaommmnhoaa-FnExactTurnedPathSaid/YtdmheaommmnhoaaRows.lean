/-
  No cell of these rows narrows 'for every input' (looked for: loops, veiled, ifaces, maps, wideKeys, modest, calm, conditions, laid).
  DERIVED. THE GIVEN ROWS OF THIS SEAT. 12 by the template 'for every input the law returns true; each argument reads behind the call as it read before'; 0 by the template 'total and deterministic' (their statements: YtdmheaommmnhoaaTotals.lean).
  GIVEN WITH THE SEED: the statements are not yours to turn. If you find one false, say at which input.
  Laid BY PROGRAM, IN A SANDBOX (cutbox-rows.mjs): the forced cells as the released guide's own fill.sh prints them over the translation c233785db1321551… (all of the seat's roots in one cut). By AI agents, Wed Nov 11 2026. No macro, syntax, notation, axiom, sorry.
-/
import Derived.Test.YtdmheaommmnhoaaChecked
import GoSem.Claim
import GoSem.ClaimJoined
import GoSem.ClaimMapViews
import Derived.JoinedTies
import Derived.KernelRfl
namespace Go.Proofs.Ytdmheaommmnhoaa
/- THE CELL 'sum', in the pinned program and in every row, IS THE sha256 OF THE DUMP (.gsa) THAT YtdmheaommmnhoaaProg.lean LOADS. Nothing in Lean hashes anything: it is a label: what it is worth is what the hold of that sum in a sandbox is worth. -/
noncomputable def Try.pinned : Pinned := { name := "ytdmheaommmnhoaa", sum := "c233785db13215512274679d59f12910f0fe6b7ddc93d980b7220a9a18926b84", checked := Try.checked }
namespace Rows
def none {H : Type} : Left H := { results := [], args := [] }

/-- 'laws.FnExactPathOk': WHATEVER THE INPUT: true; the input reads as it did. -/
def fnExactPathOkSpec : ChangeSpec := { name := "fnExactPathOk", fn := fun _ => fun
  | [d] => { results := [.lit (.bool true)], args := [d] }
  | _ => none }
def fnExactPathOkRow : OpenClaim := { program := "ytdmheaommmnhoaa", sum := "c233785db13215512274679d59f12910f0fe6b7ddc93d980b7220a9a18926b84", func := "loop.example/g00250/laws.FnExactPathOk", spec := "fnExactPathOk", apart := false }
def FnExactPathOkSaid : Prop := fnExactPathOkRow.holds Try.pinned (OpenSpec.ofChange fnExactPathOkSpec)

/-- ITS FALSE NEIGHBOUR: 'it returns false'. Refute it at one input. -/
def fnExactPathOkWrong : ChangeSpec := { name := "fnExactPathOk", fn := fun _ => fun
  | [d] => { results := [.lit (.bool false)], args := [d] }
  | _ => none }
def FnExactPathOkWrongFalsely : Prop := fnExactPathOkRow.holds Try.pinned (OpenSpec.ofChange fnExactPathOkWrong)

/-- 'laws.FnExactStepOnly': WHATEVER THE INPUT: true; the input reads as it did. -/
def fnExactStepOnlySpec : ChangeSpec := { name := "fnExactStepOnly", fn := fun _ => fun
  | [d] => { results := [.lit (.bool true)], args := [d] }
  | _ => none }
def fnExactStepOnlyRow : OpenClaim := { program := "ytdmheaommmnhoaa", sum := "c233785db13215512274679d59f12910f0fe6b7ddc93d980b7220a9a18926b84", func := "loop.example/g00250/laws.FnExactStepOnly", spec := "fnExactStepOnly", apart := false }
def FnExactStepOnlySaid : Prop := fnExactStepOnlyRow.holds Try.pinned (OpenSpec.ofChange fnExactStepOnlySpec)

/-- ITS FALSE NEIGHBOUR: 'it returns false'. Refute it at one input. -/
def fnExactStepOnlyWrong : ChangeSpec := { name := "fnExactStepOnly", fn := fun _ => fun
  | [d] => { results := [.lit (.bool false)], args := [d] }
  | _ => none }
def FnExactStepOnlyWrongFalsely : Prop := fnExactStepOnlyRow.holds Try.pinned (OpenSpec.ofChange fnExactStepOnlyWrong)

/-- 'laws.FnExactTurnedPath': WHATEVER THE INPUT: true; the input reads as it did. -/
def fnExactTurnedPathSpec : ChangeSpec := { name := "fnExactTurnedPath", fn := fun _ => fun
  | [d] => { results := [.lit (.bool true)], args := [d] }
  | _ => none }
def fnExactTurnedPathRow : OpenClaim := { program := "ytdmheaommmnhoaa", sum := "c233785db13215512274679d59f12910f0fe6b7ddc93d980b7220a9a18926b84", func := "loop.example/g00250/laws.FnExactTurnedPath", spec := "fnExactTurnedPath", apart := false }
def FnExactTurnedPathSaid : Prop := fnExactTurnedPathRow.holds Try.pinned (OpenSpec.ofChange fnExactTurnedPathSpec)

/-- ITS FALSE NEIGHBOUR: 'it returns false'. Refute it at one input. -/
def fnExactTurnedPathWrong : ChangeSpec := { name := "fnExactTurnedPath", fn := fun _ => fun
  | [d] => { results := [.lit (.bool false)], args := [d] }
  | _ => none }
def FnExactTurnedPathWrongFalsely : Prop := fnExactTurnedPathRow.holds Try.pinned (OpenSpec.ofChange fnExactTurnedPathWrong)

/-- 'laws.FnExactNfaOk': WHATEVER THE INPUT: true; the input reads as it did. -/
def fnExactNfaOkSpec : ChangeSpec := { name := "fnExactNfaOk", fn := fun _ => fun
  | [d] => { results := [.lit (.bool true)], args := [d] }
  | _ => none }
def fnExactNfaOkRow : OpenClaim := { program := "ytdmheaommmnhoaa", sum := "c233785db13215512274679d59f12910f0fe6b7ddc93d980b7220a9a18926b84", func := "loop.example/g00250/laws.FnExactNfaOk", spec := "fnExactNfaOk", apart := false }
def FnExactNfaOkSaid : Prop := fnExactNfaOkRow.holds Try.pinned (OpenSpec.ofChange fnExactNfaOkSpec)

/-- ITS FALSE NEIGHBOUR: 'it returns false'. Refute it at one input. -/
def fnExactNfaOkWrong : ChangeSpec := { name := "fnExactNfaOk", fn := fun _ => fun
  | [d] => { results := [.lit (.bool false)], args := [d] }
  | _ => none }
def FnExactNfaOkWrongFalsely : Prop := fnExactNfaOkRow.holds Try.pinned (OpenSpec.ofChange fnExactNfaOkWrong)

/-- 'laws.FnExactOneWay': WHATEVER THE INPUT: true; the input reads as it did. -/
def fnExactOneWaySpec : ChangeSpec := { name := "fnExactOneWay", fn := fun _ => fun
  | [d] => { results := [.lit (.bool true)], args := [d] }
  | _ => none }
def fnExactOneWayRow : OpenClaim := { program := "ytdmheaommmnhoaa", sum := "c233785db13215512274679d59f12910f0fe6b7ddc93d980b7220a9a18926b84", func := "loop.example/g00250/laws.FnExactOneWay", spec := "fnExactOneWay", apart := false }
def FnExactOneWaySaid : Prop := fnExactOneWayRow.holds Try.pinned (OpenSpec.ofChange fnExactOneWaySpec)

/-- ITS FALSE NEIGHBOUR: 'it returns false'. Refute it at one input. -/
def fnExactOneWayWrong : ChangeSpec := { name := "fnExactOneWay", fn := fun _ => fun
  | [d] => { results := [.lit (.bool false)], args := [d] }
  | _ => none }
def FnExactOneWayWrongFalsely : Prop := fnExactOneWayRow.holds Try.pinned (OpenSpec.ofChange fnExactOneWayWrong)

/-- 'laws.FnExactNfaTakes': WHATEVER THE INPUT: true; the input reads as it did. -/
def fnExactNfaTakesSpec : ChangeSpec := { name := "fnExactNfaTakes", fn := fun _ => fun
  | [d1, d2] => { results := [.lit (.bool true)], args := [d1, d2] }
  | _ => none }
def fnExactNfaTakesRow : OpenClaim := { program := "ytdmheaommmnhoaa", sum := "c233785db13215512274679d59f12910f0fe6b7ddc93d980b7220a9a18926b84", func := "loop.example/g00250/laws.FnExactNfaTakes", spec := "fnExactNfaTakes", apart := false }
def FnExactNfaTakesSaid : Prop := fnExactNfaTakesRow.holds Try.pinned (OpenSpec.ofChange fnExactNfaTakesSpec)

/-- ITS FALSE NEIGHBOUR: 'it returns false'. Refute it at one input. -/
def fnExactNfaTakesWrong : ChangeSpec := { name := "fnExactNfaTakes", fn := fun _ => fun
  | [d1, d2] => { results := [.lit (.bool false)], args := [d1, d2] }
  | _ => none }
def FnExactNfaTakesWrongFalsely : Prop := fnExactNfaTakesRow.holds Try.pinned (OpenSpec.ofChange fnExactNfaTakesWrong)

/-- 'laws.FnExactDfaOf': WHATEVER THE INPUT: true; the input reads as it did. -/
def fnExactDfaOfSpec : ChangeSpec := { name := "fnExactDfaOf", fn := fun _ => fun
  | [d] => { results := [.lit (.bool true)], args := [d] }
  | _ => none }
def fnExactDfaOfRow : OpenClaim := { program := "ytdmheaommmnhoaa", sum := "c233785db13215512274679d59f12910f0fe6b7ddc93d980b7220a9a18926b84", func := "loop.example/g00250/laws.FnExactDfaOf", spec := "fnExactDfaOf", apart := false }
def FnExactDfaOfSaid : Prop := fnExactDfaOfRow.holds Try.pinned (OpenSpec.ofChange fnExactDfaOfSpec)

/-- ITS FALSE NEIGHBOUR: 'it returns false'. Refute it at one input. -/
def fnExactDfaOfWrong : ChangeSpec := { name := "fnExactDfaOf", fn := fun _ => fun
  | [d] => { results := [.lit (.bool false)], args := [d] }
  | _ => none }
def FnExactDfaOfWrongFalsely : Prop := fnExactDfaOfRow.holds Try.pinned (OpenSpec.ofChange fnExactDfaOfWrong)

/-- 'laws.FnExactSameWords': WHATEVER THE INPUT: true; the input reads as it did. -/
def fnExactSameWordsSpec : ChangeSpec := { name := "fnExactSameWords", fn := fun _ => fun
  | [d1, d2] => { results := [.lit (.bool true)], args := [d1, d2] }
  | _ => none }
def fnExactSameWordsRow : OpenClaim := { program := "ytdmheaommmnhoaa", sum := "c233785db13215512274679d59f12910f0fe6b7ddc93d980b7220a9a18926b84", func := "loop.example/g00250/laws.FnExactSameWords", spec := "fnExactSameWords", recurses := true, apart := false }
def FnExactSameWordsSaid : Prop := fnExactSameWordsRow.holds Try.pinned (OpenSpec.ofChange fnExactSameWordsSpec)

/-- ITS FALSE NEIGHBOUR: 'it returns false'. Refute it at one input. -/
def fnExactSameWordsWrong : ChangeSpec := { name := "fnExactSameWords", fn := fun _ => fun
  | [d1, d2] => { results := [.lit (.bool false)], args := [d1, d2] }
  | _ => none }
def FnExactSameWordsWrongFalsely : Prop := fnExactSameWordsRow.holds Try.pinned (OpenSpec.ofChange fnExactSameWordsWrong)

/-- 'laws.FnExactNfaPairs': WHATEVER THE INPUT: true; the input reads as it did. -/
def fnExactNfaPairsSpec : ChangeSpec := { name := "fnExactNfaPairs", fn := fun _ => fun
  | [d1, d2] => { results := [.lit (.bool true)], args := [d1, d2] }
  | _ => none }
def fnExactNfaPairsRow : OpenClaim := { program := "ytdmheaommmnhoaa", sum := "c233785db13215512274679d59f12910f0fe6b7ddc93d980b7220a9a18926b84", func := "loop.example/g00250/laws.FnExactNfaPairs", spec := "fnExactNfaPairs", apart := false }
def FnExactNfaPairsSaid : Prop := fnExactNfaPairsRow.holds Try.pinned (OpenSpec.ofChange fnExactNfaPairsSpec)

/-- ITS FALSE NEIGHBOUR: 'it returns false'. Refute it at one input. -/
def fnExactNfaPairsWrong : ChangeSpec := { name := "fnExactNfaPairs", fn := fun _ => fun
  | [d1, d2] => { results := [.lit (.bool false)], args := [d1, d2] }
  | _ => none }
def FnExactNfaPairsWrongFalsely : Prop := fnExactNfaPairsRow.holds Try.pinned (OpenSpec.ofChange fnExactNfaPairsWrong)

/-- 'laws.FnExactPathTakes': WHATEVER THE INPUT: true; the input reads as it did. -/
def fnExactPathTakesSpec : ChangeSpec := { name := "fnExactPathTakes", fn := fun _ => fun
  | [d1, d2] => { results := [.lit (.bool true)], args := [d1, d2] }
  | _ => none }
def fnExactPathTakesRow : OpenClaim := { program := "ytdmheaommmnhoaa", sum := "c233785db13215512274679d59f12910f0fe6b7ddc93d980b7220a9a18926b84", func := "loop.example/g00250/laws.FnExactPathTakes", spec := "fnExactPathTakes", unfollowed := true, recurses := true, apart := false }
def FnExactPathTakesSaid : Prop := fnExactPathTakesRow.holds Try.pinned (OpenSpec.ofChange fnExactPathTakesSpec)

/-- ITS FALSE NEIGHBOUR: 'it returns false'. Refute it at one input. -/
def fnExactPathTakesWrong : ChangeSpec := { name := "fnExactPathTakes", fn := fun _ => fun
  | [d1, d2] => { results := [.lit (.bool false)], args := [d1, d2] }
  | _ => none }
def FnExactPathTakesWrongFalsely : Prop := fnExactPathTakesRow.holds Try.pinned (OpenSpec.ofChange fnExactPathTakesWrong)

/-- 'laws.FnExactPathEnds': WHATEVER THE INPUT: true; the input reads as it did. -/
def fnExactPathEndsSpec : ChangeSpec := { name := "fnExactPathEnds", fn := fun _ => fun
  | [d1, d2, d3] => { results := [.lit (.bool true)], args := [d1, d2, d3] }
  | _ => none }
def fnExactPathEndsRow : OpenClaim := { program := "ytdmheaommmnhoaa", sum := "c233785db13215512274679d59f12910f0fe6b7ddc93d980b7220a9a18926b84", func := "loop.example/g00250/laws.FnExactPathEnds", spec := "fnExactPathEnds", unfollowed := true, recurses := true, apart := false }
def FnExactPathEndsSaid : Prop := fnExactPathEndsRow.holds Try.pinned (OpenSpec.ofChange fnExactPathEndsSpec)

/-- ITS FALSE NEIGHBOUR: 'it returns false'. Refute it at one input. -/
def fnExactPathEndsWrong : ChangeSpec := { name := "fnExactPathEnds", fn := fun _ => fun
  | [d1, d2, d3] => { results := [.lit (.bool false)], args := [d1, d2, d3] }
  | _ => none }
def FnExactPathEndsWrongFalsely : Prop := fnExactPathEndsRow.holds Try.pinned (OpenSpec.ofChange fnExactPathEndsWrong)

/-- 'laws.FnExactPathPairs': WHATEVER THE INPUT: true; the input reads as it did. -/
def fnExactPathPairsSpec : ChangeSpec := { name := "fnExactPathPairs", fn := fun _ => fun
  | [d1, d2] => { results := [.lit (.bool true)], args := [d1, d2] }
  | _ => none }
def fnExactPathPairsRow : OpenClaim := { program := "ytdmheaommmnhoaa", sum := "c233785db13215512274679d59f12910f0fe6b7ddc93d980b7220a9a18926b84", func := "loop.example/g00250/laws.FnExactPathPairs", spec := "fnExactPathPairs", unfollowed := true, recurses := true, apart := false }
def FnExactPathPairsSaid : Prop := fnExactPathPairsRow.holds Try.pinned (OpenSpec.ofChange fnExactPathPairsSpec)

/-- ITS FALSE NEIGHBOUR: 'it returns false'. Refute it at one input. -/
def fnExactPathPairsWrong : ChangeSpec := { name := "fnExactPathPairs", fn := fun _ => fun
  | [d1, d2] => { results := [.lit (.bool false)], args := [d1, d2] }
  | _ => none }
def FnExactPathPairsWrongFalsely : Prop := fnExactPathPairsRow.holds Try.pinned (OpenSpec.ofChange fnExactPathPairsWrong)

/- THE SECOND FORM. 'bulk': how many values and letters a reading holds, each counted each time it is reached (what is shared counts as often as it is met; a slice's spare places count too). A statement '..UptoSaid' is the law's where the arguments, and the package variables that the reading takes, are together of bulk at most 1048576: NARROWER than '..Said'. Prove '..Said' where nothing that the law and all that it calls make is longer than what came in: it says more and counts as full. Else prove '..UptoSaid'. A law counts once. -/
mutual
def uptoBulk {H : Type} : DataW H → Nat
  | .lit (.string bytes) => bytes.length + 1
  | .lit _ => 1
  | .nil => 1
  | .ptr d => uptoBulk d + 1
  | .slice elems spare => uptoBulkAll elems + uptoBulkAll spare + 1
  | .agg parts => uptoBulkAll parts + 1
  | .iface _ d => uptoBulk d + 1
  | .map entries => uptoBulkEntries entries + 1
  | .held _ => 1
def uptoBulkAll {H : Type} : List (DataW H) → Nat
  | [] => 0
  | d :: r => uptoBulk d + uptoBulkAll r
def uptoBulkEntries {H : Type} : List (Lit × DataW H) → Nat
  | [] => 0
  | x :: r => uptoBulkEntry x + uptoBulkEntries r
def uptoBulkEntry {H : Type} : Lit × DataW H → Nat
  | (.string bytes, d) => bytes.length + uptoBulk d + 1
  | (_, d) => uptoBulk d + 1
 end
def uptoSmall : (H : Type) → List (DataW H) → Bool := fun _ ds => decide (uptoBulkAll ds ≤ 1048576)
def OpenSpec.upto (s : _root_.Go.ChangeSpec) : _root_.Go.OpenSpec := { _root_.Go.OpenSpec.ofChange s with cond := some uptoSmall }

/-- 'laws.FnExactPathOk', WHERE WHAT IT READS IS OF BULK AT MOST 1048576: true; the input reads as it did. -/
def fnExactPathOkUptoRow : OpenClaim := { program := "ytdmheaommmnhoaa", sum := "c233785db13215512274679d59f12910f0fe6b7ddc93d980b7220a9a18926b84", func := "loop.example/g00250/laws.FnExactPathOk", spec := "fnExactPathOk", apart := false, narrowed := true }
def FnExactPathOkUptoSaid : Prop := fnExactPathOkUptoRow.holds Try.pinned (OpenSpec.upto fnExactPathOkSpec)

/-- 'laws.FnExactStepOnly', WHERE WHAT IT READS IS OF BULK AT MOST 1048576: true; the input reads as it did. -/
def fnExactStepOnlyUptoRow : OpenClaim := { program := "ytdmheaommmnhoaa", sum := "c233785db13215512274679d59f12910f0fe6b7ddc93d980b7220a9a18926b84", func := "loop.example/g00250/laws.FnExactStepOnly", spec := "fnExactStepOnly", apart := false, narrowed := true }
def FnExactStepOnlyUptoSaid : Prop := fnExactStepOnlyUptoRow.holds Try.pinned (OpenSpec.upto fnExactStepOnlySpec)

/-- 'laws.FnExactTurnedPath', WHERE WHAT IT READS IS OF BULK AT MOST 1048576: true; the input reads as it did. -/
def fnExactTurnedPathUptoRow : OpenClaim := { program := "ytdmheaommmnhoaa", sum := "c233785db13215512274679d59f12910f0fe6b7ddc93d980b7220a9a18926b84", func := "loop.example/g00250/laws.FnExactTurnedPath", spec := "fnExactTurnedPath", apart := false, narrowed := true }
def FnExactTurnedPathUptoSaid : Prop := fnExactTurnedPathUptoRow.holds Try.pinned (OpenSpec.upto fnExactTurnedPathSpec)

/-- 'laws.FnExactNfaOk', WHERE WHAT IT READS IS OF BULK AT MOST 1048576: true; the input reads as it did. -/
def fnExactNfaOkUptoRow : OpenClaim := { program := "ytdmheaommmnhoaa", sum := "c233785db13215512274679d59f12910f0fe6b7ddc93d980b7220a9a18926b84", func := "loop.example/g00250/laws.FnExactNfaOk", spec := "fnExactNfaOk", apart := false, narrowed := true }
def FnExactNfaOkUptoSaid : Prop := fnExactNfaOkUptoRow.holds Try.pinned (OpenSpec.upto fnExactNfaOkSpec)

/-- 'laws.FnExactOneWay', WHERE WHAT IT READS IS OF BULK AT MOST 1048576: true; the input reads as it did. -/
def fnExactOneWayUptoRow : OpenClaim := { program := "ytdmheaommmnhoaa", sum := "c233785db13215512274679d59f12910f0fe6b7ddc93d980b7220a9a18926b84", func := "loop.example/g00250/laws.FnExactOneWay", spec := "fnExactOneWay", apart := false, narrowed := true }
def FnExactOneWayUptoSaid : Prop := fnExactOneWayUptoRow.holds Try.pinned (OpenSpec.upto fnExactOneWaySpec)

/-- 'laws.FnExactNfaTakes', WHERE WHAT IT READS IS OF BULK AT MOST 1048576: true; the input reads as it did. -/
def fnExactNfaTakesUptoRow : OpenClaim := { program := "ytdmheaommmnhoaa", sum := "c233785db13215512274679d59f12910f0fe6b7ddc93d980b7220a9a18926b84", func := "loop.example/g00250/laws.FnExactNfaTakes", spec := "fnExactNfaTakes", apart := false, narrowed := true }
def FnExactNfaTakesUptoSaid : Prop := fnExactNfaTakesUptoRow.holds Try.pinned (OpenSpec.upto fnExactNfaTakesSpec)

/-- 'laws.FnExactDfaOf', WHERE WHAT IT READS IS OF BULK AT MOST 1048576: true; the input reads as it did. -/
def fnExactDfaOfUptoRow : OpenClaim := { program := "ytdmheaommmnhoaa", sum := "c233785db13215512274679d59f12910f0fe6b7ddc93d980b7220a9a18926b84", func := "loop.example/g00250/laws.FnExactDfaOf", spec := "fnExactDfaOf", apart := false, narrowed := true }
def FnExactDfaOfUptoSaid : Prop := fnExactDfaOfUptoRow.holds Try.pinned (OpenSpec.upto fnExactDfaOfSpec)

/-- 'laws.FnExactSameWords', WHERE WHAT IT READS IS OF BULK AT MOST 1048576: true; the input reads as it did. -/
def fnExactSameWordsUptoRow : OpenClaim := { program := "ytdmheaommmnhoaa", sum := "c233785db13215512274679d59f12910f0fe6b7ddc93d980b7220a9a18926b84", func := "loop.example/g00250/laws.FnExactSameWords", spec := "fnExactSameWords", recurses := true, apart := false, narrowed := true }
def FnExactSameWordsUptoSaid : Prop := fnExactSameWordsUptoRow.holds Try.pinned (OpenSpec.upto fnExactSameWordsSpec)

/-- 'laws.FnExactNfaPairs', WHERE WHAT IT READS IS OF BULK AT MOST 1048576: true; the input reads as it did. -/
def fnExactNfaPairsUptoRow : OpenClaim := { program := "ytdmheaommmnhoaa", sum := "c233785db13215512274679d59f12910f0fe6b7ddc93d980b7220a9a18926b84", func := "loop.example/g00250/laws.FnExactNfaPairs", spec := "fnExactNfaPairs", apart := false, narrowed := true }
def FnExactNfaPairsUptoSaid : Prop := fnExactNfaPairsUptoRow.holds Try.pinned (OpenSpec.upto fnExactNfaPairsSpec)

/-- 'laws.FnExactPathTakes', WHERE WHAT IT READS IS OF BULK AT MOST 1048576: true; the input reads as it did. -/
def fnExactPathTakesUptoRow : OpenClaim := { program := "ytdmheaommmnhoaa", sum := "c233785db13215512274679d59f12910f0fe6b7ddc93d980b7220a9a18926b84", func := "loop.example/g00250/laws.FnExactPathTakes", spec := "fnExactPathTakes", unfollowed := true, recurses := true, apart := false, narrowed := true }
def FnExactPathTakesUptoSaid : Prop := fnExactPathTakesUptoRow.holds Try.pinned (OpenSpec.upto fnExactPathTakesSpec)

/-- 'laws.FnExactPathEnds', WHERE WHAT IT READS IS OF BULK AT MOST 1048576: true; the input reads as it did. -/
def fnExactPathEndsUptoRow : OpenClaim := { program := "ytdmheaommmnhoaa", sum := "c233785db13215512274679d59f12910f0fe6b7ddc93d980b7220a9a18926b84", func := "loop.example/g00250/laws.FnExactPathEnds", spec := "fnExactPathEnds", unfollowed := true, recurses := true, apart := false, narrowed := true }
def FnExactPathEndsUptoSaid : Prop := fnExactPathEndsUptoRow.holds Try.pinned (OpenSpec.upto fnExactPathEndsSpec)

/-- 'laws.FnExactPathPairs', WHERE WHAT IT READS IS OF BULK AT MOST 1048576: true; the input reads as it did. -/
def fnExactPathPairsUptoRow : OpenClaim := { program := "ytdmheaommmnhoaa", sum := "c233785db13215512274679d59f12910f0fe6b7ddc93d980b7220a9a18926b84", func := "loop.example/g00250/laws.FnExactPathPairs", spec := "fnExactPathPairs", unfollowed := true, recurses := true, apart := false, narrowed := true }
def FnExactPathPairsUptoSaid : Prop := fnExactPathPairsUptoRow.holds Try.pinned (OpenSpec.upto fnExactPathPairsSpec)

end Rows
end Go.Proofs.Ytdmheaommmnhoaa
