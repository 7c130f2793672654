/-
  No cell of these rows narrows 'for every input' (looked for: loops, veiled, ifaces, maps, wideKeys, modest, calm, conditions, laid).
  DERIVED. THE GIVEN ROWS OF THIS SEAT. 6 by the template 'for every input the law returns true; each argument reads behind the call as it read before'; 0 by the template 'total and deterministic' (their statements: YtgpjgigmlgoiiaaTotals.lean).
  GIVEN WITH THE SEED: the statements are not yours to turn. If you find one false, say at which input.
  Laid BY PROGRAM, IN A SANDBOX (cutbox-rows.mjs): the forced cells as the released guide's own fill.sh prints them over the translation ec36050fb2ee8206… (all of the seat's roots in one cut). By AI agents, Wed Nov 11 2026. No macro, syntax, notation, axiom, sorry.
-/
import Derived.Test.YtgpjgigmlgoiiaaChecked
import GoSem.Claim
import GoSem.ClaimJoined
import GoSem.ClaimMapViews
import Derived.JoinedTies
import Derived.KernelRfl
namespace Go.Proofs.Ytgpjgigmlgoiiaa
/- THE CELL 'sum', in the pinned program and in every row, IS THE sha256 OF THE DUMP (.gsa) THAT YtgpjgigmlgoiiaaProg.lean LOADS. Nothing in Lean hashes anything: it is a label: what it is worth is what the hold of that sum in a sandbox is worth. -/
noncomputable def Try.pinned : Pinned := { name := "ytgpjgigmlgoiiaa", sum := "ec36050fb2ee820690011be780f77bd18e1f689587aa70170aa6f8b3cce8ecca", checked := Try.checked }
namespace Rows
def none {H : Type} : Left H := { results := [], args := [] }

/-- 'laws.FnExactDfaOf': WHATEVER THE INPUT: true; the input reads as it did. -/
def fnExactDfaOfSpec : ChangeSpec := { name := "fnExactDfaOf", fn := fun _ => fun
  | [d] => { results := [.lit (.bool true)], args := [d] }
  | _ => none }
def fnExactDfaOfRow : OpenClaim := { program := "ytgpjgigmlgoiiaa", sum := "ec36050fb2ee820690011be780f77bd18e1f689587aa70170aa6f8b3cce8ecca", func := "loop.example/g00250/laws.FnExactDfaOf", spec := "fnExactDfaOf", apart := false }
def FnExactDfaOfSaid : Prop := fnExactDfaOfRow.holds Try.pinned (OpenSpec.ofChange fnExactDfaOfSpec)

/-- ITS FALSE NEIGHBOUR: 'it returns false'. Refute it at one input. -/
def fnExactDfaOfWrong : ChangeSpec := { name := "fnExactDfaOf", fn := fun _ => fun
  | [d] => { results := [.lit (.bool false)], args := [d] }
  | _ => none }
def FnExactDfaOfWrongFalsely : Prop := fnExactDfaOfRow.holds Try.pinned (OpenSpec.ofChange fnExactDfaOfWrong)

/-- 'laws.FnExactSameWords': WHATEVER THE INPUT: true; the input reads as it did. -/
def fnExactSameWordsSpec : ChangeSpec := { name := "fnExactSameWords", fn := fun _ => fun
  | [d1, d2] => { results := [.lit (.bool true)], args := [d1, d2] }
  | _ => none }
def fnExactSameWordsRow : OpenClaim := { program := "ytgpjgigmlgoiiaa", sum := "ec36050fb2ee820690011be780f77bd18e1f689587aa70170aa6f8b3cce8ecca", func := "loop.example/g00250/laws.FnExactSameWords", spec := "fnExactSameWords", recurses := true, apart := false }
def FnExactSameWordsSaid : Prop := fnExactSameWordsRow.holds Try.pinned (OpenSpec.ofChange fnExactSameWordsSpec)

/-- ITS FALSE NEIGHBOUR: 'it returns false'. Refute it at one input. -/
def fnExactSameWordsWrong : ChangeSpec := { name := "fnExactSameWords", fn := fun _ => fun
  | [d1, d2] => { results := [.lit (.bool false)], args := [d1, d2] }
  | _ => none }
def FnExactSameWordsWrongFalsely : Prop := fnExactSameWordsRow.holds Try.pinned (OpenSpec.ofChange fnExactSameWordsWrong)

/-- 'laws.FnExactNfaPairs': WHATEVER THE INPUT: true; the input reads as it did. -/
def fnExactNfaPairsSpec : ChangeSpec := { name := "fnExactNfaPairs", fn := fun _ => fun
  | [d1, d2] => { results := [.lit (.bool true)], args := [d1, d2] }
  | _ => none }
def fnExactNfaPairsRow : OpenClaim := { program := "ytgpjgigmlgoiiaa", sum := "ec36050fb2ee820690011be780f77bd18e1f689587aa70170aa6f8b3cce8ecca", func := "loop.example/g00250/laws.FnExactNfaPairs", spec := "fnExactNfaPairs", apart := false }
def FnExactNfaPairsSaid : Prop := fnExactNfaPairsRow.holds Try.pinned (OpenSpec.ofChange fnExactNfaPairsSpec)

/-- ITS FALSE NEIGHBOUR: 'it returns false'. Refute it at one input. -/
def fnExactNfaPairsWrong : ChangeSpec := { name := "fnExactNfaPairs", fn := fun _ => fun
  | [d1, d2] => { results := [.lit (.bool false)], args := [d1, d2] }
  | _ => none }
def FnExactNfaPairsWrongFalsely : Prop := fnExactNfaPairsRow.holds Try.pinned (OpenSpec.ofChange fnExactNfaPairsWrong)

/-- 'laws.FnExactPathTakes': WHATEVER THE INPUT: true; the input reads as it did. -/
def fnExactPathTakesSpec : ChangeSpec := { name := "fnExactPathTakes", fn := fun _ => fun
  | [d1, d2] => { results := [.lit (.bool true)], args := [d1, d2] }
  | _ => none }
def fnExactPathTakesRow : OpenClaim := { program := "ytgpjgigmlgoiiaa", sum := "ec36050fb2ee820690011be780f77bd18e1f689587aa70170aa6f8b3cce8ecca", func := "loop.example/g00250/laws.FnExactPathTakes", spec := "fnExactPathTakes", unfollowed := true, recurses := true, apart := false }
def FnExactPathTakesSaid : Prop := fnExactPathTakesRow.holds Try.pinned (OpenSpec.ofChange fnExactPathTakesSpec)

/-- ITS FALSE NEIGHBOUR: 'it returns false'. Refute it at one input. -/
def fnExactPathTakesWrong : ChangeSpec := { name := "fnExactPathTakes", fn := fun _ => fun
  | [d1, d2] => { results := [.lit (.bool false)], args := [d1, d2] }
  | _ => none }
def FnExactPathTakesWrongFalsely : Prop := fnExactPathTakesRow.holds Try.pinned (OpenSpec.ofChange fnExactPathTakesWrong)

/-- 'laws.FnExactPathEnds': WHATEVER THE INPUT: true; the input reads as it did. -/
def fnExactPathEndsSpec : ChangeSpec := { name := "fnExactPathEnds", fn := fun _ => fun
  | [d1, d2, d3] => { results := [.lit (.bool true)], args := [d1, d2, d3] }
  | _ => none }
def fnExactPathEndsRow : OpenClaim := { program := "ytgpjgigmlgoiiaa", sum := "ec36050fb2ee820690011be780f77bd18e1f689587aa70170aa6f8b3cce8ecca", func := "loop.example/g00250/laws.FnExactPathEnds", spec := "fnExactPathEnds", unfollowed := true, recurses := true, apart := false }
def FnExactPathEndsSaid : Prop := fnExactPathEndsRow.holds Try.pinned (OpenSpec.ofChange fnExactPathEndsSpec)

/-- ITS FALSE NEIGHBOUR: 'it returns false'. Refute it at one input. -/
def fnExactPathEndsWrong : ChangeSpec := { name := "fnExactPathEnds", fn := fun _ => fun
  | [d1, d2, d3] => { results := [.lit (.bool false)], args := [d1, d2, d3] }
  | _ => none }
def FnExactPathEndsWrongFalsely : Prop := fnExactPathEndsRow.holds Try.pinned (OpenSpec.ofChange fnExactPathEndsWrong)

/-- 'laws.FnExactPathPairs': WHATEVER THE INPUT: true; the input reads as it did. -/
def fnExactPathPairsSpec : ChangeSpec := { name := "fnExactPathPairs", fn := fun _ => fun
  | [d1, d2] => { results := [.lit (.bool true)], args := [d1, d2] }
  | _ => none }
def fnExactPathPairsRow : OpenClaim := { program := "ytgpjgigmlgoiiaa", sum := "ec36050fb2ee820690011be780f77bd18e1f689587aa70170aa6f8b3cce8ecca", func := "loop.example/g00250/laws.FnExactPathPairs", spec := "fnExactPathPairs", unfollowed := true, recurses := true, apart := false }
def FnExactPathPairsSaid : Prop := fnExactPathPairsRow.holds Try.pinned (OpenSpec.ofChange fnExactPathPairsSpec)

/-- ITS FALSE NEIGHBOUR: 'it returns false'. Refute it at one input. -/
def fnExactPathPairsWrong : ChangeSpec := { name := "fnExactPathPairs", fn := fun _ => fun
  | [d1, d2] => { results := [.lit (.bool false)], args := [d1, d2] }
  | _ => none }
def FnExactPathPairsWrongFalsely : Prop := fnExactPathPairsRow.holds Try.pinned (OpenSpec.ofChange fnExactPathPairsWrong)

/- THE SECOND FORM. 'bulk': how many values and letters a reading holds, each counted each time it is reached (what is shared counts as often as it is met; a slice's spare places count too). A statement '..UptoSaid' is the law's where the arguments, and the package variables that the reading takes, are together of bulk at most 1048576: NARROWER than '..Said'. Prove '..Said' where nothing that the law and all that it calls make is longer than what came in: it says more and counts as full. Else prove '..UptoSaid'. A law counts once. -/
mutual
def uptoBulk {H : Type} : DataW H → Nat
  | .lit (.string bytes) => bytes.length + 1
  | .lit _ => 1
  | .nil => 1
  | .ptr d => uptoBulk d + 1
  | .slice elems spare => uptoBulkAll elems + uptoBulkAll spare + 1
  | .agg parts => uptoBulkAll parts + 1
  | .iface _ d => uptoBulk d + 1
  | .map entries => uptoBulkEntries entries + 1
  | .held _ => 1
def uptoBulkAll {H : Type} : List (DataW H) → Nat
  | [] => 0
  | d :: r => uptoBulk d + uptoBulkAll r
def uptoBulkEntries {H : Type} : List (Lit × DataW H) → Nat
  | [] => 0
  | x :: r => uptoBulkEntry x + uptoBulkEntries r
def uptoBulkEntry {H : Type} : Lit × DataW H → Nat
  | (.string bytes, d) => bytes.length + uptoBulk d + 1
  | (_, d) => uptoBulk d + 1
 end
def uptoSmall : (H : Type) → List (DataW H) → Bool := fun _ ds => decide (uptoBulkAll ds ≤ 1048576)
def OpenSpec.upto (s : _root_.Go.ChangeSpec) : _root_.Go.OpenSpec := { _root_.Go.OpenSpec.ofChange s with cond := some uptoSmall }

/-- 'laws.FnExactDfaOf', WHERE WHAT IT READS IS OF BULK AT MOST 1048576: true; the input reads as it did. -/
def fnExactDfaOfUptoRow : OpenClaim := { program := "ytgpjgigmlgoiiaa", sum := "ec36050fb2ee820690011be780f77bd18e1f689587aa70170aa6f8b3cce8ecca", func := "loop.example/g00250/laws.FnExactDfaOf", spec := "fnExactDfaOf", apart := false, narrowed := true }
def FnExactDfaOfUptoSaid : Prop := fnExactDfaOfUptoRow.holds Try.pinned (OpenSpec.upto fnExactDfaOfSpec)

/-- 'laws.FnExactSameWords', WHERE WHAT IT READS IS OF BULK AT MOST 1048576: true; the input reads as it did. -/
def fnExactSameWordsUptoRow : OpenClaim := { program := "ytgpjgigmlgoiiaa", sum := "ec36050fb2ee820690011be780f77bd18e1f689587aa70170aa6f8b3cce8ecca", func := "loop.example/g00250/laws.FnExactSameWords", spec := "fnExactSameWords", recurses := true, apart := false, narrowed := true }
def FnExactSameWordsUptoSaid : Prop := fnExactSameWordsUptoRow.holds Try.pinned (OpenSpec.upto fnExactSameWordsSpec)

/-- 'laws.FnExactNfaPairs', WHERE WHAT IT READS IS OF BULK AT MOST 1048576: true; the input reads as it did. -/
def fnExactNfaPairsUptoRow : OpenClaim := { program := "ytgpjgigmlgoiiaa", sum := "ec36050fb2ee820690011be780f77bd18e1f689587aa70170aa6f8b3cce8ecca", func := "loop.example/g00250/laws.FnExactNfaPairs", spec := "fnExactNfaPairs", apart := false, narrowed := true }
def FnExactNfaPairsUptoSaid : Prop := fnExactNfaPairsUptoRow.holds Try.pinned (OpenSpec.upto fnExactNfaPairsSpec)

/-- 'laws.FnExactPathTakes', WHERE WHAT IT READS IS OF BULK AT MOST 1048576: true; the input reads as it did. -/
def fnExactPathTakesUptoRow : OpenClaim := { program := "ytgpjgigmlgoiiaa", sum := "ec36050fb2ee820690011be780f77bd18e1f689587aa70170aa6f8b3cce8ecca", func := "loop.example/g00250/laws.FnExactPathTakes", spec := "fnExactPathTakes", unfollowed := true, recurses := true, apart := false, narrowed := true }
def FnExactPathTakesUptoSaid : Prop := fnExactPathTakesUptoRow.holds Try.pinned (OpenSpec.upto fnExactPathTakesSpec)

/-- 'laws.FnExactPathEnds', WHERE WHAT IT READS IS OF BULK AT MOST 1048576: true; the input reads as it did. -/
def fnExactPathEndsUptoRow : OpenClaim := { program := "ytgpjgigmlgoiiaa", sum := "ec36050fb2ee820690011be780f77bd18e1f689587aa70170aa6f8b3cce8ecca", func := "loop.example/g00250/laws.FnExactPathEnds", spec := "fnExactPathEnds", unfollowed := true, recurses := true, apart := false, narrowed := true }
def FnExactPathEndsUptoSaid : Prop := fnExactPathEndsUptoRow.holds Try.pinned (OpenSpec.upto fnExactPathEndsSpec)

/-- 'laws.FnExactPathPairs', WHERE WHAT IT READS IS OF BULK AT MOST 1048576: true; the input reads as it did. -/
def fnExactPathPairsUptoRow : OpenClaim := { program := "ytgpjgigmlgoiiaa", sum := "ec36050fb2ee820690011be780f77bd18e1f689587aa70170aa6f8b3cce8ecca", func := "loop.example/g00250/laws.FnExactPathPairs", spec := "fnExactPathPairs", unfollowed := true, recurses := true, apart := false, narrowed := true }
def FnExactPathPairsUptoSaid : Prop := fnExactPathPairsUptoRow.holds Try.pinned (OpenSpec.upto fnExactPathPairsSpec)

end Rows
end Go.Proofs.Ytgpjgigmlgoiiaa
