/-
  No cell of these rows narrows 'for every input' (looked for: loops, veiled, ifaces, maps, wideKeys, modest, calm, conditions, laid).
  DERIVED. THE GIVEN ROWS OF THIS SEAT. 12 by the template 'for every input the law returns true; each argument reads behind the call as it read before'; 0 by the template 'total and deterministic' (their statements: YtnhanakeijplcaaTotals.lean).
  GIVEN WITH THE SEED: the statements are not yours to turn. If you find one false, say at which input.
  Laid BY PROGRAM, IN A SANDBOX (cutbox-rows.mjs): the forced cells as the released guide's own fill.sh prints them over the translation 6225651f3f640250… (all of the seat's roots in one cut). By AI agents, Wed Nov 11 2026. No macro, syntax, notation, axiom, sorry.
-/
import Derived.Test.YtnhanakeijplcaaChecked
import GoSem.Claim
import GoSem.ClaimJoined
import GoSem.ClaimMapViews
import Derived.JoinedTies
import Derived.KernelRfl
namespace Go.Proofs.Ytnhanakeijplcaa
/- THE CELL 'sum', in the pinned program and in every row, IS THE sha256 OF THE DUMP (.gsa) THAT YtnhanakeijplcaaProg.lean LOADS. Nothing in Lean hashes anything: it is a label: what it is worth is what the hold of that sum in a sandbox is worth. -/
noncomputable def Try.pinned : Pinned := { name := "ytnhanakeijplcaa", sum := "6225651f3f6402504956f425c17b1cb6ddcdffb72d3491dbf9f9da36380d07e7", checked := Try.checked }
namespace Rows
def none {H : Type} : Left H := { results := [], args := [] }

/-- 'laws.FnGraphs': WHATEVER THE INPUT: true; the input reads as it did. -/
def fnGraphsSpec : ChangeSpec := { name := "fnGraphs", fn := fun _ => fun
  | [d] => { results := [.lit (.bool true)], args := [d] }
  | _ => none }
def fnGraphsRow : OpenClaim := { program := "ytnhanakeijplcaa", sum := "6225651f3f6402504956f425c17b1cb6ddcdffb72d3491dbf9f9da36380d07e7", func := "loop.example/g00250/laws.FnGraphs", spec := "fnGraphs", inPlace := ["slices.overlaps[loop.example/g00250/impl.Edge]"], unfollowed := true, recurses := true, apart := false }
def FnGraphsSaid : Prop := fnGraphsRow.holds Try.pinned (OpenSpec.ofChange fnGraphsSpec)

/-- ITS FALSE NEIGHBOUR: 'it returns false'. Refute it at one input. -/
def fnGraphsWrong : ChangeSpec := { name := "fnGraphs", fn := fun _ => fun
  | [d] => { results := [.lit (.bool false)], args := [d] }
  | _ => none }
def FnGraphsWrongFalsely : Prop := fnGraphsRow.holds Try.pinned (OpenSpec.ofChange fnGraphsWrong)

/-- 'laws.FnExactGraphOk': WHATEVER THE INPUT: true; the input reads as it did. -/
def fnExactGraphOkSpec : ChangeSpec := { name := "fnExactGraphOk", fn := fun _ => fun
  | [d] => { results := [.lit (.bool true)], args := [d] }
  | _ => none }
def fnExactGraphOkRow : OpenClaim := { program := "ytnhanakeijplcaa", sum := "6225651f3f6402504956f425c17b1cb6ddcdffb72d3491dbf9f9da36380d07e7", func := "loop.example/g00250/laws.FnExactGraphOk", spec := "fnExactGraphOk", apart := false }
def FnExactGraphOkSaid : Prop := fnExactGraphOkRow.holds Try.pinned (OpenSpec.ofChange fnExactGraphOkSpec)

/-- ITS FALSE NEIGHBOUR: 'it returns false'. Refute it at one input. -/
def fnExactGraphOkWrong : ChangeSpec := { name := "fnExactGraphOk", fn := fun _ => fun
  | [d] => { results := [.lit (.bool false)], args := [d] }
  | _ => none }
def FnExactGraphOkWrongFalsely : Prop := fnExactGraphOkRow.holds Try.pinned (OpenSpec.ofChange fnExactGraphOkWrong)

/-- 'laws.FnTurnedGraphs': WHATEVER THE INPUT: true; the input reads as it did. -/
def fnTurnedGraphsSpec : ChangeSpec := { name := "fnTurnedGraphs", fn := fun _ => fun
  | [d] => { results := [.lit (.bool true)], args := [d] }
  | _ => none }
def fnTurnedGraphsRow : OpenClaim := { program := "ytnhanakeijplcaa", sum := "6225651f3f6402504956f425c17b1cb6ddcdffb72d3491dbf9f9da36380d07e7", func := "loop.example/g00250/laws.FnTurnedGraphs", spec := "fnTurnedGraphs", unfollowed := true, recurses := true, apart := false }
def FnTurnedGraphsSaid : Prop := fnTurnedGraphsRow.holds Try.pinned (OpenSpec.ofChange fnTurnedGraphsSpec)

/-- ITS FALSE NEIGHBOUR: 'it returns false'. Refute it at one input. -/
def fnTurnedGraphsWrong : ChangeSpec := { name := "fnTurnedGraphs", fn := fun _ => fun
  | [d] => { results := [.lit (.bool false)], args := [d] }
  | _ => none }
def FnTurnedGraphsWrongFalsely : Prop := fnTurnedGraphsRow.holds Try.pinned (OpenSpec.ofChange fnTurnedGraphsWrong)

/-- 'laws.FnExactGraphText': WHATEVER THE INPUT: true; the input reads as it did. -/
def fnExactGraphTextSpec : ChangeSpec := { name := "fnExactGraphText", fn := fun _ => fun
  | [d] => { results := [.lit (.bool true)], args := [d] }
  | _ => none }
def fnExactGraphTextRow : OpenClaim := { program := "ytnhanakeijplcaa", sum := "6225651f3f6402504956f425c17b1cb6ddcdffb72d3491dbf9f9da36380d07e7", func := "loop.example/g00250/laws.FnExactGraphText", spec := "fnExactGraphText", inPlace := ["internal/abi.NoEscape"], apart := false }
def FnExactGraphTextSaid : Prop := fnExactGraphTextRow.holds Try.pinned (OpenSpec.ofChange fnExactGraphTextSpec)

/-- ITS FALSE NEIGHBOUR: 'it returns false'. Refute it at one input. -/
def fnExactGraphTextWrong : ChangeSpec := { name := "fnExactGraphText", fn := fun _ => fun
  | [d] => { results := [.lit (.bool false)], args := [d] }
  | _ => none }
def FnExactGraphTextWrongFalsely : Prop := fnExactGraphTextRow.holds Try.pinned (OpenSpec.ofChange fnExactGraphTextWrong)

/-- 'laws.FnExactReadGraph': WHATEVER THE INPUT: true; the input reads as it did. -/
def fnExactReadGraphSpec : ChangeSpec := { name := "fnExactReadGraph", fn := fun _ => fun
  | [d] => { results := [.lit (.bool true)], args := [d] }
  | _ => none }
def fnExactReadGraphRow : OpenClaim := { program := "ytnhanakeijplcaa", sum := "6225651f3f6402504956f425c17b1cb6ddcdffb72d3491dbf9f9da36380d07e7", func := "loop.example/g00250/laws.FnExactReadGraph", spec := "fnExactReadGraph", apart := false }
def FnExactReadGraphSaid : Prop := fnExactReadGraphRow.holds Try.pinned (OpenSpec.ofChange fnExactReadGraphSpec)

/-- ITS FALSE NEIGHBOUR: 'it returns false'. Refute it at one input. -/
def fnExactReadGraphWrong : ChangeSpec := { name := "fnExactReadGraph", fn := fun _ => fun
  | [d] => { results := [.lit (.bool false)], args := [d] }
  | _ => none }
def FnExactReadGraphWrongFalsely : Prop := fnExactReadGraphRow.holds Try.pinned (OpenSpec.ofChange fnExactReadGraphWrong)

/-- 'laws.FnExactGraphAdd': WHATEVER THE INPUT: true; the input reads as it did. -/
def fnExactGraphAddSpec : ChangeSpec := { name := "fnExactGraphAdd", fn := fun _ => fun
  | [d1, d2] => { results := [.lit (.bool true)], args := [d1, d2] }
  | _ => none }
def fnExactGraphAddRow : OpenClaim := { program := "ytnhanakeijplcaa", sum := "6225651f3f6402504956f425c17b1cb6ddcdffb72d3491dbf9f9da36380d07e7", func := "loop.example/g00250/laws.FnExactGraphAdd", spec := "fnExactGraphAdd", inPlace := ["slices.overlaps[loop.example/g00250/impl.Edge]"], unfollowed := true, recurses := true, apart := false }
def FnExactGraphAddSaid : Prop := fnExactGraphAddRow.holds Try.pinned (OpenSpec.ofChange fnExactGraphAddSpec)

/-- ITS FALSE NEIGHBOUR: 'it returns false'. Refute it at one input. -/
def fnExactGraphAddWrong : ChangeSpec := { name := "fnExactGraphAdd", fn := fun _ => fun
  | [d1, d2] => { results := [.lit (.bool false)], args := [d1, d2] }
  | _ => none }
def FnExactGraphAddWrongFalsely : Prop := fnExactGraphAddRow.holds Try.pinned (OpenSpec.ofChange fnExactGraphAddWrong)

/-- 'laws.FnGraphTexts': WHATEVER THE INPUT: true; the input reads as it did. -/
def fnGraphTextsSpec : ChangeSpec := { name := "fnGraphTexts", fn := fun _ => fun
  | [d] => { results := [.lit (.bool true)], args := [d] }
  | _ => none }
def fnGraphTextsRow : OpenClaim := { program := "ytnhanakeijplcaa", sum := "6225651f3f6402504956f425c17b1cb6ddcdffb72d3491dbf9f9da36380d07e7", func := "loop.example/g00250/laws.FnGraphTexts", spec := "fnGraphTexts", inPlace := ["internal/abi.NoEscape"], apart := false }
def FnGraphTextsSaid : Prop := fnGraphTextsRow.holds Try.pinned (OpenSpec.ofChange fnGraphTextsSpec)

/-- ITS FALSE NEIGHBOUR: 'it returns false'. Refute it at one input. -/
def fnGraphTextsWrong : ChangeSpec := { name := "fnGraphTexts", fn := fun _ => fun
  | [d] => { results := [.lit (.bool false)], args := [d] }
  | _ => none }
def FnGraphTextsWrongFalsely : Prop := fnGraphTextsRow.holds Try.pinned (OpenSpec.ofChange fnGraphTextsWrong)

/-- 'laws.FnExactNextOf': WHATEVER THE INPUT: true; the input reads as it did. -/
def fnExactNextOfSpec : ChangeSpec := { name := "fnExactNextOf", fn := fun _ => fun
  | [d1, d2, d3] => { results := [.lit (.bool true)], args := [d1, d2, d3] }
  | _ => none }
def fnExactNextOfRow : OpenClaim := { program := "ytnhanakeijplcaa", sum := "6225651f3f6402504956f425c17b1cb6ddcdffb72d3491dbf9f9da36380d07e7", func := "loop.example/g00250/laws.FnExactNextOf", spec := "fnExactNextOf", recurses := true, apart := false }
def FnExactNextOfSaid : Prop := fnExactNextOfRow.holds Try.pinned (OpenSpec.ofChange fnExactNextOfSpec)

/-- ITS FALSE NEIGHBOUR: 'it returns false'. Refute it at one input. -/
def fnExactNextOfWrong : ChangeSpec := { name := "fnExactNextOf", fn := fun _ => fun
  | [d1, d2, d3] => { results := [.lit (.bool false)], args := [d1, d2, d3] }
  | _ => none }
def FnExactNextOfWrongFalsely : Prop := fnExactNextOfRow.holds Try.pinned (OpenSpec.ofChange fnExactNextOfWrong)

/-- 'laws.FnExactTurned': WHATEVER THE INPUT: true; the input reads as it did. -/
def fnExactTurnedSpec : ChangeSpec := { name := "fnExactTurned", fn := fun _ => fun
  | [d] => { results := [.lit (.bool true)], args := [d] }
  | _ => none }
def fnExactTurnedRow : OpenClaim := { program := "ytnhanakeijplcaa", sum := "6225651f3f6402504956f425c17b1cb6ddcdffb72d3491dbf9f9da36380d07e7", func := "loop.example/g00250/laws.FnExactTurned", spec := "fnExactTurned", unfollowed := true, recurses := true, apart := false }
def FnExactTurnedSaid : Prop := fnExactTurnedRow.holds Try.pinned (OpenSpec.ofChange fnExactTurnedSpec)

/-- ITS FALSE NEIGHBOUR: 'it returns false'. Refute it at one input. -/
def fnExactTurnedWrong : ChangeSpec := { name := "fnExactTurned", fn := fun _ => fun
  | [d] => { results := [.lit (.bool false)], args := [d] }
  | _ => none }
def FnExactTurnedWrongFalsely : Prop := fnExactTurnedRow.holds Try.pinned (OpenSpec.ofChange fnExactTurnedWrong)

/-- 'laws.FnExactPartOf': WHATEVER THE INPUT: true; the input reads as it did. -/
def fnExactPartOfSpec : ChangeSpec := { name := "fnExactPartOf", fn := fun _ => fun
  | [d1, d2, d3] => { results := [.lit (.bool true)], args := [d1, d2, d3] }
  | _ => none }
def fnExactPartOfRow : OpenClaim := { program := "ytnhanakeijplcaa", sum := "6225651f3f6402504956f425c17b1cb6ddcdffb72d3491dbf9f9da36380d07e7", func := "loop.example/g00250/laws.FnExactPartOf", spec := "fnExactPartOf", apart := false }
def FnExactPartOfSaid : Prop := fnExactPartOfRow.holds Try.pinned (OpenSpec.ofChange fnExactPartOfSpec)

/-- ITS FALSE NEIGHBOUR: 'it returns false'. Refute it at one input. -/
def fnExactPartOfWrong : ChangeSpec := { name := "fnExactPartOf", fn := fun _ => fun
  | [d1, d2, d3] => { results := [.lit (.bool false)], args := [d1, d2, d3] }
  | _ => none }
def FnExactPartOfWrongFalsely : Prop := fnExactPartOfRow.holds Try.pinned (OpenSpec.ofChange fnExactPartOfWrong)

/-- 'laws.FnExactOwned': WHATEVER THE INPUT: true; the input reads as it did. -/
def fnExactOwnedSpec : ChangeSpec := { name := "fnExactOwned", fn := fun _ => fun
  | [d1, d2, d3] => { results := [.lit (.bool true)], args := [d1, d2, d3] }
  | _ => none }
def fnExactOwnedRow : OpenClaim := { program := "ytnhanakeijplcaa", sum := "6225651f3f6402504956f425c17b1cb6ddcdffb72d3491dbf9f9da36380d07e7", func := "loop.example/g00250/laws.FnExactOwned", spec := "fnExactOwned", apart := false }
def FnExactOwnedSaid : Prop := fnExactOwnedRow.holds Try.pinned (OpenSpec.ofChange fnExactOwnedSpec)

/-- ITS FALSE NEIGHBOUR: 'it returns false'. Refute it at one input. -/
def fnExactOwnedWrong : ChangeSpec := { name := "fnExactOwned", fn := fun _ => fun
  | [d1, d2, d3] => { results := [.lit (.bool false)], args := [d1, d2, d3] }
  | _ => none }
def FnExactOwnedWrongFalsely : Prop := fnExactOwnedRow.holds Try.pinned (OpenSpec.ofChange fnExactOwnedWrong)

/-- 'laws.FnOwners': WHATEVER THE INPUT: true; the input reads as it did. -/
def fnOwnersSpec : ChangeSpec := { name := "fnOwners", fn := fun _ => fun
  | [d] => { results := [.lit (.bool true)], args := [d] }
  | _ => none }
def fnOwnersRow : OpenClaim := { program := "ytnhanakeijplcaa", sum := "6225651f3f6402504956f425c17b1cb6ddcdffb72d3491dbf9f9da36380d07e7", func := "loop.example/g00250/laws.FnOwners", spec := "fnOwners", apart := false }
def FnOwnersSaid : Prop := fnOwnersRow.holds Try.pinned (OpenSpec.ofChange fnOwnersSpec)

/-- ITS FALSE NEIGHBOUR: 'it returns false'. Refute it at one input. -/
def fnOwnersWrong : ChangeSpec := { name := "fnOwners", fn := fun _ => fun
  | [d] => { results := [.lit (.bool false)], args := [d] }
  | _ => none }
def FnOwnersWrongFalsely : Prop := fnOwnersRow.holds Try.pinned (OpenSpec.ofChange fnOwnersWrong)

/- THE SECOND FORM. 'bulk': how many values and letters a reading holds, each counted each time it is reached (what is shared counts as often as it is met; a slice's spare places count too). A statement '..UptoSaid' is the law's where the arguments, and the package variables that the reading takes, are together of bulk at most 1048576: NARROWER than '..Said'. Prove '..Said' where nothing that the law and all that it calls make is longer than what came in: it says more and counts as full. Else prove '..UptoSaid'. A law counts once. -/
mutual
def uptoBulk {H : Type} : DataW H → Nat
  | .lit (.string bytes) => bytes.length + 1
  | .lit _ => 1
  | .nil => 1
  | .ptr d => uptoBulk d + 1
  | .slice elems spare => uptoBulkAll elems + uptoBulkAll spare + 1
  | .agg parts => uptoBulkAll parts + 1
  | .iface _ d => uptoBulk d + 1
  | .map entries => uptoBulkEntries entries + 1
  | .held _ => 1
def uptoBulkAll {H : Type} : List (DataW H) → Nat
  | [] => 0
  | d :: r => uptoBulk d + uptoBulkAll r
def uptoBulkEntries {H : Type} : List (Lit × DataW H) → Nat
  | [] => 0
  | x :: r => uptoBulkEntry x + uptoBulkEntries r
def uptoBulkEntry {H : Type} : Lit × DataW H → Nat
  | (.string bytes, d) => bytes.length + uptoBulk d + 1
  | (_, d) => uptoBulk d + 1
 end
def uptoSmall : (H : Type) → List (DataW H) → Bool := fun _ ds => decide (uptoBulkAll ds ≤ 1048576)
def OpenSpec.upto (s : _root_.Go.ChangeSpec) : _root_.Go.OpenSpec := { _root_.Go.OpenSpec.ofChange s with cond := some uptoSmall }

/-- 'laws.FnGraphs', WHERE WHAT IT READS IS OF BULK AT MOST 1048576: true; the input reads as it did. -/
def fnGraphsUptoRow : OpenClaim := { program := "ytnhanakeijplcaa", sum := "6225651f3f6402504956f425c17b1cb6ddcdffb72d3491dbf9f9da36380d07e7", func := "loop.example/g00250/laws.FnGraphs", spec := "fnGraphs", inPlace := ["slices.overlaps[loop.example/g00250/impl.Edge]"], unfollowed := true, recurses := true, apart := false, narrowed := true }
def FnGraphsUptoSaid : Prop := fnGraphsUptoRow.holds Try.pinned (OpenSpec.upto fnGraphsSpec)

/-- 'laws.FnExactGraphOk', WHERE WHAT IT READS IS OF BULK AT MOST 1048576: true; the input reads as it did. -/
def fnExactGraphOkUptoRow : OpenClaim := { program := "ytnhanakeijplcaa", sum := "6225651f3f6402504956f425c17b1cb6ddcdffb72d3491dbf9f9da36380d07e7", func := "loop.example/g00250/laws.FnExactGraphOk", spec := "fnExactGraphOk", apart := false, narrowed := true }
def FnExactGraphOkUptoSaid : Prop := fnExactGraphOkUptoRow.holds Try.pinned (OpenSpec.upto fnExactGraphOkSpec)

/-- 'laws.FnTurnedGraphs', WHERE WHAT IT READS IS OF BULK AT MOST 1048576: true; the input reads as it did. -/
def fnTurnedGraphsUptoRow : OpenClaim := { program := "ytnhanakeijplcaa", sum := "6225651f3f6402504956f425c17b1cb6ddcdffb72d3491dbf9f9da36380d07e7", func := "loop.example/g00250/laws.FnTurnedGraphs", spec := "fnTurnedGraphs", unfollowed := true, recurses := true, apart := false, narrowed := true }
def FnTurnedGraphsUptoSaid : Prop := fnTurnedGraphsUptoRow.holds Try.pinned (OpenSpec.upto fnTurnedGraphsSpec)

/-- 'laws.FnExactGraphText', WHERE WHAT IT READS IS OF BULK AT MOST 1048576: true; the input reads as it did. -/
def fnExactGraphTextUptoRow : OpenClaim := { program := "ytnhanakeijplcaa", sum := "6225651f3f6402504956f425c17b1cb6ddcdffb72d3491dbf9f9da36380d07e7", func := "loop.example/g00250/laws.FnExactGraphText", spec := "fnExactGraphText", inPlace := ["internal/abi.NoEscape"], apart := false, narrowed := true }
def FnExactGraphTextUptoSaid : Prop := fnExactGraphTextUptoRow.holds Try.pinned (OpenSpec.upto fnExactGraphTextSpec)

/-- 'laws.FnExactReadGraph', WHERE WHAT IT READS IS OF BULK AT MOST 1048576: true; the input reads as it did. -/
def fnExactReadGraphUptoRow : OpenClaim := { program := "ytnhanakeijplcaa", sum := "6225651f3f6402504956f425c17b1cb6ddcdffb72d3491dbf9f9da36380d07e7", func := "loop.example/g00250/laws.FnExactReadGraph", spec := "fnExactReadGraph", apart := false, narrowed := true }
def FnExactReadGraphUptoSaid : Prop := fnExactReadGraphUptoRow.holds Try.pinned (OpenSpec.upto fnExactReadGraphSpec)

/-- 'laws.FnExactGraphAdd', WHERE WHAT IT READS IS OF BULK AT MOST 1048576: true; the input reads as it did. -/
def fnExactGraphAddUptoRow : OpenClaim := { program := "ytnhanakeijplcaa", sum := "6225651f3f6402504956f425c17b1cb6ddcdffb72d3491dbf9f9da36380d07e7", func := "loop.example/g00250/laws.FnExactGraphAdd", spec := "fnExactGraphAdd", inPlace := ["slices.overlaps[loop.example/g00250/impl.Edge]"], unfollowed := true, recurses := true, apart := false, narrowed := true }
def FnExactGraphAddUptoSaid : Prop := fnExactGraphAddUptoRow.holds Try.pinned (OpenSpec.upto fnExactGraphAddSpec)

/-- 'laws.FnGraphTexts', WHERE WHAT IT READS IS OF BULK AT MOST 1048576: true; the input reads as it did. -/
def fnGraphTextsUptoRow : OpenClaim := { program := "ytnhanakeijplcaa", sum := "6225651f3f6402504956f425c17b1cb6ddcdffb72d3491dbf9f9da36380d07e7", func := "loop.example/g00250/laws.FnGraphTexts", spec := "fnGraphTexts", inPlace := ["internal/abi.NoEscape"], apart := false, narrowed := true }
def FnGraphTextsUptoSaid : Prop := fnGraphTextsUptoRow.holds Try.pinned (OpenSpec.upto fnGraphTextsSpec)

/-- 'laws.FnExactNextOf', WHERE WHAT IT READS IS OF BULK AT MOST 1048576: true; the input reads as it did. -/
def fnExactNextOfUptoRow : OpenClaim := { program := "ytnhanakeijplcaa", sum := "6225651f3f6402504956f425c17b1cb6ddcdffb72d3491dbf9f9da36380d07e7", func := "loop.example/g00250/laws.FnExactNextOf", spec := "fnExactNextOf", recurses := true, apart := false, narrowed := true }
def FnExactNextOfUptoSaid : Prop := fnExactNextOfUptoRow.holds Try.pinned (OpenSpec.upto fnExactNextOfSpec)

/-- 'laws.FnExactTurned', WHERE WHAT IT READS IS OF BULK AT MOST 1048576: true; the input reads as it did. -/
def fnExactTurnedUptoRow : OpenClaim := { program := "ytnhanakeijplcaa", sum := "6225651f3f6402504956f425c17b1cb6ddcdffb72d3491dbf9f9da36380d07e7", func := "loop.example/g00250/laws.FnExactTurned", spec := "fnExactTurned", unfollowed := true, recurses := true, apart := false, narrowed := true }
def FnExactTurnedUptoSaid : Prop := fnExactTurnedUptoRow.holds Try.pinned (OpenSpec.upto fnExactTurnedSpec)

/-- 'laws.FnExactPartOf', WHERE WHAT IT READS IS OF BULK AT MOST 1048576: true; the input reads as it did. -/
def fnExactPartOfUptoRow : OpenClaim := { program := "ytnhanakeijplcaa", sum := "6225651f3f6402504956f425c17b1cb6ddcdffb72d3491dbf9f9da36380d07e7", func := "loop.example/g00250/laws.FnExactPartOf", spec := "fnExactPartOf", apart := false, narrowed := true }
def FnExactPartOfUptoSaid : Prop := fnExactPartOfUptoRow.holds Try.pinned (OpenSpec.upto fnExactPartOfSpec)

/-- 'laws.FnExactOwned', WHERE WHAT IT READS IS OF BULK AT MOST 1048576: true; the input reads as it did. -/
def fnExactOwnedUptoRow : OpenClaim := { program := "ytnhanakeijplcaa", sum := "6225651f3f6402504956f425c17b1cb6ddcdffb72d3491dbf9f9da36380d07e7", func := "loop.example/g00250/laws.FnExactOwned", spec := "fnExactOwned", apart := false, narrowed := true }
def FnExactOwnedUptoSaid : Prop := fnExactOwnedUptoRow.holds Try.pinned (OpenSpec.upto fnExactOwnedSpec)

/-- 'laws.FnOwners', WHERE WHAT IT READS IS OF BULK AT MOST 1048576: true; the input reads as it did. -/
def fnOwnersUptoRow : OpenClaim := { program := "ytnhanakeijplcaa", sum := "6225651f3f6402504956f425c17b1cb6ddcdffb72d3491dbf9f9da36380d07e7", func := "loop.example/g00250/laws.FnOwners", spec := "fnOwners", apart := false, narrowed := true }
def FnOwnersUptoSaid : Prop := fnOwnersUptoRow.holds Try.pinned (OpenSpec.upto fnOwnersSpec)

end Rows
end Go.Proofs.Ytnhanakeijplcaa
