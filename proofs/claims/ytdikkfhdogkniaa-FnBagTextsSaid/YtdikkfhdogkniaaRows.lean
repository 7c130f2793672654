/-
  No cell of these rows narrows 'for every input' (looked for: loops, veiled, ifaces, maps, wideKeys, modest, calm, conditions, laid).
  DERIVED. THE GIVEN ROWS OF THIS SEAT. 9 by the template 'for every input the law returns true; each argument reads behind the call as it read before'; 0 by the template 'total and deterministic' (their statements: YtdikkfhdogkniaaTotals.lean).
  GIVEN WITH THE SEED: the statements are not yours to turn. If you find one false, say at which input.
  Laid BY PROGRAM, IN A SANDBOX (cutbox-rows.mjs): the forced cells as the released guide's own fill.sh prints them over the translation a77bfb3c961fc5e3… (all of the seat's roots in one cut). By AI agents, Wed Nov 11 2026. No macro, syntax, notation, axiom, sorry.
-/
import Derived.Test.YtdikkfhdogkniaaChecked
import GoSem.Claim
import GoSem.ClaimJoined
import GoSem.ClaimMapViews
import Derived.JoinedTies
import Derived.KernelRfl
namespace Go.Proofs.Ytdikkfhdogkniaa
/- THE CELL 'sum', in the pinned program and in every row, IS THE sha256 OF THE DUMP (.gsa) THAT YtdikkfhdogkniaaProg.lean LOADS. Nothing in Lean hashes anything: it is a label: what it is worth is what the hold of that sum in a sandbox is worth. -/
noncomputable def Try.pinned : Pinned := { name := "ytdikkfhdogkniaa", sum := "a77bfb3c961fc5e30571bbde09f91cbda851df3da6f81e6fcde8d9ed5abb40ea", checked := Try.checked }
namespace Rows
def none {H : Type} : Left H := { results := [], args := [] }

/-- 'laws.FnExactBagOk': WHATEVER THE INPUT: true; the input reads as it did. -/
def fnExactBagOkSpec : ChangeSpec := { name := "fnExactBagOk", fn := fun _ => fun
  | [d] => { results := [.lit (.bool true)], args := [d] }
  | _ => none }
def fnExactBagOkRow : OpenClaim := { program := "ytdikkfhdogkniaa", sum := "a77bfb3c961fc5e30571bbde09f91cbda851df3da6f81e6fcde8d9ed5abb40ea", func := "loop.example/g00250/laws.FnExactBagOk", spec := "fnExactBagOk", apart := false }
def FnExactBagOkSaid : Prop := fnExactBagOkRow.holds Try.pinned (OpenSpec.ofChange fnExactBagOkSpec)

/-- ITS FALSE NEIGHBOUR: 'it returns false'. Refute it at one input. -/
def fnExactBagOkWrong : ChangeSpec := { name := "fnExactBagOk", fn := fun _ => fun
  | [d] => { results := [.lit (.bool false)], args := [d] }
  | _ => none }
def FnExactBagOkWrongFalsely : Prop := fnExactBagOkRow.holds Try.pinned (OpenSpec.ofChange fnExactBagOkWrong)

/-- 'laws.FnExactBagSize': WHATEVER THE INPUT: true; the input reads as it did. -/
def fnExactBagSizeSpec : ChangeSpec := { name := "fnExactBagSize", fn := fun _ => fun
  | [d] => { results := [.lit (.bool true)], args := [d] }
  | _ => none }
def fnExactBagSizeRow : OpenClaim := { program := "ytdikkfhdogkniaa", sum := "a77bfb3c961fc5e30571bbde09f91cbda851df3da6f81e6fcde8d9ed5abb40ea", func := "loop.example/g00250/laws.FnExactBagSize", spec := "fnExactBagSize", apart := false }
def FnExactBagSizeSaid : Prop := fnExactBagSizeRow.holds Try.pinned (OpenSpec.ofChange fnExactBagSizeSpec)

/-- ITS FALSE NEIGHBOUR: 'it returns false'. Refute it at one input. -/
def fnExactBagSizeWrong : ChangeSpec := { name := "fnExactBagSize", fn := fun _ => fun
  | [d] => { results := [.lit (.bool false)], args := [d] }
  | _ => none }
def FnExactBagSizeWrongFalsely : Prop := fnExactBagSizeRow.holds Try.pinned (OpenSpec.ofChange fnExactBagSizeWrong)

/-- 'laws.FnExactBagText': WHATEVER THE INPUT: true; the input reads as it did. -/
def fnExactBagTextSpec : ChangeSpec := { name := "fnExactBagText", fn := fun _ => fun
  | [d] => { results := [.lit (.bool true)], args := [d] }
  | _ => none }
def fnExactBagTextRow : OpenClaim := { program := "ytdikkfhdogkniaa", sum := "a77bfb3c961fc5e30571bbde09f91cbda851df3da6f81e6fcde8d9ed5abb40ea", func := "loop.example/g00250/laws.FnExactBagText", spec := "fnExactBagText", inPlace := ["internal/abi.NoEscape"], apart := false }
def FnExactBagTextSaid : Prop := fnExactBagTextRow.holds Try.pinned (OpenSpec.ofChange fnExactBagTextSpec)

/-- ITS FALSE NEIGHBOUR: 'it returns false'. Refute it at one input. -/
def fnExactBagTextWrong : ChangeSpec := { name := "fnExactBagText", fn := fun _ => fun
  | [d] => { results := [.lit (.bool false)], args := [d] }
  | _ => none }
def FnExactBagTextWrongFalsely : Prop := fnExactBagTextRow.holds Try.pinned (OpenSpec.ofChange fnExactBagTextWrong)

/-- 'laws.FnExactReadBag': WHATEVER THE INPUT: true; the input reads as it did. -/
def fnExactReadBagSpec : ChangeSpec := { name := "fnExactReadBag", fn := fun _ => fun
  | [d] => { results := [.lit (.bool true)], args := [d] }
  | _ => none }
def fnExactReadBagRow : OpenClaim := { program := "ytdikkfhdogkniaa", sum := "a77bfb3c961fc5e30571bbde09f91cbda851df3da6f81e6fcde8d9ed5abb40ea", func := "loop.example/g00250/laws.FnExactReadBag", spec := "fnExactReadBag", apart := false }
def FnExactReadBagSaid : Prop := fnExactReadBagRow.holds Try.pinned (OpenSpec.ofChange fnExactReadBagSpec)

/-- ITS FALSE NEIGHBOUR: 'it returns false'. Refute it at one input. -/
def fnExactReadBagWrong : ChangeSpec := { name := "fnExactReadBag", fn := fun _ => fun
  | [d] => { results := [.lit (.bool false)], args := [d] }
  | _ => none }
def FnExactReadBagWrongFalsely : Prop := fnExactReadBagRow.holds Try.pinned (OpenSpec.ofChange fnExactReadBagWrong)

/-- 'laws.FnExactBagAdd': WHATEVER THE INPUT: true; the input reads as it did. -/
def fnExactBagAddSpec : ChangeSpec := { name := "fnExactBagAdd", fn := fun _ => fun
  | [d1, d2, d3] => { results := [.lit (.bool true)], args := [d1, d2, d3] }
  | _ => none }
def fnExactBagAddRow : OpenClaim := { program := "ytdikkfhdogkniaa", sum := "a77bfb3c961fc5e30571bbde09f91cbda851df3da6f81e6fcde8d9ed5abb40ea", func := "loop.example/g00250/laws.FnExactBagAdd", spec := "fnExactBagAdd", inPlace := ["slices.overlaps[loop.example/g00250/impl.Item]"], unfollowed := true, recurses := true, apart := false }
def FnExactBagAddSaid : Prop := fnExactBagAddRow.holds Try.pinned (OpenSpec.ofChange fnExactBagAddSpec)

/-- ITS FALSE NEIGHBOUR: 'it returns false'. Refute it at one input. -/
def fnExactBagAddWrong : ChangeSpec := { name := "fnExactBagAdd", fn := fun _ => fun
  | [d1, d2, d3] => { results := [.lit (.bool false)], args := [d1, d2, d3] }
  | _ => none }
def FnExactBagAddWrongFalsely : Prop := fnExactBagAddRow.holds Try.pinned (OpenSpec.ofChange fnExactBagAddWrong)

/-- 'laws.FnExactBagJoin': WHATEVER THE INPUT: true; the input reads as it did. -/
def fnExactBagJoinSpec : ChangeSpec := { name := "fnExactBagJoin", fn := fun _ => fun
  | [d1, d2] => { results := [.lit (.bool true)], args := [d1, d2] }
  | _ => none }
def fnExactBagJoinRow : OpenClaim := { program := "ytdikkfhdogkniaa", sum := "a77bfb3c961fc5e30571bbde09f91cbda851df3da6f81e6fcde8d9ed5abb40ea", func := "loop.example/g00250/laws.FnExactBagJoin", spec := "fnExactBagJoin", inPlace := ["slices.overlaps[loop.example/g00250/impl.Item]"], unfollowed := true, recurses := true, apart := false }
def FnExactBagJoinSaid : Prop := fnExactBagJoinRow.holds Try.pinned (OpenSpec.ofChange fnExactBagJoinSpec)

/-- ITS FALSE NEIGHBOUR: 'it returns false'. Refute it at one input. -/
def fnExactBagJoinWrong : ChangeSpec := { name := "fnExactBagJoin", fn := fun _ => fun
  | [d1, d2] => { results := [.lit (.bool false)], args := [d1, d2] }
  | _ => none }
def FnExactBagJoinWrongFalsely : Prop := fnExactBagJoinRow.holds Try.pinned (OpenSpec.ofChange fnExactBagJoinWrong)

/-- 'laws.FnBags': WHATEVER THE INPUT: true; the input reads as it did. -/
def fnBagsSpec : ChangeSpec := { name := "fnBags", fn := fun _ => fun
  | [d] => { results := [.lit (.bool true)], args := [d] }
  | _ => none }
def fnBagsRow : OpenClaim := { program := "ytdikkfhdogkniaa", sum := "a77bfb3c961fc5e30571bbde09f91cbda851df3da6f81e6fcde8d9ed5abb40ea", func := "loop.example/g00250/laws.FnBags", spec := "fnBags", inPlace := ["slices.overlaps[loop.example/g00250/impl.Item]"], unfollowed := true, recurses := true, apart := false }
def FnBagsSaid : Prop := fnBagsRow.holds Try.pinned (OpenSpec.ofChange fnBagsSpec)

/-- ITS FALSE NEIGHBOUR: 'it returns false'. Refute it at one input. -/
def fnBagsWrong : ChangeSpec := { name := "fnBags", fn := fun _ => fun
  | [d] => { results := [.lit (.bool false)], args := [d] }
  | _ => none }
def FnBagsWrongFalsely : Prop := fnBagsRow.holds Try.pinned (OpenSpec.ofChange fnBagsWrong)

/-- 'laws.FnBagsJoined': WHATEVER THE INPUT: true; the input reads as it did. -/
def fnBagsJoinedSpec : ChangeSpec := { name := "fnBagsJoined", fn := fun _ => fun
  | [d] => { results := [.lit (.bool true)], args := [d] }
  | _ => none }
def fnBagsJoinedRow : OpenClaim := { program := "ytdikkfhdogkniaa", sum := "a77bfb3c961fc5e30571bbde09f91cbda851df3da6f81e6fcde8d9ed5abb40ea", func := "loop.example/g00250/laws.FnBagsJoined", spec := "fnBagsJoined", inPlace := ["slices.overlaps[loop.example/g00250/impl.Item]"], unfollowed := true, recurses := true, apart := false }
def FnBagsJoinedSaid : Prop := fnBagsJoinedRow.holds Try.pinned (OpenSpec.ofChange fnBagsJoinedSpec)

/-- ITS FALSE NEIGHBOUR: 'it returns false'. Refute it at one input. -/
def fnBagsJoinedWrong : ChangeSpec := { name := "fnBagsJoined", fn := fun _ => fun
  | [d] => { results := [.lit (.bool false)], args := [d] }
  | _ => none }
def FnBagsJoinedWrongFalsely : Prop := fnBagsJoinedRow.holds Try.pinned (OpenSpec.ofChange fnBagsJoinedWrong)

/-- 'laws.FnBagTexts': WHATEVER THE INPUT: true; the input reads as it did. -/
def fnBagTextsSpec : ChangeSpec := { name := "fnBagTexts", fn := fun _ => fun
  | [d] => { results := [.lit (.bool true)], args := [d] }
  | _ => none }
def fnBagTextsRow : OpenClaim := { program := "ytdikkfhdogkniaa", sum := "a77bfb3c961fc5e30571bbde09f91cbda851df3da6f81e6fcde8d9ed5abb40ea", func := "loop.example/g00250/laws.FnBagTexts", spec := "fnBagTexts", inPlace := ["internal/abi.NoEscape"], apart := false }
def FnBagTextsSaid : Prop := fnBagTextsRow.holds Try.pinned (OpenSpec.ofChange fnBagTextsSpec)

/-- ITS FALSE NEIGHBOUR: 'it returns false'. Refute it at one input. -/
def fnBagTextsWrong : ChangeSpec := { name := "fnBagTexts", fn := fun _ => fun
  | [d] => { results := [.lit (.bool false)], args := [d] }
  | _ => none }
def FnBagTextsWrongFalsely : Prop := fnBagTextsRow.holds Try.pinned (OpenSpec.ofChange fnBagTextsWrong)

/- THE SECOND FORM. 'bulk': how many values and letters a reading holds, each counted each time it is reached (what is shared counts as often as it is met; a slice's spare places count too). A statement '..UptoSaid' is the law's where the arguments, and the package variables that the reading takes, are together of bulk at most 1048576: NARROWER than '..Said'. Prove '..Said' where nothing that the law and all that it calls make is longer than what came in: it says more and counts as full. Else prove '..UptoSaid'. A law counts once. -/
mutual
def uptoBulk {H : Type} : DataW H → Nat
  | .lit (.string bytes) => bytes.length + 1
  | .lit _ => 1
  | .nil => 1
  | .ptr d => uptoBulk d + 1
  | .slice elems spare => uptoBulkAll elems + uptoBulkAll spare + 1
  | .agg parts => uptoBulkAll parts + 1
  | .iface _ d => uptoBulk d + 1
  | .map entries => uptoBulkEntries entries + 1
  | .held _ => 1
def uptoBulkAll {H : Type} : List (DataW H) → Nat
  | [] => 0
  | d :: r => uptoBulk d + uptoBulkAll r
def uptoBulkEntries {H : Type} : List (Lit × DataW H) → Nat
  | [] => 0
  | x :: r => uptoBulkEntry x + uptoBulkEntries r
def uptoBulkEntry {H : Type} : Lit × DataW H → Nat
  | (.string bytes, d) => bytes.length + uptoBulk d + 1
  | (_, d) => uptoBulk d + 1
 end
def uptoSmall : (H : Type) → List (DataW H) → Bool := fun _ ds => decide (uptoBulkAll ds ≤ 1048576)
def OpenSpec.upto (s : _root_.Go.ChangeSpec) : _root_.Go.OpenSpec := { _root_.Go.OpenSpec.ofChange s with cond := some uptoSmall }

/-- 'laws.FnExactBagOk', WHERE WHAT IT READS IS OF BULK AT MOST 1048576: true; the input reads as it did. -/
def fnExactBagOkUptoRow : OpenClaim := { program := "ytdikkfhdogkniaa", sum := "a77bfb3c961fc5e30571bbde09f91cbda851df3da6f81e6fcde8d9ed5abb40ea", func := "loop.example/g00250/laws.FnExactBagOk", spec := "fnExactBagOk", apart := false, narrowed := true }
def FnExactBagOkUptoSaid : Prop := fnExactBagOkUptoRow.holds Try.pinned (OpenSpec.upto fnExactBagOkSpec)

/-- 'laws.FnExactBagSize', WHERE WHAT IT READS IS OF BULK AT MOST 1048576: true; the input reads as it did. -/
def fnExactBagSizeUptoRow : OpenClaim := { program := "ytdikkfhdogkniaa", sum := "a77bfb3c961fc5e30571bbde09f91cbda851df3da6f81e6fcde8d9ed5abb40ea", func := "loop.example/g00250/laws.FnExactBagSize", spec := "fnExactBagSize", apart := false, narrowed := true }
def FnExactBagSizeUptoSaid : Prop := fnExactBagSizeUptoRow.holds Try.pinned (OpenSpec.upto fnExactBagSizeSpec)

/-- 'laws.FnExactBagText', WHERE WHAT IT READS IS OF BULK AT MOST 1048576: true; the input reads as it did. -/
def fnExactBagTextUptoRow : OpenClaim := { program := "ytdikkfhdogkniaa", sum := "a77bfb3c961fc5e30571bbde09f91cbda851df3da6f81e6fcde8d9ed5abb40ea", func := "loop.example/g00250/laws.FnExactBagText", spec := "fnExactBagText", inPlace := ["internal/abi.NoEscape"], apart := false, narrowed := true }
def FnExactBagTextUptoSaid : Prop := fnExactBagTextUptoRow.holds Try.pinned (OpenSpec.upto fnExactBagTextSpec)

/-- 'laws.FnExactReadBag', WHERE WHAT IT READS IS OF BULK AT MOST 1048576: true; the input reads as it did. -/
def fnExactReadBagUptoRow : OpenClaim := { program := "ytdikkfhdogkniaa", sum := "a77bfb3c961fc5e30571bbde09f91cbda851df3da6f81e6fcde8d9ed5abb40ea", func := "loop.example/g00250/laws.FnExactReadBag", spec := "fnExactReadBag", apart := false, narrowed := true }
def FnExactReadBagUptoSaid : Prop := fnExactReadBagUptoRow.holds Try.pinned (OpenSpec.upto fnExactReadBagSpec)

/-- 'laws.FnExactBagAdd', WHERE WHAT IT READS IS OF BULK AT MOST 1048576: true; the input reads as it did. -/
def fnExactBagAddUptoRow : OpenClaim := { program := "ytdikkfhdogkniaa", sum := "a77bfb3c961fc5e30571bbde09f91cbda851df3da6f81e6fcde8d9ed5abb40ea", func := "loop.example/g00250/laws.FnExactBagAdd", spec := "fnExactBagAdd", inPlace := ["slices.overlaps[loop.example/g00250/impl.Item]"], unfollowed := true, recurses := true, apart := false, narrowed := true }
def FnExactBagAddUptoSaid : Prop := fnExactBagAddUptoRow.holds Try.pinned (OpenSpec.upto fnExactBagAddSpec)

/-- 'laws.FnExactBagJoin', WHERE WHAT IT READS IS OF BULK AT MOST 1048576: true; the input reads as it did. -/
def fnExactBagJoinUptoRow : OpenClaim := { program := "ytdikkfhdogkniaa", sum := "a77bfb3c961fc5e30571bbde09f91cbda851df3da6f81e6fcde8d9ed5abb40ea", func := "loop.example/g00250/laws.FnExactBagJoin", spec := "fnExactBagJoin", inPlace := ["slices.overlaps[loop.example/g00250/impl.Item]"], unfollowed := true, recurses := true, apart := false, narrowed := true }
def FnExactBagJoinUptoSaid : Prop := fnExactBagJoinUptoRow.holds Try.pinned (OpenSpec.upto fnExactBagJoinSpec)

/-- 'laws.FnBags', WHERE WHAT IT READS IS OF BULK AT MOST 1048576: true; the input reads as it did. -/
def fnBagsUptoRow : OpenClaim := { program := "ytdikkfhdogkniaa", sum := "a77bfb3c961fc5e30571bbde09f91cbda851df3da6f81e6fcde8d9ed5abb40ea", func := "loop.example/g00250/laws.FnBags", spec := "fnBags", inPlace := ["slices.overlaps[loop.example/g00250/impl.Item]"], unfollowed := true, recurses := true, apart := false, narrowed := true }
def FnBagsUptoSaid : Prop := fnBagsUptoRow.holds Try.pinned (OpenSpec.upto fnBagsSpec)

/-- 'laws.FnBagsJoined', WHERE WHAT IT READS IS OF BULK AT MOST 1048576: true; the input reads as it did. -/
def fnBagsJoinedUptoRow : OpenClaim := { program := "ytdikkfhdogkniaa", sum := "a77bfb3c961fc5e30571bbde09f91cbda851df3da6f81e6fcde8d9ed5abb40ea", func := "loop.example/g00250/laws.FnBagsJoined", spec := "fnBagsJoined", inPlace := ["slices.overlaps[loop.example/g00250/impl.Item]"], unfollowed := true, recurses := true, apart := false, narrowed := true }
def FnBagsJoinedUptoSaid : Prop := fnBagsJoinedUptoRow.holds Try.pinned (OpenSpec.upto fnBagsJoinedSpec)

/-- 'laws.FnBagTexts', WHERE WHAT IT READS IS OF BULK AT MOST 1048576: true; the input reads as it did. -/
def fnBagTextsUptoRow : OpenClaim := { program := "ytdikkfhdogkniaa", sum := "a77bfb3c961fc5e30571bbde09f91cbda851df3da6f81e6fcde8d9ed5abb40ea", func := "loop.example/g00250/laws.FnBagTexts", spec := "fnBagTexts", inPlace := ["internal/abi.NoEscape"], apart := false, narrowed := true }
def FnBagTextsUptoSaid : Prop := fnBagTextsUptoRow.holds Try.pinned (OpenSpec.upto fnBagTextsSpec)

end Rows
end Go.Proofs.Ytdikkfhdogkniaa
