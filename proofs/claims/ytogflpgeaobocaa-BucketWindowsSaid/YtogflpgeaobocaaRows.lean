/-
  No cell of these rows narrows 'for every input' (looked for: loops, veiled, ifaces, maps, wideKeys, modest, calm, conditions, laid).
  DERIVED. THE GIVEN ROWS OF THIS SEAT. 7 by the template 'for every input the law returns true; each argument reads behind the call as it read before'; 0 by the template 'total and deterministic' (their statements: YtogflpgeaobocaaTotals.lean).
  GIVEN WITH THE SEED: the statements are not yours to turn. If you find one false, say at which input.
  Laid BY PROGRAM, IN A SANDBOX (cutbox-rows.mjs): the forced cells as the released guide's own fill.sh prints them over the translation 436c9b884e06ed48… (all of the seat's roots in one cut). By AI agents, Wed Nov 11 2026. No macro, syntax, notation, axiom, sorry.
-/
import Derived.Test.YtogflpgeaobocaaChecked
import GoSem.Claim
import GoSem.ClaimJoined
import GoSem.ClaimMapViews
import Derived.JoinedTies
import Derived.KernelRfl
namespace Go.Proofs.Ytogflpgeaobocaa
/- THE CELL 'sum', in the pinned program and in every row, IS THE sha256 OF THE DUMP (.gsa) THAT YtogflpgeaobocaaProg.lean LOADS. Nothing in Lean hashes anything: it is a label: what it is worth is what the hold of that sum in a sandbox is worth. -/
noncomputable def Try.pinned : Pinned := { name := "ytogflpgeaobocaa", sum := "436c9b884e06ed48123851be13a50431832686f42ea4ec86344c63be4b6b3163", checked := Try.checked }
namespace Rows
def none {H : Type} : Left H := { results := [], args := [] }

/-- 'concourselaw24.AccountSteps': WHATEVER THE INPUT: true; the input reads as it did. -/
def accountStepsSpec : ChangeSpec := { name := "accountSteps", fn := fun _ => fun
  | [d1, d2] => { results := [.lit (.bool true)], args := [d1, d2] }
  | _ => none }
def accountStepsRow : OpenClaim := { program := "ytogflpgeaobocaa", sum := "436c9b884e06ed48123851be13a50431832686f42ea4ec86344c63be4b6b3163", func := "concourse/concourselaw24.AccountSteps", spec := "accountSteps", unfollowed := true, recurses := true, apart := false }
def AccountStepsSaid : Prop := accountStepsRow.holds Try.pinned (OpenSpec.ofChange accountStepsSpec)

/-- ITS FALSE NEIGHBOUR: 'it returns false'. Refute it at one input. -/
def accountStepsWrong : ChangeSpec := { name := "accountSteps", fn := fun _ => fun
  | [d1, d2] => { results := [.lit (.bool false)], args := [d1, d2] }
  | _ => none }
def AccountStepsWrongFalsely : Prop := accountStepsRow.holds Try.pinned (OpenSpec.ofChange accountStepsWrong)

/-- 'concourselaw24.AccountKeeps': WHATEVER THE INPUT: true; the input reads as it did. -/
def accountKeepsSpec : ChangeSpec := { name := "accountKeeps", fn := fun _ => fun
  | [d1, d2] => { results := [.lit (.bool true)], args := [d1, d2] }
  | _ => none }
def accountKeepsRow : OpenClaim := { program := "ytogflpgeaobocaa", sum := "436c9b884e06ed48123851be13a50431832686f42ea4ec86344c63be4b6b3163", func := "concourse/concourselaw24.AccountKeeps", spec := "accountKeeps", unfollowed := true, recurses := true, apart := false }
def AccountKeepsSaid : Prop := accountKeepsRow.holds Try.pinned (OpenSpec.ofChange accountKeepsSpec)

/-- ITS FALSE NEIGHBOUR: 'it returns false'. Refute it at one input. -/
def accountKeepsWrong : ChangeSpec := { name := "accountKeeps", fn := fun _ => fun
  | [d1, d2] => { results := [.lit (.bool false)], args := [d1, d2] }
  | _ => none }
def AccountKeepsWrongFalsely : Prop := accountKeepsRow.holds Try.pinned (OpenSpec.ofChange accountKeepsWrong)

/-- 'concourselaw24.AccountNone': WHATEVER THE INPUT: true; the input reads as it did. -/
def accountNoneSpec : ChangeSpec := { name := "accountNone", fn := fun _ => fun
  | [d] => { results := [.lit (.bool true)], args := [d] }
  | _ => none }
def accountNoneRow : OpenClaim := { program := "ytogflpgeaobocaa", sum := "436c9b884e06ed48123851be13a50431832686f42ea4ec86344c63be4b6b3163", func := "concourse/concourselaw24.AccountNone", spec := "accountNone", unfollowed := true, recurses := true, apart := false }
def AccountNoneSaid : Prop := accountNoneRow.holds Try.pinned (OpenSpec.ofChange accountNoneSpec)

/-- ITS FALSE NEIGHBOUR: 'it returns false'. Refute it at one input. -/
def accountNoneWrong : ChangeSpec := { name := "accountNone", fn := fun _ => fun
  | [d] => { results := [.lit (.bool false)], args := [d] }
  | _ => none }
def AccountNoneWrongFalsely : Prop := accountNoneRow.holds Try.pinned (OpenSpec.ofChange accountNoneWrong)

/-- 'concourselaw23.BucketSteps': WHATEVER THE INPUT: true; the input reads as it did. -/
def bucketStepsSpec : ChangeSpec := { name := "bucketSteps", fn := fun _ => fun
  | [d1, d2, d3] => { results := [.lit (.bool true)], args := [d1, d2, d3] }
  | _ => none }
def bucketStepsRow : OpenClaim := { program := "ytogflpgeaobocaa", sum := "436c9b884e06ed48123851be13a50431832686f42ea4ec86344c63be4b6b3163", func := "concourse/concourselaw23.BucketSteps", spec := "bucketSteps", apart := false }
def BucketStepsSaid : Prop := bucketStepsRow.holds Try.pinned (OpenSpec.ofChange bucketStepsSpec)

/-- ITS FALSE NEIGHBOUR: 'it returns false'. Refute it at one input. -/
def bucketStepsWrong : ChangeSpec := { name := "bucketSteps", fn := fun _ => fun
  | [d1, d2, d3] => { results := [.lit (.bool false)], args := [d1, d2, d3] }
  | _ => none }
def BucketStepsWrongFalsely : Prop := bucketStepsRow.holds Try.pinned (OpenSpec.ofChange bucketStepsWrong)

/-- 'concourselaw23.BucketWindows': WHATEVER THE INPUT: true; the input reads as it did. -/
def bucketWindowsSpec : ChangeSpec := { name := "bucketWindows", fn := fun _ => fun
  | [d1, d2, d3] => { results := [.lit (.bool true)], args := [d1, d2, d3] }
  | _ => none }
def bucketWindowsRow : OpenClaim := { program := "ytogflpgeaobocaa", sum := "436c9b884e06ed48123851be13a50431832686f42ea4ec86344c63be4b6b3163", func := "concourse/concourselaw23.BucketWindows", spec := "bucketWindows", apart := false }
def BucketWindowsSaid : Prop := bucketWindowsRow.holds Try.pinned (OpenSpec.ofChange bucketWindowsSpec)

/-- ITS FALSE NEIGHBOUR: 'it returns false'. Refute it at one input. -/
def bucketWindowsWrong : ChangeSpec := { name := "bucketWindows", fn := fun _ => fun
  | [d1, d2, d3] => { results := [.lit (.bool false)], args := [d1, d2, d3] }
  | _ => none }
def BucketWindowsWrongFalsely : Prop := bucketWindowsRow.holds Try.pinned (OpenSpec.ofChange bucketWindowsWrong)

/-- 'concourselaw23.BucketNone': WHATEVER THE INPUT: true; the input reads as it did. -/
def bucketNoneSpec : ChangeSpec := { name := "bucketNone", fn := fun _ => fun
  | [d] => { results := [.lit (.bool true)], args := [d] }
  | _ => none }
def bucketNoneRow : OpenClaim := { program := "ytogflpgeaobocaa", sum := "436c9b884e06ed48123851be13a50431832686f42ea4ec86344c63be4b6b3163", func := "concourse/concourselaw23.BucketNone", spec := "bucketNone", apart := false }
def BucketNoneSaid : Prop := bucketNoneRow.holds Try.pinned (OpenSpec.ofChange bucketNoneSpec)

/-- ITS FALSE NEIGHBOUR: 'it returns false'. Refute it at one input. -/
def bucketNoneWrong : ChangeSpec := { name := "bucketNone", fn := fun _ => fun
  | [d] => { results := [.lit (.bool false)], args := [d] }
  | _ => none }
def BucketNoneWrongFalsely : Prop := bucketNoneRow.holds Try.pinned (OpenSpec.ofChange bucketNoneWrong)

/-- 'concourselaw23.BucketWaits': WHATEVER THE INPUT: true; the input reads as it did. -/
def bucketWaitsSpec : ChangeSpec := { name := "bucketWaits", fn := fun _ => fun
  | [d1, d2, d3] => { results := [.lit (.bool true)], args := [d1, d2, d3] }
  | _ => none }
def bucketWaitsRow : OpenClaim := { program := "ytogflpgeaobocaa", sum := "436c9b884e06ed48123851be13a50431832686f42ea4ec86344c63be4b6b3163", func := "concourse/concourselaw23.BucketWaits", spec := "bucketWaits", apart := false }
def BucketWaitsSaid : Prop := bucketWaitsRow.holds Try.pinned (OpenSpec.ofChange bucketWaitsSpec)

/-- ITS FALSE NEIGHBOUR: 'it returns false'. Refute it at one input. -/
def bucketWaitsWrong : ChangeSpec := { name := "bucketWaits", fn := fun _ => fun
  | [d1, d2, d3] => { results := [.lit (.bool false)], args := [d1, d2, d3] }
  | _ => none }
def BucketWaitsWrongFalsely : Prop := bucketWaitsRow.holds Try.pinned (OpenSpec.ofChange bucketWaitsWrong)

/- THE SECOND FORM. 'bulk': how many values and letters a reading holds, each counted each time it is reached (what is shared counts as often as it is met; a slice's spare places count too). A statement '..UptoSaid' is the law's where the arguments, and the package variables that the reading takes, are together of bulk at most 1048576: NARROWER than '..Said'. Prove '..Said' where nothing that the law and all that it calls make is longer than what came in: it says more and counts as full. Else prove '..UptoSaid'. A law counts once. -/
mutual
def uptoBulk {H : Type} : DataW H → Nat
  | .lit (.string bytes) => bytes.length + 1
  | .lit _ => 1
  | .nil => 1
  | .ptr d => uptoBulk d + 1
  | .slice elems spare => uptoBulkAll elems + uptoBulkAll spare + 1
  | .agg parts => uptoBulkAll parts + 1
  | .iface _ d => uptoBulk d + 1
  | .map entries => uptoBulkEntries entries + 1
  | .held _ => 1
def uptoBulkAll {H : Type} : List (DataW H) → Nat
  | [] => 0
  | d :: r => uptoBulk d + uptoBulkAll r
def uptoBulkEntries {H : Type} : List (Lit × DataW H) → Nat
  | [] => 0
  | x :: r => uptoBulkEntry x + uptoBulkEntries r
def uptoBulkEntry {H : Type} : Lit × DataW H → Nat
  | (.string bytes, d) => bytes.length + uptoBulk d + 1
  | (_, d) => uptoBulk d + 1
 end
def uptoSmall : (H : Type) → List (DataW H) → Bool := fun _ ds => decide (uptoBulkAll ds ≤ 1048576)
def OpenSpec.upto (s : _root_.Go.ChangeSpec) : _root_.Go.OpenSpec := { _root_.Go.OpenSpec.ofChange s with cond := some uptoSmall }

/-- 'concourselaw24.AccountSteps', WHERE WHAT IT READS IS OF BULK AT MOST 1048576: true; the input reads as it did. -/
def accountStepsUptoRow : OpenClaim := { program := "ytogflpgeaobocaa", sum := "436c9b884e06ed48123851be13a50431832686f42ea4ec86344c63be4b6b3163", func := "concourse/concourselaw24.AccountSteps", spec := "accountSteps", unfollowed := true, recurses := true, apart := false, narrowed := true }
def AccountStepsUptoSaid : Prop := accountStepsUptoRow.holds Try.pinned (OpenSpec.upto accountStepsSpec)

/-- 'concourselaw24.AccountKeeps', WHERE WHAT IT READS IS OF BULK AT MOST 1048576: true; the input reads as it did. -/
def accountKeepsUptoRow : OpenClaim := { program := "ytogflpgeaobocaa", sum := "436c9b884e06ed48123851be13a50431832686f42ea4ec86344c63be4b6b3163", func := "concourse/concourselaw24.AccountKeeps", spec := "accountKeeps", unfollowed := true, recurses := true, apart := false, narrowed := true }
def AccountKeepsUptoSaid : Prop := accountKeepsUptoRow.holds Try.pinned (OpenSpec.upto accountKeepsSpec)

/-- 'concourselaw24.AccountNone', WHERE WHAT IT READS IS OF BULK AT MOST 1048576: true; the input reads as it did. -/
def accountNoneUptoRow : OpenClaim := { program := "ytogflpgeaobocaa", sum := "436c9b884e06ed48123851be13a50431832686f42ea4ec86344c63be4b6b3163", func := "concourse/concourselaw24.AccountNone", spec := "accountNone", unfollowed := true, recurses := true, apart := false, narrowed := true }
def AccountNoneUptoSaid : Prop := accountNoneUptoRow.holds Try.pinned (OpenSpec.upto accountNoneSpec)

/-- 'concourselaw23.BucketSteps', WHERE WHAT IT READS IS OF BULK AT MOST 1048576: true; the input reads as it did. -/
def bucketStepsUptoRow : OpenClaim := { program := "ytogflpgeaobocaa", sum := "436c9b884e06ed48123851be13a50431832686f42ea4ec86344c63be4b6b3163", func := "concourse/concourselaw23.BucketSteps", spec := "bucketSteps", apart := false, narrowed := true }
def BucketStepsUptoSaid : Prop := bucketStepsUptoRow.holds Try.pinned (OpenSpec.upto bucketStepsSpec)

/-- 'concourselaw23.BucketWindows', WHERE WHAT IT READS IS OF BULK AT MOST 1048576: true; the input reads as it did. -/
def bucketWindowsUptoRow : OpenClaim := { program := "ytogflpgeaobocaa", sum := "436c9b884e06ed48123851be13a50431832686f42ea4ec86344c63be4b6b3163", func := "concourse/concourselaw23.BucketWindows", spec := "bucketWindows", apart := false, narrowed := true }
def BucketWindowsUptoSaid : Prop := bucketWindowsUptoRow.holds Try.pinned (OpenSpec.upto bucketWindowsSpec)

/-- 'concourselaw23.BucketNone', WHERE WHAT IT READS IS OF BULK AT MOST 1048576: true; the input reads as it did. -/
def bucketNoneUptoRow : OpenClaim := { program := "ytogflpgeaobocaa", sum := "436c9b884e06ed48123851be13a50431832686f42ea4ec86344c63be4b6b3163", func := "concourse/concourselaw23.BucketNone", spec := "bucketNone", apart := false, narrowed := true }
def BucketNoneUptoSaid : Prop := bucketNoneUptoRow.holds Try.pinned (OpenSpec.upto bucketNoneSpec)

/-- 'concourselaw23.BucketWaits', WHERE WHAT IT READS IS OF BULK AT MOST 1048576: true; the input reads as it did. -/
def bucketWaitsUptoRow : OpenClaim := { program := "ytogflpgeaobocaa", sum := "436c9b884e06ed48123851be13a50431832686f42ea4ec86344c63be4b6b3163", func := "concourse/concourselaw23.BucketWaits", spec := "bucketWaits", apart := false, narrowed := true }
def BucketWaitsUptoSaid : Prop := bucketWaitsUptoRow.holds Try.pinned (OpenSpec.upto bucketWaitsSpec)

end Rows
end Go.Proofs.Ytogflpgeaobocaa
