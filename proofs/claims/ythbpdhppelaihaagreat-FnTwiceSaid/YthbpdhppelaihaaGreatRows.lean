/-
  NARROWER THAN 'FOR EVERY INPUT', by the rows' own cells (each row's printed sentence says how): FnExactInject: loops · FnExactDrain: loops · FnExactSend: loops · FnExactNote: loops.
  DERIVED. THE GIVEN ROWS OF THIS SEAT. 6 by the template 'for every input the law returns true; each argument reads behind the call as it read before'; 0 by the template 'total and deterministic' (their statements: YthbpdhppelaihaaGreatTotals.lean).
  GIVEN WITH THE SEED: the statements are not yours to turn. If you find one false, say at which input.
  Laid BY PROGRAM, IN A SANDBOX (cutbox-rows.mjs): the forced cells as the released guide's own fill.sh prints them over the translation 3e66803b861542bd… (all of the seat's roots in one cut). By AI agents, Wed Nov 11 2026. No macro, syntax, notation, axiom, sorry.
-/
import Derived.Test.YthbpdhppelaihaaGreatChecked
import GoSem.Claim
import GoSem.ClaimJoined
import GoSem.ClaimMapViews
import Derived.JoinedTies
import Derived.KernelRfl
namespace Go.Proofs.YthbpdhppelaihaaGreat
/- THE CELL 'sum', in the pinned program and in every row, IS THE sha256 OF THE DUMP (.gsa) THAT YthbpdhppelaihaaGreatProg.lean LOADS. Nothing in Lean hashes anything: it is a label: what it is worth is what the hold of that sum in a sandbox is worth. -/
noncomputable def Tryz.pinned : Pinned := { name := "ythbpdhppelaihaagreat", sum := "3e66803b861542bd8b256bdc0d5e2bae60b6fed9e0fddd6bf9594d7ad5d1fef5", checked := Tryz.checked }
namespace Rows
def none {H : Type} : Left H := { results := [], args := [] }

/-- 'laws.FnExactBuild': WHATEVER THE INPUT: true; the input reads as it did. -/
def fnExactBuildSpec : ChangeSpec := { name := "fnExactBuild", fn := fun _ => fun
  | [d] => { results := [.lit (.bool true)], args := [d] }
  | _ => none }
def fnExactBuildRow : OpenClaim := { program := "ythbpdhppelaihaagreat", sum := "3e66803b861542bd8b256bdc0d5e2bae60b6fed9e0fddd6bf9594d7ad5d1fef5", func := "loop.example/g00234/laws.FnExactBuild", spec := "fnExactBuild", inPlace := ["slices.overlaps[loop.example/g00234/impl.Pair]"], unfollowed := true, recurses := true, apart := false }
def FnExactBuildSaid : Prop := fnExactBuildRow.holds Tryz.pinned (OpenSpec.ofChange fnExactBuildSpec)

/-- ITS FALSE NEIGHBOUR: 'it returns false'. Refute it at one input. -/
def fnExactBuildWrong : ChangeSpec := { name := "fnExactBuild", fn := fun _ => fun
  | [d] => { results := [.lit (.bool false)], args := [d] }
  | _ => none }
def FnExactBuildWrongFalsely : Prop := fnExactBuildRow.holds Tryz.pinned (OpenSpec.ofChange fnExactBuildWrong)

/-- 'laws.FnExactInject': WHATEVER THE INPUT: true; the input reads as it did. -/
def fnExactInjectSpec : ChangeSpec := { name := "fnExactInject", fn := fun _ => fun
  | [d1, d2] => { results := [.lit (.bool true)], args := [d1, d2] }
  | _ => none }
def fnExactInjectRow : OpenClaim := { program := "ythbpdhppelaihaagreat", sum := "3e66803b861542bd8b256bdc0d5e2bae60b6fed9e0fddd6bf9594d7ad5d1fef5", func := "loop.example/g00234/laws.FnExactInject", spec := "fnExactInject", inPlace := ["slices.overlaps[loop.example/g00234/impl.Pair]"], unfollowed := true, recurses := true, loops := true, apart := false }
def FnExactInjectSaid : Prop := fnExactInjectRow.holds Tryz.pinned (OpenSpec.ofChange fnExactInjectSpec)

/-- ITS FALSE NEIGHBOUR: 'it returns false'. Refute it at one input. -/
def fnExactInjectWrong : ChangeSpec := { name := "fnExactInject", fn := fun _ => fun
  | [d1, d2] => { results := [.lit (.bool false)], args := [d1, d2] }
  | _ => none }
def FnExactInjectWrongFalsely : Prop := fnExactInjectRow.holds Tryz.pinned (OpenSpec.ofChange fnExactInjectWrong)

/-- 'laws.FnExactDrain': WHATEVER THE INPUT: true; the input reads as it did. -/
def fnExactDrainSpec : ChangeSpec := { name := "fnExactDrain", fn := fun _ => fun
  | [d] => { results := [.lit (.bool true)], args := [d] }
  | _ => none }
def fnExactDrainRow : OpenClaim := { program := "ythbpdhppelaihaagreat", sum := "3e66803b861542bd8b256bdc0d5e2bae60b6fed9e0fddd6bf9594d7ad5d1fef5", func := "loop.example/g00234/laws.FnExactDrain", spec := "fnExactDrain", inPlace := ["slices.overlaps[loop.example/g00234/impl.Pair]"], unfollowed := true, recurses := true, loops := true, apart := false }
def FnExactDrainSaid : Prop := fnExactDrainRow.holds Tryz.pinned (OpenSpec.ofChange fnExactDrainSpec)

/-- ITS FALSE NEIGHBOUR: 'it returns false'. Refute it at one input. -/
def fnExactDrainWrong : ChangeSpec := { name := "fnExactDrain", fn := fun _ => fun
  | [d] => { results := [.lit (.bool false)], args := [d] }
  | _ => none }
def FnExactDrainWrongFalsely : Prop := fnExactDrainRow.holds Tryz.pinned (OpenSpec.ofChange fnExactDrainWrong)

/-- 'laws.FnExactSend': WHATEVER THE INPUT: true; the input reads as it did. -/
def fnExactSendSpec : ChangeSpec := { name := "fnExactSend", fn := fun _ => fun
  | [d1, d2] => { results := [.lit (.bool true)], args := [d1, d2] }
  | _ => none }
def fnExactSendRow : OpenClaim := { program := "ythbpdhppelaihaagreat", sum := "3e66803b861542bd8b256bdc0d5e2bae60b6fed9e0fddd6bf9594d7ad5d1fef5", func := "loop.example/g00234/laws.FnExactSend", spec := "fnExactSend", recurses := true, loops := true, apart := false }
def FnExactSendSaid : Prop := fnExactSendRow.holds Tryz.pinned (OpenSpec.ofChange fnExactSendSpec)

/-- ITS FALSE NEIGHBOUR: 'it returns false'. Refute it at one input. -/
def fnExactSendWrong : ChangeSpec := { name := "fnExactSend", fn := fun _ => fun
  | [d1, d2] => { results := [.lit (.bool false)], args := [d1, d2] }
  | _ => none }
def FnExactSendWrongFalsely : Prop := fnExactSendRow.holds Tryz.pinned (OpenSpec.ofChange fnExactSendWrong)

/-- 'laws.FnExactNote': WHATEVER THE INPUT: true; the input reads as it did. -/
def fnExactNoteSpec : ChangeSpec := { name := "fnExactNote", fn := fun _ => fun
  | [d1, d2, d3] => { results := [.lit (.bool true)], args := [d1, d2, d3] }
  | _ => none }
def fnExactNoteRow : OpenClaim := { program := "ythbpdhppelaihaagreat", sum := "3e66803b861542bd8b256bdc0d5e2bae60b6fed9e0fddd6bf9594d7ad5d1fef5", func := "loop.example/g00234/laws.FnExactNote", spec := "fnExactNote", recurses := true, loops := true, apart := false }
def FnExactNoteSaid : Prop := fnExactNoteRow.holds Tryz.pinned (OpenSpec.ofChange fnExactNoteSpec)

/-- ITS FALSE NEIGHBOUR: 'it returns false'. Refute it at one input. -/
def fnExactNoteWrong : ChangeSpec := { name := "fnExactNote", fn := fun _ => fun
  | [d1, d2, d3] => { results := [.lit (.bool false)], args := [d1, d2, d3] }
  | _ => none }
def FnExactNoteWrongFalsely : Prop := fnExactNoteRow.holds Tryz.pinned (OpenSpec.ofChange fnExactNoteWrong)

/-- 'laws.FnTwice': WHATEVER THE INPUT: true; the input reads as it did. -/
def fnTwiceSpec : ChangeSpec := { name := "fnTwice", fn := fun _ => fun
  | [d] => { results := [.lit (.bool true)], args := [d] }
  | _ => none }
def fnTwiceRow : OpenClaim := { program := "ythbpdhppelaihaagreat", sum := "3e66803b861542bd8b256bdc0d5e2bae60b6fed9e0fddd6bf9594d7ad5d1fef5", func := "loop.example/g00234/laws.FnTwice", spec := "fnTwice", inPlace := ["slices.overlaps[loop.example/g00234/impl.Pair]"], unfollowed := true, recurses := true, apart := false }
def FnTwiceSaid : Prop := fnTwiceRow.holds Tryz.pinned (OpenSpec.ofChange fnTwiceSpec)

/-- ITS FALSE NEIGHBOUR: 'it returns false'. Refute it at one input. -/
def fnTwiceWrong : ChangeSpec := { name := "fnTwice", fn := fun _ => fun
  | [d] => { results := [.lit (.bool false)], args := [d] }
  | _ => none }
def FnTwiceWrongFalsely : Prop := fnTwiceRow.holds Tryz.pinned (OpenSpec.ofChange fnTwiceWrong)

/- THE SECOND FORM. 'bulk': how many values and letters a reading holds, each counted each time it is reached (what is shared counts as often as it is met; a slice's spare places count too). A statement '..UptoSaid' is the law's where the arguments, and the package variables that the reading takes, are together of bulk at most 1048576: NARROWER than '..Said'. Prove '..Said' where nothing that the law and all that it calls make is longer than what came in: it says more and counts as full. Else prove '..UptoSaid'. A law counts once. -/
mutual
def uptoBulk {H : Type} : DataW H → Nat
  | .lit (.string bytes) => bytes.length + 1
  | .lit _ => 1
  | .nil => 1
  | .ptr d => uptoBulk d + 1
  | .slice elems spare => uptoBulkAll elems + uptoBulkAll spare + 1
  | .agg parts => uptoBulkAll parts + 1
  | .iface _ d => uptoBulk d + 1
  | .map entries => uptoBulkEntries entries + 1
  | .held _ => 1
def uptoBulkAll {H : Type} : List (DataW H) → Nat
  | [] => 0
  | d :: r => uptoBulk d + uptoBulkAll r
def uptoBulkEntries {H : Type} : List (Lit × DataW H) → Nat
  | [] => 0
  | x :: r => uptoBulkEntry x + uptoBulkEntries r
def uptoBulkEntry {H : Type} : Lit × DataW H → Nat
  | (.string bytes, d) => bytes.length + uptoBulk d + 1
  | (_, d) => uptoBulk d + 1
 end
def uptoSmall : (H : Type) → List (DataW H) → Bool := fun _ ds => decide (uptoBulkAll ds ≤ 1048576)
def OpenSpec.upto (s : _root_.Go.ChangeSpec) : _root_.Go.OpenSpec := { _root_.Go.OpenSpec.ofChange s with cond := some uptoSmall }

/-- 'laws.FnExactBuild', WHERE WHAT IT READS IS OF BULK AT MOST 1048576: true; the input reads as it did. -/
def fnExactBuildUptoRow : OpenClaim := { program := "ythbpdhppelaihaagreat", sum := "3e66803b861542bd8b256bdc0d5e2bae60b6fed9e0fddd6bf9594d7ad5d1fef5", func := "loop.example/g00234/laws.FnExactBuild", spec := "fnExactBuild", inPlace := ["slices.overlaps[loop.example/g00234/impl.Pair]"], unfollowed := true, recurses := true, apart := false, narrowed := true }
def FnExactBuildUptoSaid : Prop := fnExactBuildUptoRow.holds Tryz.pinned (OpenSpec.upto fnExactBuildSpec)

/-- 'laws.FnExactInject', WHERE WHAT IT READS IS OF BULK AT MOST 1048576: true; the input reads as it did. -/
def fnExactInjectUptoRow : OpenClaim := { program := "ythbpdhppelaihaagreat", sum := "3e66803b861542bd8b256bdc0d5e2bae60b6fed9e0fddd6bf9594d7ad5d1fef5", func := "loop.example/g00234/laws.FnExactInject", spec := "fnExactInject", inPlace := ["slices.overlaps[loop.example/g00234/impl.Pair]"], unfollowed := true, recurses := true, loops := true, apart := false, narrowed := true }
def FnExactInjectUptoSaid : Prop := fnExactInjectUptoRow.holds Tryz.pinned (OpenSpec.upto fnExactInjectSpec)

/-- 'laws.FnExactDrain', WHERE WHAT IT READS IS OF BULK AT MOST 1048576: true; the input reads as it did. -/
def fnExactDrainUptoRow : OpenClaim := { program := "ythbpdhppelaihaagreat", sum := "3e66803b861542bd8b256bdc0d5e2bae60b6fed9e0fddd6bf9594d7ad5d1fef5", func := "loop.example/g00234/laws.FnExactDrain", spec := "fnExactDrain", inPlace := ["slices.overlaps[loop.example/g00234/impl.Pair]"], unfollowed := true, recurses := true, loops := true, apart := false, narrowed := true }
def FnExactDrainUptoSaid : Prop := fnExactDrainUptoRow.holds Tryz.pinned (OpenSpec.upto fnExactDrainSpec)

/-- 'laws.FnExactSend', WHERE WHAT IT READS IS OF BULK AT MOST 1048576: true; the input reads as it did. -/
def fnExactSendUptoRow : OpenClaim := { program := "ythbpdhppelaihaagreat", sum := "3e66803b861542bd8b256bdc0d5e2bae60b6fed9e0fddd6bf9594d7ad5d1fef5", func := "loop.example/g00234/laws.FnExactSend", spec := "fnExactSend", recurses := true, loops := true, apart := false, narrowed := true }
def FnExactSendUptoSaid : Prop := fnExactSendUptoRow.holds Tryz.pinned (OpenSpec.upto fnExactSendSpec)

/-- 'laws.FnExactNote', WHERE WHAT IT READS IS OF BULK AT MOST 1048576: true; the input reads as it did. -/
def fnExactNoteUptoRow : OpenClaim := { program := "ythbpdhppelaihaagreat", sum := "3e66803b861542bd8b256bdc0d5e2bae60b6fed9e0fddd6bf9594d7ad5d1fef5", func := "loop.example/g00234/laws.FnExactNote", spec := "fnExactNote", recurses := true, loops := true, apart := false, narrowed := true }
def FnExactNoteUptoSaid : Prop := fnExactNoteUptoRow.holds Tryz.pinned (OpenSpec.upto fnExactNoteSpec)

/-- 'laws.FnTwice', WHERE WHAT IT READS IS OF BULK AT MOST 1048576: true; the input reads as it did. -/
def fnTwiceUptoRow : OpenClaim := { program := "ythbpdhppelaihaagreat", sum := "3e66803b861542bd8b256bdc0d5e2bae60b6fed9e0fddd6bf9594d7ad5d1fef5", func := "loop.example/g00234/laws.FnTwice", spec := "fnTwice", inPlace := ["slices.overlaps[loop.example/g00234/impl.Pair]"], unfollowed := true, recurses := true, apart := false, narrowed := true }
def FnTwiceUptoSaid : Prop := fnTwiceUptoRow.holds Tryz.pinned (OpenSpec.upto fnTwiceSpec)

end Rows
end Go.Proofs.YthbpdhppelaihaaGreat
