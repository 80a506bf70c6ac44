/- The numbers that the elements' types bear in this program. By program. -/
import Derived.Test.YthbpdhppelaihaaD
namespace Go.Proofs.Ythbpdhppelaihaa
def etOf : Ty → Nat
  | .int => 3
  | .bool => 4
  | .u8 => 5
  | .str => 9
  | .pr => 64
  | .ms => 86
  | .tr => 39
  | .cm => 88
  | .dn => 142
  | .en => 177
  | .nd => 133
  | .rp => 136
  | .ld => 146
  | .su => 0
  | .wr => 0
  | .lint => 29
  | .lms => 37
  | .ltr => 36
end Go.Proofs.Ythbpdhppelaihaa
