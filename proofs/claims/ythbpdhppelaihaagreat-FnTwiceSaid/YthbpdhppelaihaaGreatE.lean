/- The numbers that the elements' types bear in this program. By program. -/
import Derived.Test.YthbpdhppelaihaaGreatD
namespace Go.Proofs.YthbpdhppelaihaaGreat
def etOf : Ty → Nat
 | .int => 3
 | .bool => 4
 | .u8 => 5
 | .str => 9
 | .pr => 115
 | .ms => 47
 | .tr => 29
 | .cm => 176
 | .dn => 238
 | .en => 178
 | .nd => 92
 | .rp => 152
 | .ld => 180
 | .su => 198
 | .wr => 203
 | .lint => 25
 | .lms => 27
 | .ltr => 26
end Go.Proofs.YthbpdhppelaihaaGreat