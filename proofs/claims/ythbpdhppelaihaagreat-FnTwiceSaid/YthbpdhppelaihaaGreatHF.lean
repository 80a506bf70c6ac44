/- An element of a row that is one's own all the way down, laid open: what it leads to are objects for a while. Conditions: none. -/
import Derived.Test.YthbpdhppelaihaaGreatH4
set_option linter.unusedVariables false
set_option linter.unusedSimpArgs false
namespace Go.Proofs.YthbpdhppelaihaaGreat
open Go.RowKit
def obF (e : Ty) (xs : List (El e)) : Ob := match flat e with
 | true => .row e xs
 | false => .dp e xs
def focA : Nat → List C → List A
 | _, [] => []
 | nx, .sl _ _ :: l => .rw nx :: focA (nx + 1) l
 | nx, .int k n :: l => .c (.int k n) :: focA nx l
 | nx, .bool b :: l => .c (.bool b) :: focA nx l
 | nx, .str s :: l => .c (.str s) :: focA nx l
def focH : Nat → List C → Hp
 | _, [] => []
 | nx, .sl e xs :: l => (nx, obF e xs) :: focH (nx + 1) l
 | nx, .int _ _ :: l => focH nx l
 | nx, .bool _ :: l => focH nx l
 | nx, .str _ :: l => focH nx l
abbrev ownA (e : Ty) (x : El e) : A := .ag (focA 0 (cells e x))
abbrev ownH (e : Ty) (x : El e) : Hp := focH 0 (cells e x)
end Go.Proofs.YthbpdhppelaihaaGreat