/- CALLS, met by contracts. Conditions: none. -/
import Derived.Test.YthbpdhppelaihaaH3
set_option linter.unusedVariables false
set_option linter.unusedSimpArgs false
namespace Go.Proofs.Ythbpdhppelaihaa
open Go.RowKit
variable {P : Program}
theorem call_p {f : Nat} {as : List A} {r : A} (hr : Ret P f as [] r []) {h : Nat → Option Ob} {nx : Nat} {args : List A} {K : A → Hp → List Nat → Prop} (ha : args = renL (renId [] nx) as) (hi : allL (Def []) as) (hk : K (r.ren (renId [] nx)) [] []) : callA P h nx f args K := by
  unfold callA
  exact ⟨as, [], r, [], [], hr, ha, List.nodup_nil, fun k => by simp [Def, get], trivial, trivial, hi, trivial, hk⟩
theorem wrap_i64 {n : Int} (h0 : -9223372036854775808 ≤ n) (h1 : n ≤ 9223372036854775807) : IntKind.i64.wrap n = n := by
  simp only [IntKind.wrap, IntKind.signed, IntKind.bits]
  simp
  omega
/-- A row that is filled from the left. -/
theorem fill_set {α : Type} (xs : List α) (d : α) {i : Nat} (h : i < xs.length) : (xs.take i ++ List.replicate (xs.length - i) d).set i (xs.getD i d) = xs.take (i + 1) ++ List.replicate (xs.length - (i + 1)) d := by
  have hl : (xs.take i).length = i := by simp; omega
  rw [List.set_append_right _ _ (by omega), hl, Nat.sub_self, show xs.length - i = (xs.length - (i + 1)) + 1 from by omega, List.replicate_succ, List.set_cons_zero]
  rw [List.take_add_one, List.append_assoc, List.getD_eq_getElem?_getD, List.getElem?_eq_getElem h]
  rfl
theorem fill_all {α : Type} (xs : List α) (d : α) {i : Nat} (h : xs.length ≤ i) : xs.take i ++ List.replicate (xs.length - i) d = xs := by
  rw [List.take_of_length_le h, Nat.sub_eq_zero_of_le h]; simp
/-- Alike or not. -/
noncomputable def eqB {α : Type} (x y : α) : Bool := @decide (x = y) (Classical.propDecidable _)
theorem eqB_yes {α : Type} {x y : α} (h : x = y) : eqB x y = true := by unfold eqB; simp [h]
theorem eqB_no {α : Type} {x y : α} (h : x ≠ y) : eqB x y = false := by unfold eqB; simp [h]
end Go.Proofs.Ythbpdhppelaihaa
