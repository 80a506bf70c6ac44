/- The library's slices functions at the program's types. Conditions: none. -/
import Derived.Test.YthbpdhppelaihaaGreatH5
import Derived.Test.YthbpdhppelaihaaGreatHF
import Derived.Test.YthbpdhppelaihaaGreatN
set_option linter.unusedVariables false
set_option linter.unusedSimpArgs false
namespace Go.Proofs.YthbpdhppelaihaaGreat
open Go.RowKit
attribute [local irreducible] Tri Weak
set_option maxRecDepth 4000
set_option maxHeartbeats 4000000
/-- A datum that is handed over is not too long. -/
theorem ret_giv {P : Program} {f : Nat} {az : List A} {hin : Hp} {r : A} {hout : Hp} (j : Nat) {e : Ty} {xs : List (El e)} (he : Ent P f) (ha : az[j]? = some (.c (.sl e xs))) (h : xs.length * byE e ≤ 140737488355328 → Ret P f az hin r hout) : Ret P f az hin r hout := by
  refine ⟨he, fun F V B w args h1 h2 h3 h4 h5 => ?_⟩
  obtain ⟨u, hu, hr⟩ := h4.get ha
  have hb : xs.length * byE e ≤ 140737488355328 := by
    cases hr with | c hr => cases hr with | sl _ _ _ _ _ _ hb _ _ => exact hb
  exact (h hb).2 F V B w args h1 h2 h3 h4 h5
theorem ret_givR {P : Program} {f : Nat} {az : List A} {hin : Hp} {r : A} {hout : Hp} (j : Nat) {e : Ty} {xs : List (El e)} (he : Ent P f) (ha : get hin j = some (.row e xs)) (h : xs.length * byE e ≤ 140737488355328 → Ret P f az hin r hout) : Ret P f az hin r hout := by
  refine ⟨he, fun F V B w args h1 h2 h3 h4 h5 => ?_⟩
  have hob := h3.ob _ _ ha
  cases hob with | row _ _ _ _ _ hb => exact (h hb).2 F V B w args h1 h2 h3 h4 h5
/-- The first rows, put together; how many elements. -/
def catR {α : Type} (xss : List (List α)) (i : Nat) : List α := (xss.take i).flatten
def catN {α : Type} (xss : List (List α)) (i : Nat) : Nat := (catR xss i).length
theorem catR_len {α : Type} (xss : List (List α)) (i : Nat) : (catR xss i).length = catN xss i := rfl
theorem catR_zero {α : Type} (xss : List (List α)) : catR xss 0 = [] := rfl
theorem catN_zero {α : Type} (xss : List (List α)) : catN xss 0 = 0 := rfl
theorem catN_le {α : Type} (xss : List (List α)) (i : Nat) : catN xss i ≤ xss.flatten.length := by
  conv => rhs; rw [← List.take_append_drop i xss, List.flatten_append, List.length_append]
  unfold catN catR
  omega
theorem catR_succ {α : Type} (xss : List (List α)) (i : Nat) (d : List α) (h : i < xss.length) : catR xss (i + 1) = catR xss i ++ xss.getD i d := by
  unfold catR
  rw [List.take_add_one, List.getD_eq_getElem?_getD, List.getElem?_eq_getElem h, List.flatten_append]
  simp
theorem catN_succ {α : Type} (xss : List (List α)) (i : Nat) (d : List α) (h : i < xss.length) : catN xss (i + 1) = catN xss i + (xss.getD i d).length := by
  unfold catN
  rw [catR_succ xss i d h, List.length_append]
theorem catR_all {α : Type} (xss : List (List α)) (i : Nat) (h : xss.length ≤ i) : catR xss i = xss.flatten := by
  unfold catR; rw [List.take_of_length_le h]
end Go.Proofs.YthbpdhppelaihaaGreat
