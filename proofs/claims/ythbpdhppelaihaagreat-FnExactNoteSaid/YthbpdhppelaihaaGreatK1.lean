/- Marks: every number turned to the next number, every bool to whether three goes into it; and what holds them. Conditions: none. -/
import Derived.Test.YthbpdhppelaihaaGreatW3
import Derived.Test.YthbpdhppelaihaaGreatP8
set_option linter.unusedVariables false
set_option linter.unusedSimpArgs false
namespace Go.Proofs.YthbpdhppelaihaaGreat
open Go.RowKit
attribute [local irreducible] Tri Weak
set_option maxRecDepth 4000
set_option maxHeartbeats 4000000
def mkG {α : Type} (f : Int → α → α) (c : α → Int) : Int → List α → List α
  | _, [] => []
  | k, x :: xs => f k x :: mkG f c (k + c x) xs
def cnG {α : Type} (c : α → Int) : List α → Int
  | [] => 0
  | x :: xs => c x + cnG c xs
def mkR {α : Type} (f : Int → α → α) (c : α → Int) (k : Int) (xs : List α) (i : Nat) : List α := mkG f c k (xs.take i) ++ xs.drop i
variable {α : Type} {f : Int → α → α} {c : α → Int}
@[simp] theorem mkG_len : ∀ (xs : List α) (k : Int), (mkG f c k xs).length = xs.length
  | [], _ => rfl
  | x :: xs, k => by simp [mkG, mkG_len xs]
theorem cnG_succ : ∀ (xs : List α) (i : Nat) (d : α), i < xs.length → cnG c (xs.take (i + 1)) = cnG c (xs.take i) + c (xs.getD i d)
  | x :: xs, 0, d, _ => by simp [cnG]
  | x :: xs, i + 1, d, h => by
    have := cnG_succ xs i d (by simpa using h)
    simp only [List.take_succ_cons, cnG, List.getD_cons_succ]
    omega
theorem mkG_succ : ∀ (xs : List α) (k : Int) (i : Nat) (d : α), i < xs.length → mkG f c k (xs.take (i + 1)) = mkG f c k (xs.take i) ++ [f (k + cnG c (xs.take i)) (xs.getD i d)]
  | x :: xs, k, 0, d, _ => by simp [mkG, cnG]
  | x :: xs, k, i + 1, d, h => by
    have := mkG_succ xs (k + c x) i d (by simpa using h)
    simp only [List.take_succ_cons, cnG, List.getD_cons_succ, mkG, List.cons_append]
    rw [this, Int.add_assoc]
theorem mkG_getD : ∀ (xs : List α) (k : Int) (i : Nat) (d : α), i < xs.length → (mkG f c k xs).getD i d = f (k + cnG c (xs.take i)) (xs.getD i d)
  | x :: xs, k, 0, d, _ => by simp [mkG, cnG]
  | x :: xs, k, i + 1, d, h => by
    have := mkG_getD xs (k + c x) i d (by simpa using h)
    simp only [List.take_succ_cons, cnG, List.getD_cons_succ, mkG]
    rw [this, Int.add_assoc]
theorem cnG_pos (h : ∀ x, 0 ≤ c x) : ∀ xs : List α, 0 ≤ cnG c xs
  | [] => by simp [cnG]
  | x :: xs => by
    have := cnG_pos h xs
    have := h x
    simp only [cnG]; omega
theorem cnG_take (h : ∀ x, 0 ≤ c x) : ∀ (xs : List α) (i : Nat), cnG c (xs.take i) ≤ cnG c xs
  | [], i => by simp [cnG]
  | x :: xs, 0 => by simpa [cnG] using cnG_pos h (x :: xs)
  | x :: xs, i + 1 => by
    have := cnG_take h xs i
    simp only [List.take_succ_cons, cnG]; omega
theorem cnG_all {xs : List α} {i : Nat} (h : xs.length ≤ i) : cnG c (xs.take i) = cnG c xs := by rw [List.take_of_length_le h]
@[simp] theorem mkR_len (xs : List α) (k : Int) (i : Nat) : (mkR f c k xs i).length = xs.length := by
  simp only [mkR, List.length_append, mkG_len, List.length_take, List.length_drop]; omega
theorem mkR_zero (xs : List α) (k : Int) : mkR f c k xs 0 = xs := by simp [mkR, mkG]
theorem mkR_get (xs : List α) (k : Int) (i : Nat) (d : α) (h : i < xs.length) : (mkR f c k xs i).getD i d = xs.getD i d := by
  have hl : (mkG f c k (xs.take i)).length = i := by rw [mkG_len, List.length_take]; omega
  rw [List.getD_eq_getElem?_getD, List.getD_eq_getElem?_getD]
  unfold mkR
  rw [List.getElem?_append_right (by omega), hl, Nat.sub_self, List.getElem?_drop]
  rfl
theorem mkR_set (xs : List α) (k : Int) (i : Nat) (d : α) (h : i < xs.length) : (mkR f c k xs i).set i (f (k + cnG c (xs.take i)) (xs.getD i d)) = mkR f c k xs (i + 1) := by
  have hl : (mkG f c k (xs.take i)).length = i := by rw [mkG_len, List.length_take]; omega
  unfold mkR
  rw [List.set_append_right _ _ (by omega), hl, Nat.sub_self, mkG_succ xs k i d h, drop_getD h d, List.set_cons_zero, List.append_assoc]
  rfl
theorem mkR_all {xs : List α} {i : Nat} (k : Int) (h : xs.length ≤ i) : mkR f c k xs i = mkG f c k xs := by
  unfold mkR
  rw [List.take_of_length_le h, List.drop_eq_nil_of_le h, List.append_nil]
theorem set_getD (xs : List α) (i : Nat) (y d : α) (h : i < xs.length) : (xs.set i y).getD i d = y := by
  rw [List.getD_eq_getElem?_getD, List.getElem?_set_self h]; rfl
abbrev cK {α : Type} (n : Int) (_ : α) : Int := n
theorem cK_pos {α : Type} {n : Int} (h : 0 ≤ n) (x : α) : 0 ≤ cK n x := h
def t3 (k : Int) : Bool := decide (k.tmod 3 = 0)
end Go.Proofs.YthbpdhppelaihaaGreat
