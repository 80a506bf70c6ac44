/- A map's text: spec.MapText, impl.MapText. Conditions: none. -/
import Derived.Test.YthbpdhppelaihaaM1
import Derived.Test.YthbpdhppelaihaaM2
import Derived.Lib.Join
set_option linter.unusedVariables false
set_option linter.unusedSimpArgs false
namespace Go.Proofs.Ythbpdhppelaihaa
open Go.RowKit
attribute [local irreducible] Tri
set_option maxRecDepth 4000
set_option maxHeartbeats 4000000
def pt (p : Pr) : List UInt8 := dec p.k ++ [61] ++ dec p.v
def tx (xs : List Pr) : List UInt8 := Lib.join (xs.map pt) [32]
def mt : List Pr → List UInt8
  | [] => [45]
  | xs => tx xs
theorem tx_nil : tx [] = [] := rfl
theorem tx_snoc (ys : List Pr) (p : Pr) : tx (ys ++ [p]) = if ys.length = 0 then pt p else tx ys ++ [32] ++ pt p := by
  cases ys with
  | nil => simp [tx, Lib.join_one]
  | cons y ys =>
    simp only [tx, List.cons_append, List.map_cons, List.map_append, List.map_nil, List.length_cons]
    rw [Lib.join_cons, Lib.join_cons, if_neg (by omega)]
    simp [Lib.joinTail]
theorem pt_ne (p : Pr) : pt p ≠ [] := by simp [pt]
def ok1 (p : Pr) : Prop := inR p.k ∧ inR p.v
theorem pt_len {p : Pr} (h : ok1 p) : (pt p).length ≤ 43 := by
  have h1 := dec_len h.1
  have h2 := dec_len h.2
  simp [pt]; omega
theorem tx_len {xs : List Pr} (h : ∀ p ∈ xs, ok1 p) : ∀ i, i ≤ xs.length → (tx (xs.take i)).length ≤ 44 * i
  | 0, _ => by simp [tx_nil]
  | i + 1, hi => by
    have ih := tx_len h i (by omega)
    have hlt : i < xs.length := by omega
    have hp := pt_len (h _ (List.getElem_mem hlt))
    rw [List.take_add_one, List.getElem?_eq_getElem hlt]
    show (tx (xs.take i ++ [xs[i]])).length ≤ _
    rw [tx_snoc]
    split
    · omega
    · simp; omega
theorem tx_step {xs : List Pr} {i : Nat} (h : i < xs.length) : tx (xs.take (i + 1)) = if i = 0 then pt (xs.getD i zPr) else tx (xs.take i) ++ [32] ++ pt (xs.getD i zPr) := by
  rw [List.take_add_one, getD_some h zPr]
  show tx (xs.take i ++ [xs.getD i zPr]) = _
  rw [tx_snoc]
  have : (xs.take i).length = i := by simp; omega
  rw [this]
theorem tx_ne {xs : List Pr} (h : xs ≠ []) : tx xs ≠ [] := by
  cases xs with
  | nil => exact (h rfl).elim
  | cons x xs =>
    simp only [tx, List.map_cons]
    rw [Lib.join_cons]
    simp [pt_ne]
theorem c7 (xs : List Pr) (hok : ∀ p ∈ xs, ok1 p) (hn : xs.length ≤ 1048576) : Ret Try.prog 7 [.c (.sl .pr xs)] [] (.c (.str (mt xs))) [] := by
  refine ret_vc hT hM Try.func7 rfl rfl (m := 0) (nx := 0) rfl (Nat.le_of_ble_eq_true rfl) ?_
  (repeat ((conv => whnf); first | (refine nx ?_; intro s) | (refine rg ?_; intro s k))); (conv => whnf)
  refine Tri.loop (fun i : Nat => ⟨[(0, .c (.sl .pr xs)), (3, .c (.str (tx (xs.take i)))), (4, .c (.int .i64 i))], [], 0⟩) (fun i => i ≤ xs.length) (fun i => xs.length - i) 0 (by omega) ?_ ?_
  · exact WkF.ok (l := []) (ρ := []) ⟨rfl, trivial, ⟨rfl, rfl, rfl, trivial⟩, trivial, ⟨trivial, trivial, trivial, trivial⟩, trivial⟩
  · intro i hi
    refine vc_sound hT hM _ _ _ ?_
    have hlen := tx_len hok i hi
    (repeat ((conv => whnf); first | (refine nx ?_; intro s) | (refine rg ?_; intro s k))); (conv => whnf)
    refine giv fun _ => ?_
    (repeat ((conv => whnf); first | (refine nx ?_; intro s) | (refine rg ?_; intro s k))); (conv => whnf)
    refine cas (fun h2 => ?_) (fun h2 => ?_)
    · have hlt : i < xs.length := by simp at h2; exact h2
      have hp := hok _ (List.mem_of_getElem? (getD_some hlt zPr))
      have hk := dec_len hp.1
      have hv := dec_len hp.2
      have hst := tx_step hlt
      (repeat ((conv => whnf); first | (refine nx ?_; intro s) | (refine rg ?_; intro s k))); (conv => whnf)
      refine cas (fun h3 => ?_) (fun h3 => ?_)
      · have hi0 : i ≠ 0 := by simp at h3; omega
        (repeat ((conv => whnf); first | (refine nx ?_; intro s) | (refine rg ?_; intro s k))); (conv => whnf)
        refine need (by show _ + 1 ≤ _; omega) ?_
        (repeat ((conv => whnf); first | (refine nx ?_; intro s) | (refine rg ?_; intro s k))); (conv => whnf)
        refine need ⟨by omega, by omega⟩ ?_
        (repeat ((conv => whnf); first | (refine nx ?_; intro s) | (refine rg ?_; intro s k))); (conv => whnf)
        refine giv fun _ => ?_
        (repeat ((conv => whnf); first | (refine nx ?_; intro s) | (refine rg ?_; intro s k))); (conv => whnf)
        refine call_p (c21 (xs.getD i zPr).k hp.1) rfl ⟨trivial, trivial⟩ ?_
        (repeat ((conv => whnf); first | (refine nx ?_; intro s) | (refine rg ?_; intro s k))); (conv => whnf)
        refine need (by rw [List.length_append]; simp only [List.length_cons, List.length_nil]; omega) ?_
        (repeat ((conv => whnf); first | (refine nx ?_; intro s) | (refine rg ?_; intro s k))); (conv => whnf)
        refine need (by rw [List.length_append, List.length_append]; simp only [List.length_cons, List.length_nil]; omega) ?_
        (repeat ((conv => whnf); first | (refine nx ?_; intro s) | (refine rg ?_; intro s k))); (conv => whnf)
        refine need ⟨by omega, by omega⟩ ?_
        (repeat ((conv => whnf); first | (refine nx ?_; intro s) | (refine rg ?_; intro s k))); (conv => whnf)
        refine giv fun _ => ?_
        (repeat ((conv => whnf); first | (refine nx ?_; intro s) | (refine rg ?_; intro s k))); (conv => whnf)
        refine call_p (c21 (xs.getD i zPr).v hp.2) rfl ⟨trivial, trivial⟩ ?_
        (repeat ((conv => whnf); first | (refine nx ?_; intro s) | (refine rg ?_; intro s k))); (conv => whnf)
        refine need (by simp only [List.length_append, List.length_cons, List.length_nil]; omega) ?_
        (repeat ((conv => whnf); first | (refine nx ?_; intro s) | (refine rg ?_; intro s k))); (conv => whnf)
        refine need rfl ?_
        (repeat ((conv => whnf); first | (refine nx ?_; intro s) | (refine rg ?_; intro s k))); (conv => whnf)
        refine ⟨i + 1, by omega, by omega, WkF.ok (l := []) (ρ := []) ⟨rfl, trivial, ⟨rfl, ?_, ?_, trivial⟩, trivial, ⟨trivial, trivial, trivial, trivial⟩, trivial⟩⟩
        · show C.str _ = C.str _
          rw [hst, if_neg hi0]
          simp [pt]
        · show C.int _ _ = C.int _ _
          rw [wrap_i64 (by omega) (by omega)]
          rfl
      · have hi0 : i = 0 := by simp at h3; omega
        subst hi0
        (repeat ((conv => whnf); first | (refine nx ?_; intro s) | (refine rg ?_; intro s k))); (conv => whnf)
        refine need ⟨by omega, by omega⟩ ?_
        (repeat ((conv => whnf); first | (refine nx ?_; intro s) | (refine rg ?_; intro s k))); (conv => whnf)
        refine giv fun _ => ?_
        (repeat ((conv => whnf); first | (refine nx ?_; intro s) | (refine rg ?_; intro s k))); (conv => whnf)
        refine call_p (c21 (xs.getD 0 zPr).k hp.1) rfl ⟨trivial, trivial⟩ ?_
        (repeat ((conv => whnf); first | (refine nx ?_; intro s) | (refine rg ?_; intro s k))); (conv => whnf)
        refine need (by rw [List.take_zero, tx_nil]; simp only [List.length_cons, List.length_nil]; omega) ?_
        (repeat ((conv => whnf); first | (refine nx ?_; intro s) | (refine rg ?_; intro s k))); (conv => whnf)
        refine need (by rw [List.take_zero, tx_nil]; simp only [List.length_append, List.length_cons, List.length_nil]; omega) ?_
        (repeat ((conv => whnf); first | (refine nx ?_; intro s) | (refine rg ?_; intro s k))); (conv => whnf)
        refine need ⟨by omega, by omega⟩ ?_
        (repeat ((conv => whnf); first | (refine nx ?_; intro s) | (refine rg ?_; intro s k))); (conv => whnf)
        refine giv fun _ => ?_
        (repeat ((conv => whnf); first | (refine nx ?_; intro s) | (refine rg ?_; intro s k))); (conv => whnf)
        refine call_p (c21 (xs.getD 0 zPr).v hp.2) rfl ⟨trivial, trivial⟩ ?_
        (repeat ((conv => whnf); first | (refine nx ?_; intro s) | (refine rg ?_; intro s k))); (conv => whnf)
        refine need (by rw [List.take_zero, tx_nil]; simp only [List.length_append, List.length_cons, List.length_nil]; omega) ?_
        (repeat ((conv => whnf); first | (refine nx ?_; intro s) | (refine rg ?_; intro s k))); (conv => whnf)
        refine need rfl ?_
        (repeat ((conv => whnf); first | (refine nx ?_; intro s) | (refine rg ?_; intro s k))); (conv => whnf)
        refine ⟨1, by omega, by omega, WkF.ok (l := []) (ρ := []) ⟨rfl, trivial, ⟨rfl, ?_, ?_, trivial⟩, trivial, ⟨trivial, trivial, trivial, trivial⟩, trivial⟩⟩
        · show C.str _ = C.str _
          rw [hst, if_pos rfl, List.take_zero, tx_nil]
          simp [pt]
        · show C.int _ _ = C.int _ _
          rw [wrap_i64 (by omega) (by omega)]
          rfl
    · have hge : xs.length ≤ i := by simp at h2; exact h2
      (repeat ((conv => whnf); first | (refine nx ?_; intro s) | (refine rg ?_; intro s k))); (conv => whnf)
      refine cas (fun h3 => ?_) (fun h3 => ?_)
      · have hx : xs = [] := by
          apply Decidable.byContradiction
          intro hne
          rw [List.take_of_length_le hge] at h3
          exact tx_ne hne (by simpa using h3)
        subst hx
        refine ⟨_, rfl, [], [], rfl, trivial, ⟨?_, trivial⟩, trivial, ⟨trivial, trivial⟩, trivial⟩
        show C.str _ = C.str _
        rfl
      · refine ⟨_, rfl, [], [], rfl, trivial, ⟨?_, trivial⟩, trivial, ⟨trivial, trivial⟩, trivial⟩
        show C.str (tx (xs.take i)) = C.str _
        rw [List.take_of_length_le hge] at h3 ⊢
        cases xs with
        | nil => exact absurd h3 (by simp [tx_nil])
        | cons x xs => rfl
end Go.Proofs.Ythbpdhppelaihaa
