/- THE FUNCTIONS under laws.FnExactMapText: sizes, copies, comparisons. Conditions: none. -/
import Derived.Test.YthbpdhppelaihaaN
import Derived.Test.YthbpdhppelaihaaH4
set_option linter.unusedVariables false
set_option linter.unusedSimpArgs false
namespace Go.Proofs.Ythbpdhppelaihaa
open Go.RowKit
attribute [local irreducible] Tri
set_option maxRecDepth 4000
set_option maxHeartbeats 4000000
/-- The size left behind a row of n elements. -/
def szm (n : Nat) (left : Int) : Int := if IntKind.i64.wrap (left - n) < 0 then -1 else IntKind.i64.wrap (left - n)
theorem c6 (a : List Pr) (left : Int) : Ret Try.prog 6 [.c (.sl .pr a), .c (.int .i64 left)] [] (.c (.int .i64 (szm a.length left))) [] := by
  refine ret_vc hT hM Try.func6 rfl rfl (m := 0) (nx := 0) rfl (Nat.le_of_ble_eq_true rfl) ?_
  (repeat ((conv => whnf); first | (refine nx ?_; intro s) | (refine rg ?_; intro s k))); (conv => whnf)
  refine giv fun h1 => ?_
  (repeat ((conv => whnf); first | (refine nx ?_; intro s) | (refine rg ?_; intro s k))); (conv => whnf)
  refine cas (fun h2 => ?_) (fun h2 => ?_)
  · refine ⟨_, rfl, [], [], rfl, trivial, ⟨?_, trivial⟩, trivial, ⟨trivial, trivial⟩, trivial⟩
    show C.int _ _ = C.int _ _ 
    simp at h2
    simp [szm, h2]
  · refine ⟨_, rfl, [], [], rfl, trivial, ⟨?_, trivial⟩, trivial, ⟨trivial, trivial⟩, trivial⟩
    show C.int _ _ = C.int _ _ 
    simp at h2
    simp [szm]
    intro h; omega
theorem c22 (k v : Int) : Ret Try.prog 22 [.ag [.c (.int .i64 k), .c (.int .i64 v)]] [] (.ag [.c (.int .i64 k), .c (.int .i64 v)]) [] := by
  refine ret_vc hT hM Try.func22 rfl rfl (m := 0) (nx := 0) rfl (Nat.le_of_ble_eq_true rfl) ?_
  (repeat ((conv => whnf); first | (refine nx ?_; intro s) | (refine rg ?_; intro s k))); (conv => whnf)
  exact ⟨_, rfl, [], [], rfl, trivial, ⟨⟨rfl, rfl, rfl⟩, trivial⟩, trivial, ⟨⟨trivial, trivial, trivial⟩, trivial⟩, trivial⟩
theorem c25 (k v k' v' : Int) : Ret Try.prog 25 [.ag [.c (.int .i64 k), .c (.int .i64 v)], .ag [.c (.int .i64 k'), .c (.int .i64 v')]] [] (.c (.bool (decide (k = k' ∧ v = v')))) [] := by
  refine ret_vc hT hM Try.func25 rfl rfl (m := 0) (nx := 0) rfl (Nat.le_of_ble_eq_true rfl) ?_
  (repeat ((conv => whnf); first | (refine nx ?_; intro s) | (refine rg ?_; intro s k))); (conv => whnf)
  refine cas (fun h2 => ?_) (fun h2 => ?_)
  · refine ⟨_, rfl, [], [], rfl, trivial, ⟨?_, trivial⟩, trivial, ⟨trivial, trivial⟩, trivial⟩
    show C.bool _ = C.bool _
    simp at h2
    simp [h2]
  · (repeat ((conv => whnf); first | (refine nx ?_; intro s) | (refine rg ?_; intro s k))); (conv => whnf)
    refine cas (fun h3 => ?_) (fun h3 => ?_)
    · refine ⟨_, rfl, [], [], rfl, trivial, ⟨?_, trivial⟩, trivial, ⟨trivial, trivial⟩, trivial⟩
      show C.bool _ = C.bool _
      simp at h2 h3
      simp [h2, h3]
    · refine ⟨_, rfl, [], [], rfl, trivial, ⟨?_, trivial⟩, trivial, ⟨trivial, trivial⟩, trivial⟩
      show C.bool _ = C.bool _
      simp at h2 h3
      simp [h2, h3]
abbrev zPr : Pr := ⟨0, 0⟩
theorem c8 (xs : List Pr) : Ret Try.prog 8 [.c (.sl .pr xs)] [] (.c (.sl .pr xs)) [] := by
  refine ret_vc hT hM Try.func8 rfl rfl (m := 0) (nx := 0) rfl (Nat.le_of_ble_eq_true rfl) ?_
  (repeat ((conv => whnf); first | (refine nx ?_; intro s) | (refine rg ?_; intro s k))); (conv => whnf)
  refine giv fun hl => ?_
  (repeat ((conv => whnf); first | (refine nx ?_; intro s) | (refine rg ?_; intro s k))); (conv => whnf)
  refine need rfl ?_
  (repeat ((conv => whnf); first | (refine nx ?_; intro s) | (refine rg ?_; intro s k))); (conv => whnf)
  refine need rfl ?_
  (repeat ((conv => whnf); first | (refine nx ?_; intro s) | (refine rg ?_; intro s k))); (conv => whnf)
  refine need ⟨by omega, by simp only [byE] at hl ⊢; omega⟩ ?_
  (repeat ((conv => whnf); first | (refine nx ?_; intro s) | (refine rg ?_; intro s k))); (conv => whnf)
  refine Tri.loop (fun i : Nat => ⟨[(0, .c (.sl .pr xs)), (3, .rw 0), (4, .c (.int .i64 i))], [(0, .row .pr (xs.take i ++ List.replicate (xs.length - i) zPr))], 1⟩) (fun i => i ≤ xs.length) (fun i => xs.length - i) 0 (by omega) ?_ ?_
  · refine WkF.ok (l := []) (ρ := []) ⟨rfl, trivial, ?_, ?_, ?_, ?_⟩
    · exact ⟨rfl, rfl, rfl, trivial⟩
    · refine ⟨?_, trivial⟩
      show some (Ob.row _ _) = some (Ob.row _ _)
      simp
    · exact ⟨trivial, rfl, trivial, trivial⟩
    · exact ⟨trivial, trivial⟩
  · intro i hi
    refine vc_sound hT hM _ _ _ ?_
    (repeat ((conv => whnf); first | (refine nx ?_; intro s) | (refine rg ?_; intro s k))); (conv => whnf)
    refine giv fun _ => ?_
    (repeat ((conv => whnf); first | (refine nx ?_; intro s) | (refine rg ?_; intro s k))); (conv => whnf)
    refine cas (fun h1 => ?_) (fun h1 => ?_)
    · have hlt : i < xs.length := by simp at h1; exact h1
      (repeat ((conv => whnf); first | (refine nx ?_; intro s) | (refine rg ?_; intro s k))); (conv => whnf)
      refine need ⟨by omega, by omega⟩ ?_
      (repeat ((conv => whnf); first | (refine nx ?_; intro s) | (refine rg ?_; intro s k))); (conv => whnf)
      refine giv fun _ => ?_
      (repeat ((conv => whnf); first | (refine nx ?_; intro s) | (refine rg ?_; intro s k))); (conv => whnf)
      refine call_p (c22 (xs.getD i zPr).k (xs.getD i zPr).v) rfl ⟨⟨trivial, trivial, trivial⟩, trivial⟩ ?_
      (repeat ((conv => whnf); first | (refine nx ?_; intro s) | (refine rg ?_; intro s k))); (conv => whnf)
      refine need ⟨by omega, by simp; omega⟩ ?_
      (repeat ((conv => whnf); first | (refine nx ?_; intro s) | (refine rg ?_; intro s k))); (conv => whnf)
      refine giv fun _ => ?_
      (repeat ((conv => whnf); first | (refine nx ?_; intro s) | (refine rg ?_; intro s k))); (conv => whnf)
      refine need (by simp; omega) ?_
      (repeat ((conv => whnf); first | (refine nx ?_; intro s) | (refine rg ?_; intro s k))); (conv => whnf)
      refine need rfl ?_
      (repeat ((conv => whnf); first | (refine nx ?_; intro s) | (refine rg ?_; intro s k))); (conv => whnf)
      refine ⟨i + 1, by omega, by omega, WkF.ok (l := []) (ρ := []) ⟨rfl, trivial, ?_, ?_, ?_, ?_⟩⟩
      · refine ⟨rfl, rfl, ?_, trivial⟩
        show C.int _ _ = C.int _ _
        rw [wrap_i64 (by omega) (by simp only [byE] at hl; omega)]
        rfl
      · refine ⟨?_, trivial⟩
        show some (Ob.row _ _) = some (Ob.row _ _)
        exact congrArg (fun l => some (Ob.row .pr l)) (fill_set xs zPr hlt)
      · exact ⟨trivial, rfl, trivial, trivial⟩
      · exact ⟨trivial, trivial⟩
    · (repeat ((conv => whnf); first | (refine nx ?_; intro s) | (refine rg ?_; intro s k))); (conv => whnf)
      refine ⟨_, rfl, [0], [], rfl, trivial, ⟨?_, trivial⟩, trivial, ⟨trivial, trivial⟩, trivial⟩
      show C.sl _ _ = C.sl _ _
      have hge : xs.length ≤ i := by simp at h1; exact h1
      exact congrArg (C.sl .pr) (fill_all xs zPr hge)
/-- Two rows are alike from i on. -/
theorem c10 (xs ys : List Pr) : Ret Try.prog 10 [.c (.sl .pr xs), .c (.sl .pr ys)] [] (.c (.bool (eqB xs ys))) [] := by
  refine ret_vc hT hM Try.func10 rfl rfl (m := 0) (nx := 0) rfl (Nat.le_of_ble_eq_true rfl) ?_
  (repeat ((conv => whnf); first | (refine nx ?_; intro s) | (refine rg ?_; intro s k))); (conv => whnf)
  refine giv fun hl => ?_
  (repeat ((conv => whnf); first | (refine nx ?_; intro s) | (refine rg ?_; intro s k))); (conv => whnf)
  refine giv fun hl' => ?_
  (repeat ((conv => whnf); first | (refine nx ?_; intro s) | (refine rg ?_; intro s k))); (conv => whnf)
  refine cas (fun h1 => ?_) (fun h1 => ?_)
  · refine ⟨_, rfl, [], [], rfl, trivial, ⟨?_, trivial⟩, trivial, ⟨trivial, trivial⟩, trivial⟩
    show C.bool _ = C.bool _
    have hne : xs ≠ ys := by rintro rfl; simp at h1
    rw [eqB_no hne]
  · have hlen : xs.length = ys.length := by simp at h1; omega
    (repeat ((conv => whnf); first | (refine nx ?_; intro s) | (refine rg ?_; intro s k))); (conv => whnf)
    refine Tri.loop (fun i : Nat => ⟨[(0, .c (.sl .pr xs)), (1, .c (.sl .pr ys)), (5, .c (.int .i64 i))], [], 0⟩) (fun i => i ≤ xs.length ∧ xs.take i = ys.take i) (fun i => xs.length - i) 0 ⟨by omega, by simp⟩ ?_ ?_
    · exact WkF.ok (l := []) (ρ := []) ⟨rfl, trivial, ⟨rfl, rfl, rfl, trivial⟩, trivial, ⟨trivial, trivial, trivial, trivial⟩, trivial⟩
    · intro i ⟨hi, hpre⟩
      refine vc_sound hT hM _ _ _ ?_
      (repeat ((conv => whnf); first | (refine nx ?_; intro s) | (refine rg ?_; intro s k))); (conv => whnf)
      refine giv fun _ => ?_
      (repeat ((conv => whnf); first | (refine nx ?_; intro s) | (refine rg ?_; intro s k))); (conv => whnf)
      refine cas (fun h2 => ?_) (fun h2 => ?_)
      · have hlt : i < xs.length := by simp at h2; exact h2
        (repeat ((conv => whnf); first | (refine nx ?_; intro s) | (refine rg ?_; intro s k))); (conv => whnf)
        refine need ⟨by omega, by omega⟩ ?_
        (repeat ((conv => whnf); first | (refine nx ?_; intro s) | (refine rg ?_; intro s k))); (conv => whnf)
        refine giv fun _ => ?_
        (repeat ((conv => whnf); first | (refine nx ?_; intro s) | (refine rg ?_; intro s k))); (conv => whnf)
        refine need ⟨by omega, by omega⟩ ?_
        (repeat ((conv => whnf); first | (refine nx ?_; intro s) | (refine rg ?_; intro s k))); (conv => whnf)
        refine giv fun _ => ?_
        (repeat ((conv => whnf); first | (refine nx ?_; intro s) | (refine rg ?_; intro s k))); (conv => whnf)
        refine call_p (c25 (xs.getD i zPr).k (xs.getD i zPr).v (ys.getD i zPr).k (ys.getD i zPr).v) rfl ⟨⟨trivial, trivial, trivial⟩, ⟨trivial, trivial, trivial⟩, trivial⟩ ?_
        (repeat ((conv => whnf); first | (refine nx ?_; intro s) | (refine rg ?_; intro s k))); (conv => whnf)
        refine need rfl ?_
        have hx : xs[i]? = some (xs.getD i zPr) := getD_some hlt _
        have hy : ys[i]? = some (ys.getD i zPr) := getD_some (by omega) _
        (repeat ((conv => whnf); first | (refine nx ?_; intro s) | (refine rg ?_; intro s k))); (conv => whnf)
        refine cas (fun h3 => ?_) (fun h3 => ?_)
        · refine ⟨_, rfl, [], [], rfl, trivial, ⟨?_, trivial⟩, trivial, ⟨trivial, trivial⟩, trivial⟩
          show C.bool _ = C.bool _
          have hne : xs ≠ ys := by
            rintro rfl
            simp at h3
          rw [eqB_no hne]
        · (repeat ((conv => whnf); first | (refine nx ?_; intro s) | (refine rg ?_; intro s k))); (conv => whnf)
          have he : xs.getD i zPr = ys.getD i zPr := by
            simp at h3
            cases hxx : xs.getD i zPr; cases hyy : ys.getD i zPr
            simp only [List.getD_eq_getElem?_getD] at h3 hxx hyy
            rw [hxx, hyy] at h3
            simp at h3
            simp [h3]
          refine ⟨i + 1, ⟨by omega, ?_⟩, by omega, WkF.ok (l := []) (ρ := []) ⟨rfl, trivial, ⟨rfl, rfl, ?_, trivial⟩, trivial, ⟨trivial, trivial, trivial, trivial⟩, trivial⟩⟩
          · rw [List.take_add_one, List.take_add_one, hx, hy, he, hpre]
          · show C.int _ _ = C.int _ _
            rw [wrap_i64 (by omega) (by simp only [byE] at hl; omega)]
            rfl
      · have hge : xs.length ≤ i := by simp at h2; exact h2
        refine ⟨_, rfl, [], [], rfl, trivial, ⟨?_, trivial⟩, trivial, ⟨trivial, trivial⟩, trivial⟩
        show C.bool _ = C.bool _
        rw [List.take_of_length_le hge, List.take_of_length_le (by omega)] at hpre
        rw [eqB_yes hpre]
end Go.Proofs.Ythbpdhppelaihaa
