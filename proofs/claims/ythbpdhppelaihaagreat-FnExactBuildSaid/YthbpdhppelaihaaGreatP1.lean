/- Walks that are alike from function to function, by program (gen.py). Conditions: none. -/
import Derived.Test.YthbpdhppelaihaaGreatN
import Derived.Test.YthbpdhppelaihaaGreatHF
set_option linter.unusedVariables false
set_option linter.unusedSimpArgs false
namespace Go.Proofs.YthbpdhppelaihaaGreat
open Go.RowKit
attribute [local irreducible] Tri
set_option maxRecDepth 4000
set_option maxHeartbeats 4000000
/-- The size left behind a row of n elements. -/
def sz1 (n : Nat) (left : Int) : Int := if IntKind.i64.wrap (left - n) < 0 then -1 else IntKind.i64.wrap (left - n)
theorem r_szPairS (a : List (El .pr)) (left : Int) : Ret Tryz.prog 9 [.c (.sl .pr a), .c (.int .i64 left)] [] (.c (.int .i64 (sz1 a.length left))) [] := by
  refine ret_vc hT hM Tryz.func9 rfl rfl (m := 0) (nx := 0) rfl (Nat.le_of_ble_eq_true rfl) ?_
  (repeat ((conv => whnf); first | (refine nx ?_; intro s) | (refine rg ?_; intro s k))); (conv => whnf)
  refine giv fun h1 => ?_
  (repeat ((conv => whnf); first | (refine nx ?_; intro s) | (refine rg ?_; intro s k))); (conv => whnf)
  refine cas (fun h2 => ?_) (fun h2 => ?_)
  · refine ⟨_, rfl, [], [], rfl, trivial, ⟨?_, trivial⟩, trivial, ⟨trivial, trivial⟩, trivial⟩
    show C.int _ _ = C.int _ _
    simp at h2
    simp [sz1, h2]
  · refine ⟨_, rfl, [], [], rfl, trivial, ⟨?_, trivial⟩, trivial, ⟨trivial, trivial⟩, trivial⟩
    show C.int _ _ = C.int _ _
    simp at h2
    simp [sz1]
    intro h; omega
theorem r_szIntS (a : List (El .int)) (left : Int) : Ret Tryz.prog 70 [.c (.sl .int a), .c (.int .i64 left)] [] (.c (.int .i64 (sz1 a.length left))) [] := by
  refine ret_vc hT hM Tryz.func70 rfl rfl (m := 0) (nx := 0) rfl (Nat.le_of_ble_eq_true rfl) ?_
  (repeat ((conv => whnf); first | (refine nx ?_; intro s) | (refine rg ?_; intro s k))); (conv => whnf)
  refine giv fun h1 => ?_
  (repeat ((conv => whnf); first | (refine nx ?_; intro s) | (refine rg ?_; intro s k))); (conv => whnf)
  refine cas (fun h2 => ?_) (fun h2 => ?_)
  · refine ⟨_, rfl, [], [], rfl, trivial, ⟨?_, trivial⟩, trivial, ⟨trivial, trivial⟩, trivial⟩
    show C.int _ _ = C.int _ _
    simp at h2
    simp [sz1, h2]
  · refine ⟨_, rfl, [], [], rfl, trivial, ⟨?_, trivial⟩, trivial, ⟨trivial, trivial⟩, trivial⟩
    show C.int _ _ = C.int _ _
    simp at h2
    simp [sz1]
    intro h; omega
theorem r_szMsgS (a : List (El .ms)) (left : Int) : Ret Tryz.prog 72 [.c (.sl .ms a), .c (.int .i64 left)] [] (.c (.int .i64 (sz1 a.length left))) [] := by
  refine ret_vc hT hM Tryz.func72 rfl rfl (m := 0) (nx := 0) rfl (Nat.le_of_ble_eq_true rfl) ?_
  (repeat ((conv => whnf); first | (refine nx ?_; intro s) | (refine rg ?_; intro s k))); (conv => whnf)
  refine giv fun h1 => ?_
  (repeat ((conv => whnf); first | (refine nx ?_; intro s) | (refine rg ?_; intro s k))); (conv => whnf)
  refine cas (fun h2 => ?_) (fun h2 => ?_)
  · refine ⟨_, rfl, [], [], rfl, trivial, ⟨?_, trivial⟩, trivial, ⟨trivial, trivial⟩, trivial⟩
    show C.int _ _ = C.int _ _
    simp at h2
    simp [sz1, h2]
  · refine ⟨_, rfl, [], [], rfl, trivial, ⟨?_, trivial⟩, trivial, ⟨trivial, trivial⟩, trivial⟩
    show C.int _ _ = C.int _ _
    simp at h2
    simp [sz1]
    intro h; omega
theorem r_toPair (x : El .pr) : Ret Tryz.prog 54 [agE .pr x] [] (agE .pr x) [] := by
  refine ret_vc hT hM Tryz.func54 rfl rfl (m := 0) (nx := 0) rfl (Nat.le_of_ble_eq_true rfl) ?_
  (repeat ((conv => whnf); first | (refine nx ?_; intro s) | (refine rg ?_; intro s k))); (conv => whnf)
  exact ⟨_, rfl, [], [], rfl, trivial, ⟨⟨rfl, rfl, rfl⟩, trivial⟩, trivial, ⟨⟨trivial, trivial, trivial⟩, trivial⟩, trivial⟩
theorem r_toMsg (x : El .ms) : Ret Tryz.prog 21 [agE .ms x] [] (agE .ms x) [] := by
  refine ret_vc hT hM Tryz.func21 rfl rfl (m := 0) (nx := 0) rfl (Nat.le_of_ble_eq_true rfl) ?_
  (repeat ((conv => whnf); first | (refine nx ?_; intro s) | (refine rg ?_; intro s k))); (conv => whnf)
  exact ⟨_, rfl, [], [], rfl, trivial, ⟨⟨rfl, rfl, rfl, rfl⟩, trivial⟩, trivial, ⟨⟨trivial, trivial, trivial, trivial⟩, trivial⟩, trivial⟩
theorem r_toPairS (xs : List (El .pr)) : Ret Tryz.prog 11 [.c (.sl .pr xs)] [] (.rw 0) [(0, .row .pr xs)] := by
  refine ret_vc hT hM Tryz.func11 rfl rfl (m := 0) (nx := 0) rfl (Nat.le_of_ble_eq_true rfl) ?_
  (repeat ((conv => whnf); first | (refine nx ?_; intro s) | (refine rg ?_; intro s k))); (conv => whnf)
  refine giv fun hl => ?_
  (repeat ((conv => whnf); first | (refine nx ?_; intro s) | (refine rg ?_; intro s k))); (conv => whnf)
  refine need (by kernel_rfl) ?_
  (repeat ((conv => whnf); first | (refine nx ?_; intro s) | (refine rg ?_; intro s k))); (conv => whnf)
  refine need (by kernel_rfl) ?_
  (repeat ((conv => whnf); first | (refine nx ?_; intro s) | (refine rg ?_; intro s k))); (conv => whnf)
  refine need ⟨by omega, by simp only [byE] at hl ⊢; omega⟩ ?_
  (repeat ((conv => whnf); first | (refine nx ?_; intro s) | (refine rg ?_; intro s k))); (conv => whnf)
  refine Tri.loop (fun i : Nat => ⟨[(0, .c (.sl .pr xs)), (3, .rw 0), (4, .c (.int .i64 i))], [(0, .row .pr (xs.take i ++ List.replicate (xs.length - i) (dflt .pr)))], 1⟩) (fun i => i ≤ xs.length) (fun i => xs.length - i) 0 (by omega) ?_ ?_
  · refine WkF.ok (l := []) (ρ := []) ⟨rfl, trivial, ⟨rfl, rfl, rfl, trivial⟩, ⟨?_, trivial⟩, ⟨trivial, rfl, trivial, trivial⟩, ⟨trivial, trivial⟩⟩
    show some (Ob.row _ _) = some (Ob.row _ _)
    simp
  · intro i hi
    refine vc_sound hT hM _ _ _ ?_
    (repeat ((conv => whnf); first | (refine nx ?_; intro s) | (refine rg ?_; intro s k))); (conv => whnf)
    refine giv fun _ => ?_
    (repeat ((conv => whnf); first | (refine nx ?_; intro s) | (refine rg ?_; intro s k))); (conv => whnf)
    refine cas (fun h1 => ?_) (fun h1 => ?_)
    · have hlt : i < xs.length := by simp at h1; exact h1
      (repeat ((conv => whnf); first | (refine nx ?_; intro s) | (refine rg ?_; intro s k))); (conv => whnf)
      refine need ⟨by omega, by omega⟩ ?_
      (repeat ((conv => whnf); first | (refine nx ?_; intro s) | (refine rg ?_; intro s k))); (conv => whnf)
      refine giv fun _ => ?_
      (repeat ((conv => whnf); first | (refine nx ?_; intro s) | (refine rg ?_; intro s k))); (conv => whnf)
      refine call_p (r_toPair (xs.getD i (dflt .pr))) rfl (by (repeat' (first | exact trivial | refine ⟨?_, ?_⟩ | exact rfl | exact Or.inr rfl | exact Or.inl (Nat.le_of_ble_eq_true rfl)))) ?_
      (repeat ((conv => whnf); first | (refine nx ?_; intro s) | (refine rg ?_; intro s k))); (conv => whnf)
      refine need ⟨by omega, by simp; omega⟩ ?_
      (repeat ((conv => whnf); first | (refine nx ?_; intro s) | (refine rg ?_; intro s k))); (conv => whnf)
      refine giv fun _ => ?_
      (repeat ((conv => whnf); first | (refine nx ?_; intro s) | (refine rg ?_; intro s k))); (conv => whnf)
      refine need (by simp; omega) ?_
      (repeat ((conv => whnf); first | (refine nx ?_; intro s) | (refine rg ?_; intro s k))); (conv => whnf)
      refine need (by kernel_rfl) ?_
      (repeat ((conv => whnf); first | (refine nx ?_; intro s) | (refine rg ?_; intro s k))); (conv => whnf)
      refine ⟨i + 1, by omega, by omega, WkF.ok (l := []) (ρ := []) ⟨rfl, trivial, ⟨rfl, rfl, ?_, trivial⟩, ⟨?_, trivial⟩, ⟨trivial, rfl, trivial, trivial⟩, ⟨trivial, trivial⟩⟩⟩
      · show C.int _ _ = C.int _ _
        rw [wrap_i64 (by omega) (by simp only [byE] at hl; omega)]
        rfl
      · show some (Ob.row _ _) = some (Ob.row _ _)
        refine congrArg (fun l => some (Ob.row .pr l)) ?_
        show List.set _ i (mkE .pr (spl (cells .pr _) 0 (cells .pr (xs.getD i (dflt .pr))))) = _
        rw [spl_all]
        exact fill_set xs (dflt .pr) hlt
    · (repeat ((conv => whnf); first | (refine nx ?_; intro s) | (refine rg ?_; intro s k))); (conv => whnf)
      refine ⟨_, rfl, [], [], ⟨rfl, trivial, ⟨rfl, trivial⟩, ⟨?_, trivial⟩, ⟨rfl, trivial⟩, ⟨trivial, trivial⟩⟩⟩
      show some (Ob.row _ _) = some (Ob.row _ _)
      have hge : xs.length ≤ i := by simp at h1; exact h1
      exact congrArg (fun l => some (Ob.row .pr l)) (fill_all xs (dflt .pr) hge)
theorem r_toIntS (xs : List (El .int)) : Ret Tryz.prog 78 [.c (.sl .int xs)] [] (.rw 0) [(0, .row .int xs)] := by
  refine ret_vc hT hM Tryz.func78 rfl rfl (m := 0) (nx := 0) rfl (Nat.le_of_ble_eq_true rfl) ?_
  (repeat ((conv => whnf); first | (refine nx ?_; intro s) | (refine rg ?_; intro s k))); (conv => whnf)
  refine giv fun hl => ?_
  (repeat ((conv => whnf); first | (refine nx ?_; intro s) | (refine rg ?_; intro s k))); (conv => whnf)
  refine need (by kernel_rfl) ?_
  (repeat ((conv => whnf); first | (refine nx ?_; intro s) | (refine rg ?_; intro s k))); (conv => whnf)
  refine need (by kernel_rfl) ?_
  (repeat ((conv => whnf); first | (refine nx ?_; intro s) | (refine rg ?_; intro s k))); (conv => whnf)
  refine need ⟨by omega, by simp only [byE] at hl ⊢; omega⟩ ?_
  (repeat ((conv => whnf); first | (refine nx ?_; intro s) | (refine rg ?_; intro s k))); (conv => whnf)
  refine Tri.loop (fun i : Nat => ⟨[(0, .c (.sl .int xs)), (3, .rw 0), (4, .c (.int .i64 i))], [(0, .row .int (xs.take i ++ List.replicate (xs.length - i) (dflt .int)))], 1⟩) (fun i => i ≤ xs.length) (fun i => xs.length - i) 0 (by omega) ?_ ?_
  · refine WkF.ok (l := []) (ρ := []) ⟨rfl, trivial, ⟨rfl, rfl, rfl, trivial⟩, ⟨?_, trivial⟩, ⟨trivial, rfl, trivial, trivial⟩, ⟨trivial, trivial⟩⟩
    show some (Ob.row _ _) = some (Ob.row _ _)
    simp
  · intro i hi
    refine vc_sound hT hM _ _ _ ?_
    (repeat ((conv => whnf); first | (refine nx ?_; intro s) | (refine rg ?_; intro s k))); (conv => whnf)
    refine giv fun _ => ?_
    (repeat ((conv => whnf); first | (refine nx ?_; intro s) | (refine rg ?_; intro s k))); (conv => whnf)
    refine cas (fun h1 => ?_) (fun h1 => ?_)
    · have hlt : i < xs.length := by simp at h1; exact h1
      (repeat ((conv => whnf); first | (refine nx ?_; intro s) | (refine rg ?_; intro s k))); (conv => whnf)
      refine need ⟨by omega, by omega⟩ ?_
      (repeat ((conv => whnf); first | (refine nx ?_; intro s) | (refine rg ?_; intro s k))); (conv => whnf)
      refine giv fun _ => ?_
      (repeat ((conv => whnf); first | (refine nx ?_; intro s) | (refine rg ?_; intro s k))); (conv => whnf)
      refine need ⟨by omega, by simp; omega⟩ ?_
      (repeat ((conv => whnf); first | (refine nx ?_; intro s) | (refine rg ?_; intro s k))); (conv => whnf)
      refine giv fun _ => ?_
      (repeat ((conv => whnf); first | (refine nx ?_; intro s) | (refine rg ?_; intro s k))); (conv => whnf)
      refine need (by simp; omega) ?_
      (repeat ((conv => whnf); first | (refine nx ?_; intro s) | (refine rg ?_; intro s k))); (conv => whnf)
      refine need (by kernel_rfl) ?_
      (repeat ((conv => whnf); first | (refine nx ?_; intro s) | (refine rg ?_; intro s k))); (conv => whnf)
      refine ⟨i + 1, by omega, by omega, WkF.ok (l := []) (ρ := []) ⟨rfl, trivial, ⟨rfl, rfl, ?_, trivial⟩, ⟨?_, trivial⟩, ⟨trivial, rfl, trivial, trivial⟩, ⟨trivial, trivial⟩⟩⟩
      · show C.int _ _ = C.int _ _
        rw [wrap_i64 (by omega) (by simp only [byE] at hl; omega)]
        rfl
      · show some (Ob.row _ _) = some (Ob.row _ _)
        refine congrArg (fun l => some (Ob.row .int l)) ?_
        show List.set _ i (mkE .int (spl (cells .int _) 0 (cells .int (xs.getD i (dflt .int))))) = _
        rw [spl_all]
        exact fill_set xs (dflt .int) hlt
    · (repeat ((conv => whnf); first | (refine nx ?_; intro s) | (refine rg ?_; intro s k))); (conv => whnf)
      refine ⟨_, rfl, [], [], ⟨rfl, trivial, ⟨rfl, trivial⟩, ⟨?_, trivial⟩, ⟨rfl, trivial⟩, ⟨trivial, trivial⟩⟩⟩
      show some (Ob.row _ _) = some (Ob.row _ _)
      have hge : xs.length ≤ i := by simp at h1; exact h1
      exact congrArg (fun l => some (Ob.row .int l)) (fill_all xs (dflt .int) hge)
theorem r_toMsgS (xs : List (El .ms)) : Ret Tryz.prog 80 [.c (.sl .ms xs)] [] (.rw 0) [(0, .row .ms xs)] := by
  refine ret_vc hT hM Tryz.func80 rfl rfl (m := 0) (nx := 0) rfl (Nat.le_of_ble_eq_true rfl) ?_
  (repeat ((conv => whnf); first | (refine nx ?_; intro s) | (refine rg ?_; intro s k))); (conv => whnf)
  refine giv fun hl => ?_
  (repeat ((conv => whnf); first | (refine nx ?_; intro s) | (refine rg ?_; intro s k))); (conv => whnf)
  refine need (by kernel_rfl) ?_
  (repeat ((conv => whnf); first | (refine nx ?_; intro s) | (refine rg ?_; intro s k))); (conv => whnf)
  refine need (by kernel_rfl) ?_
  (repeat ((conv => whnf); first | (refine nx ?_; intro s) | (refine rg ?_; intro s k))); (conv => whnf)
  refine need ⟨by omega, by simp only [byE] at hl ⊢; omega⟩ ?_
  (repeat ((conv => whnf); first | (refine nx ?_; intro s) | (refine rg ?_; intro s k))); (conv => whnf)
  refine Tri.loop (fun i : Nat => ⟨[(0, .c (.sl .ms xs)), (3, .rw 0), (4, .c (.int .i64 i))], [(0, .row .ms (xs.take i ++ List.replicate (xs.length - i) (dflt .ms)))], 1⟩) (fun i => i ≤ xs.length) (fun i => xs.length - i) 0 (by omega) ?_ ?_
  · refine WkF.ok (l := []) (ρ := []) ⟨rfl, trivial, ⟨rfl, rfl, rfl, trivial⟩, ⟨?_, trivial⟩, ⟨trivial, rfl, trivial, trivial⟩, ⟨trivial, trivial⟩⟩
    show some (Ob.row _ _) = some (Ob.row _ _)
    simp
  · intro i hi
    refine vc_sound hT hM _ _ _ ?_
    (repeat ((conv => whnf); first | (refine nx ?_; intro s) | (refine rg ?_; intro s k))); (conv => whnf)
    refine giv fun _ => ?_
    (repeat ((conv => whnf); first | (refine nx ?_; intro s) | (refine rg ?_; intro s k))); (conv => whnf)
    refine cas (fun h1 => ?_) (fun h1 => ?_)
    · have hlt : i < xs.length := by simp at h1; exact h1
      (repeat ((conv => whnf); first | (refine nx ?_; intro s) | (refine rg ?_; intro s k))); (conv => whnf)
      refine need ⟨by omega, by omega⟩ ?_
      (repeat ((conv => whnf); first | (refine nx ?_; intro s) | (refine rg ?_; intro s k))); (conv => whnf)
      refine giv fun _ => ?_
      (repeat ((conv => whnf); first | (refine nx ?_; intro s) | (refine rg ?_; intro s k))); (conv => whnf)
      refine call_p (r_toMsg (xs.getD i (dflt .ms))) rfl (by (repeat' (first | exact trivial | refine ⟨?_, ?_⟩ | exact rfl | exact Or.inr rfl | exact Or.inl (Nat.le_of_ble_eq_true rfl)))) ?_
      (repeat ((conv => whnf); first | (refine nx ?_; intro s) | (refine rg ?_; intro s k))); (conv => whnf)
      refine need ⟨by omega, by simp; omega⟩ ?_
      (repeat ((conv => whnf); first | (refine nx ?_; intro s) | (refine rg ?_; intro s k))); (conv => whnf)
      refine giv fun _ => ?_
      (repeat ((conv => whnf); first | (refine nx ?_; intro s) | (refine rg ?_; intro s k))); (conv => whnf)
      refine need (by simp; omega) ?_
      (repeat ((conv => whnf); first | (refine nx ?_; intro s) | (refine rg ?_; intro s k))); (conv => whnf)
      refine need (by kernel_rfl) ?_
      (repeat ((conv => whnf); first | (refine nx ?_; intro s) | (refine rg ?_; intro s k))); (conv => whnf)
      refine ⟨i + 1, by omega, by omega, WkF.ok (l := []) (ρ := []) ⟨rfl, trivial, ⟨rfl, rfl, ?_, trivial⟩, ⟨?_, trivial⟩, ⟨trivial, rfl, trivial, trivial⟩, ⟨trivial, trivial⟩⟩⟩
      · show C.int _ _ = C.int _ _
        rw [wrap_i64 (by omega) (by simp only [byE] at hl; omega)]
        rfl
      · show some (Ob.row _ _) = some (Ob.row _ _)
        refine congrArg (fun l => some (Ob.row .ms l)) ?_
        show List.set _ i (mkE .ms (spl (cells .ms _) 0 (cells .ms (xs.getD i (dflt .ms))))) = _
        rw [spl_all]
        exact fill_set xs (dflt .ms) hlt
    · (repeat ((conv => whnf); first | (refine nx ?_; intro s) | (refine rg ?_; intro s k))); (conv => whnf)
      refine ⟨_, rfl, [], [], ⟨rfl, trivial, ⟨rfl, trivial⟩, ⟨?_, trivial⟩, ⟨rfl, trivial⟩, ⟨trivial, trivial⟩⟩⟩
      show some (Ob.row _ _) = some (Ob.row _ _)
      have hge : xs.length ≤ i := by simp at h1; exact h1
      exact congrArg (fun l => some (Ob.row .ms l)) (fill_all xs (dflt .ms) hge)
theorem r_eqPair (x y : El .pr) : Ret Tryz.prog 62 [agE .pr x, agE .pr y] [] (.c (.bool (eqB x y))) [] := by
  refine ret_vc hT hM Tryz.func62 rfl rfl (m := 0) (nx := 0) rfl (Nat.le_of_ble_eq_true rfl) ?_
  (repeat ((conv => whnf); first | (refine nx ?_; intro s) | (refine rg ?_; intro s k))); (conv => whnf)
  refine cas (fun h0 => ?_) (fun h0 => ?_)
  · refine ⟨_, rfl, [], [], rfl, trivial, ⟨?_, trivial⟩, trivial, ⟨trivial, trivial⟩, trivial⟩
    show C.bool _ = C.bool _
    rw [eqB_no]
    rintro rfl
    simp at h0
  · skip
    (repeat ((conv => whnf); first | (refine nx ?_; intro s) | (refine rg ?_; intro s k))); (conv => whnf)
    refine cas (fun h1 => ?_) (fun h1 => ?_)
    · refine ⟨_, rfl, [], [], rfl, trivial, ⟨?_, trivial⟩, trivial, ⟨trivial, trivial⟩, trivial⟩
      show C.bool _ = C.bool _
      rw [eqB_no]
      rintro rfl
      simp at h1
    · skip
      refine ⟨_, rfl, [], [], rfl, trivial, ⟨?_, trivial⟩, trivial, ⟨trivial, trivial⟩, trivial⟩
      show C.bool _ = C.bool _
      rw [eqB_yes]
      cases x; cases y
      simp at h0 h1
      simp [*]
theorem r_eqMsg (x y : El .ms) : Ret Tryz.prog 151 [agE .ms x, agE .ms y] [] (.c (.bool (eqB x y))) [] := by
  refine ret_vc hT hM Tryz.func151 rfl rfl (m := 0) (nx := 0) rfl (Nat.le_of_ble_eq_true rfl) ?_
  (repeat ((conv => whnf); first | (refine nx ?_; intro s) | (refine rg ?_; intro s k))); (conv => whnf)
  refine cas (fun h0 => ?_) (fun h0 => ?_)
  · refine ⟨_, rfl, [], [], rfl, trivial, ⟨?_, trivial⟩, trivial, ⟨trivial, trivial⟩, trivial⟩
    show C.bool _ = C.bool _
    rw [eqB_no]
    rintro rfl
    simp at h0
  · skip
    (repeat ((conv => whnf); first | (refine nx ?_; intro s) | (refine rg ?_; intro s k))); (conv => whnf)
    refine cas (fun h1 => ?_) (fun h1 => ?_)
    · refine ⟨_, rfl, [], [], rfl, trivial, ⟨?_, trivial⟩, trivial, ⟨trivial, trivial⟩, trivial⟩
      show C.bool _ = C.bool _
      rw [eqB_no]
      rintro rfl
      simp at h1
    · skip
      (repeat ((conv => whnf); first | (refine nx ?_; intro s) | (refine rg ?_; intro s k))); (conv => whnf)
      refine cas (fun h2 => ?_) (fun h2 => ?_)
      · refine ⟨_, rfl, [], [], rfl, trivial, ⟨?_, trivial⟩, trivial, ⟨trivial, trivial⟩, trivial⟩
        show C.bool _ = C.bool _
        rw [eqB_no]
        rintro rfl
        simp at h2
      · skip
        refine ⟨_, rfl, [], [], rfl, trivial, ⟨?_, trivial⟩, trivial, ⟨trivial, trivial⟩, trivial⟩
        show C.bool _ = C.bool _
        rw [eqB_yes]
        cases x; cases y
        simp at h0 h1 h2
        simp [*]
theorem r_eqIntS (xs ys : List (El .int)) : Ret Tryz.prog 59 [.c (.sl .int xs), .c (.sl .int ys)] [] (.c (.bool (eqB xs ys))) [] := by
  refine ret_vc hT hM Tryz.func59 rfl rfl (m := 0) (nx := 0) rfl (Nat.le_of_ble_eq_true rfl) ?_
  (repeat ((conv => whnf); first | (refine nx ?_; intro s) | (refine rg ?_; intro s k))); (conv => whnf)
  refine giv fun hl => ?_
  (repeat ((conv => whnf); first | (refine nx ?_; intro s) | (refine rg ?_; intro s k))); (conv => whnf)
  refine giv fun hl' => ?_
  (repeat ((conv => whnf); first | (refine nx ?_; intro s) | (refine rg ?_; intro s k))); (conv => whnf)
  refine cas (fun h1 => ?_) (fun h1 => ?_)
  · refine ⟨_, rfl, [], [], rfl, trivial, ⟨?_, trivial⟩, trivial, ⟨trivial, trivial⟩, trivial⟩
    show C.bool _ = C.bool _
    have hne : xs ≠ ys := by rintro rfl; simp at h1
    rw [eqB_no hne]
  · have hlen : xs.length = ys.length := by simp at h1; omega
    (repeat ((conv => whnf); first | (refine nx ?_; intro s) | (refine rg ?_; intro s k))); (conv => whnf)
    refine Tri.loop (fun i : Nat => ⟨[(0, .c (.sl .int xs)), (1, .c (.sl .int ys)), (5, .c (.int .i64 i))], [], 0⟩) (fun i => i ≤ xs.length ∧ xs.take i = ys.take i) (fun i => xs.length - i) 0 ⟨by omega, by simp⟩ ?_ ?_
    · exact WkF.ok (l := []) (ρ := []) ⟨rfl, trivial, ⟨rfl, rfl, rfl, trivial⟩, trivial, ⟨trivial, trivial, trivial, trivial⟩, trivial⟩
    · intro i ⟨hi, hpre⟩
      refine vc_sound hT hM _ _ _ ?_
      (repeat ((conv => whnf); first | (refine nx ?_; intro s) | (refine rg ?_; intro s k))); (conv => whnf)
      refine giv fun _ => ?_
      (repeat ((conv => whnf); first | (refine nx ?_; intro s) | (refine rg ?_; intro s k))); (conv => whnf)
      refine cas (fun h2 => ?_) (fun h2 => ?_)
      · have hlt : i < xs.length := by simp at h2; exact h2
        (repeat ((conv => whnf); first | (refine nx ?_; intro s) | (refine rg ?_; intro s k))); (conv => whnf)
        refine need ⟨by omega, by omega⟩ ?_
        (repeat ((conv => whnf); first | (refine nx ?_; intro s) | (refine rg ?_; intro s k))); (conv => whnf)
        refine giv fun _ => ?_
        (repeat ((conv => whnf); first | (refine nx ?_; intro s) | (refine rg ?_; intro s k))); (conv => whnf)
        refine need ⟨by omega, by omega⟩ ?_
        (repeat ((conv => whnf); first | (refine nx ?_; intro s) | (refine rg ?_; intro s k))); (conv => whnf)
        refine giv fun _ => ?_
        (repeat ((conv => whnf); first | (refine nx ?_; intro s) | (refine rg ?_; intro s k))); (conv => whnf)
        refine need (by kernel_rfl) ?_
        have hx : xs[i]? = some (xs.getD i (dflt .int)) := getD_some hlt _
        have hy : ys[i]? = some (ys.getD i (dflt .int)) := getD_some (by omega) _
        (repeat ((conv => whnf); first | (refine nx ?_; intro s) | (refine rg ?_; intro s k))); (conv => whnf)
        refine cas (fun h3 => ?_) (fun h3 => ?_)
        · refine ⟨_, rfl, [], [], rfl, trivial, ⟨?_, trivial⟩, trivial, ⟨trivial, trivial⟩, trivial⟩
          show C.bool _ = C.bool _
          have hne : xs ≠ ys := by
            rintro rfl
            simp at h3
          rw [eqB_no hne]
        · have he : xs.getD i (dflt .int) = ys.getD i (dflt .int) := by
            simpa using h3
          (repeat ((conv => whnf); first | (refine nx ?_; intro s) | (refine rg ?_; intro s k))); (conv => whnf)
          refine ⟨i + 1, ⟨by omega, ?_⟩, by omega, WkF.ok (l := []) (ρ := []) ⟨rfl, trivial, ⟨rfl, rfl, ?_, trivial⟩, trivial, ⟨trivial, trivial, trivial, trivial⟩, trivial⟩⟩
          · rw [List.take_add_one, List.take_add_one, hx, hy, he, hpre]
          · show C.int _ _ = C.int _ _
            rw [wrap_i64 (by omega) (by simp only [byE] at hl; omega)]
            rfl
      · have hge : xs.length ≤ i := by simp at h2; exact h2
        refine ⟨_, rfl, [], [], rfl, trivial, ⟨?_, trivial⟩, trivial, ⟨trivial, trivial⟩, trivial⟩
        show C.bool _ = C.bool _
        rw [List.take_of_length_le hge, List.take_of_length_le (by omega)] at hpre
        rw [eqB_yes hpre]
theorem r_eqPairS (xs ys : List (El .pr)) : Ret Tryz.prog 14 [.c (.sl .pr xs), .c (.sl .pr ys)] [] (.c (.bool (eqB xs ys))) [] := by
  refine ret_vc hT hM Tryz.func14 rfl rfl (m := 0) (nx := 0) rfl (Nat.le_of_ble_eq_true rfl) ?_
  (repeat ((conv => whnf); first | (refine nx ?_; intro s) | (refine rg ?_; intro s k))); (conv => whnf)
  refine giv fun hl => ?_
  (repeat ((conv => whnf); first | (refine nx ?_; intro s) | (refine rg ?_; intro s k))); (conv => whnf)
  refine giv fun hl' => ?_
  (repeat ((conv => whnf); first | (refine nx ?_; intro s) | (refine rg ?_; intro s k))); (conv => whnf)
  refine cas (fun h1 => ?_) (fun h1 => ?_)
  · refine ⟨_, rfl, [], [], rfl, trivial, ⟨?_, trivial⟩, trivial, ⟨trivial, trivial⟩, trivial⟩
    show C.bool _ = C.bool _
    have hne : xs ≠ ys := by rintro rfl; simp at h1
    rw [eqB_no hne]
  · have hlen : xs.length = ys.length := by simp at h1; omega
    (repeat ((conv => whnf); first | (refine nx ?_; intro s) | (refine rg ?_; intro s k))); (conv => whnf)
    refine Tri.loop (fun i : Nat => ⟨[(0, .c (.sl .pr xs)), (1, .c (.sl .pr ys)), (5, .c (.int .i64 i))], [], 0⟩) (fun i => i ≤ xs.length ∧ xs.take i = ys.take i) (fun i => xs.length - i) 0 ⟨by omega, by simp⟩ ?_ ?_
    · exact WkF.ok (l := []) (ρ := []) ⟨rfl, trivial, ⟨rfl, rfl, rfl, trivial⟩, trivial, ⟨trivial, trivial, trivial, trivial⟩, trivial⟩
    · intro i ⟨hi, hpre⟩
      refine vc_sound hT hM _ _ _ ?_
      (repeat ((conv => whnf); first | (refine nx ?_; intro s) | (refine rg ?_; intro s k))); (conv => whnf)
      refine giv fun _ => ?_
      (repeat ((conv => whnf); first | (refine nx ?_; intro s) | (refine rg ?_; intro s k))); (conv => whnf)
      refine cas (fun h2 => ?_) (fun h2 => ?_)
      · have hlt : i < xs.length := by simp at h2; exact h2
        (repeat ((conv => whnf); first | (refine nx ?_; intro s) | (refine rg ?_; intro s k))); (conv => whnf)
        refine need ⟨by omega, by omega⟩ ?_
        (repeat ((conv => whnf); first | (refine nx ?_; intro s) | (refine rg ?_; intro s k))); (conv => whnf)
        refine giv fun _ => ?_
        (repeat ((conv => whnf); first | (refine nx ?_; intro s) | (refine rg ?_; intro s k))); (conv => whnf)
        refine need ⟨by omega, by omega⟩ ?_
        (repeat ((conv => whnf); first | (refine nx ?_; intro s) | (refine rg ?_; intro s k))); (conv => whnf)
        refine giv fun _ => ?_
        (repeat ((conv => whnf); first | (refine nx ?_; intro s) | (refine rg ?_; intro s k))); (conv => whnf)
        refine call_p (r_eqPair (xs.getD i (dflt .pr)) (ys.getD i (dflt .pr))) rfl ⟨⟨trivial, trivial, trivial⟩, ⟨trivial, trivial, trivial⟩, trivial⟩ ?_
        (repeat ((conv => whnf); first | (refine nx ?_; intro s) | (refine rg ?_; intro s k))); (conv => whnf)
        refine need (by kernel_rfl) ?_
        have hx : xs[i]? = some (xs.getD i (dflt .pr)) := getD_some hlt _
        have hy : ys[i]? = some (ys.getD i (dflt .pr)) := getD_some (by omega) _
        (repeat ((conv => whnf); first | (refine nx ?_; intro s) | (refine rg ?_; intro s k))); (conv => whnf)
        refine cas (fun h3 => ?_) (fun h3 => ?_)
        · refine ⟨_, rfl, [], [], rfl, trivial, ⟨?_, trivial⟩, trivial, ⟨trivial, trivial⟩, trivial⟩
          show C.bool _ = C.bool _
          have hne : xs ≠ ys := by
            rintro rfl
            rw [eqB_yes rfl] at h3
            cases h3
          rw [eqB_no hne]
        · have he : xs.getD i (dflt .pr) = ys.getD i (dflt .pr) := by
            apply Classical.byContradiction
            intro hn
            rw [eqB_no hn] at h3
            cases h3
          (repeat ((conv => whnf); first | (refine nx ?_; intro s) | (refine rg ?_; intro s k))); (conv => whnf)
          refine ⟨i + 1, ⟨by omega, ?_⟩, by omega, WkF.ok (l := []) (ρ := []) ⟨rfl, trivial, ⟨rfl, rfl, ?_, trivial⟩, trivial, ⟨trivial, trivial, trivial, trivial⟩, trivial⟩⟩
          · rw [List.take_add_one, List.take_add_one, hx, hy, he, hpre]
          · show C.int _ _ = C.int _ _
            rw [wrap_i64 (by omega) (by simp only [byE] at hl; omega)]
            rfl
      · have hge : xs.length ≤ i := by simp at h2; exact h2
        refine ⟨_, rfl, [], [], rfl, trivial, ⟨?_, trivial⟩, trivial, ⟨trivial, trivial⟩, trivial⟩
        show C.bool _ = C.bool _
        rw [List.take_of_length_le hge, List.take_of_length_le (by omega)] at hpre
        rw [eqB_yes hpre]
theorem r_eqMsgS (xs ys : List (El .ms)) : Ret Tryz.prog 61 [.c (.sl .ms xs), .c (.sl .ms ys)] [] (.c (.bool (eqB xs ys))) [] := by
  refine ret_vc hT hM Tryz.func61 rfl rfl (m := 0) (nx := 0) rfl (Nat.le_of_ble_eq_true rfl) ?_
  (repeat ((conv => whnf); first | (refine nx ?_; intro s) | (refine rg ?_; intro s k))); (conv => whnf)
  refine giv fun hl => ?_
  (repeat ((conv => whnf); first | (refine nx ?_; intro s) | (refine rg ?_; intro s k))); (conv => whnf)
  refine giv fun hl' => ?_
  (repeat ((conv => whnf); first | (refine nx ?_; intro s) | (refine rg ?_; intro s k))); (conv => whnf)
  refine cas (fun h1 => ?_) (fun h1 => ?_)
  · refine ⟨_, rfl, [], [], rfl, trivial, ⟨?_, trivial⟩, trivial, ⟨trivial, trivial⟩, trivial⟩
    show C.bool _ = C.bool _
    have hne : xs ≠ ys := by rintro rfl; simp at h1
    rw [eqB_no hne]
  · have hlen : xs.length = ys.length := by simp at h1; omega
    (repeat ((conv => whnf); first | (refine nx ?_; intro s) | (refine rg ?_; intro s k))); (conv => whnf)
    refine Tri.loop (fun i : Nat => ⟨[(0, .c (.sl .ms xs)), (1, .c (.sl .ms ys)), (5, .c (.int .i64 i))], [], 0⟩) (fun i => i ≤ xs.length ∧ xs.take i = ys.take i) (fun i => xs.length - i) 0 ⟨by omega, by simp⟩ ?_ ?_
    · exact WkF.ok (l := []) (ρ := []) ⟨rfl, trivial, ⟨rfl, rfl, rfl, trivial⟩, trivial, ⟨trivial, trivial, trivial, trivial⟩, trivial⟩
    · intro i ⟨hi, hpre⟩
      refine vc_sound hT hM _ _ _ ?_
      (repeat ((conv => whnf); first | (refine nx ?_; intro s) | (refine rg ?_; intro s k))); (conv => whnf)
      refine giv fun _ => ?_
      (repeat ((conv => whnf); first | (refine nx ?_; intro s) | (refine rg ?_; intro s k))); (conv => whnf)
      refine cas (fun h2 => ?_) (fun h2 => ?_)
      · have hlt : i < xs.length := by simp at h2; exact h2
        (repeat ((conv => whnf); first | (refine nx ?_; intro s) | (refine rg ?_; intro s k))); (conv => whnf)
        refine need ⟨by omega, by omega⟩ ?_
        (repeat ((conv => whnf); first | (refine nx ?_; intro s) | (refine rg ?_; intro s k))); (conv => whnf)
        refine giv fun _ => ?_
        (repeat ((conv => whnf); first | (refine nx ?_; intro s) | (refine rg ?_; intro s k))); (conv => whnf)
        refine need ⟨by omega, by omega⟩ ?_
        (repeat ((conv => whnf); first | (refine nx ?_; intro s) | (refine rg ?_; intro s k))); (conv => whnf)
        refine giv fun _ => ?_
        (repeat ((conv => whnf); first | (refine nx ?_; intro s) | (refine rg ?_; intro s k))); (conv => whnf)
        refine call_p (r_eqMsg (xs.getD i (dflt .ms)) (ys.getD i (dflt .ms))) rfl ⟨⟨trivial, trivial, trivial, trivial⟩, ⟨trivial, trivial, trivial, trivial⟩, trivial⟩ ?_
        (repeat ((conv => whnf); first | (refine nx ?_; intro s) | (refine rg ?_; intro s k))); (conv => whnf)
        refine need (by kernel_rfl) ?_
        have hx : xs[i]? = some (xs.getD i (dflt .ms)) := getD_some hlt _
        have hy : ys[i]? = some (ys.getD i (dflt .ms)) := getD_some (by omega) _
        (repeat ((conv => whnf); first | (refine nx ?_; intro s) | (refine rg ?_; intro s k))); (conv => whnf)
        refine cas (fun h3 => ?_) (fun h3 => ?_)
        · refine ⟨_, rfl, [], [], rfl, trivial, ⟨?_, trivial⟩, trivial, ⟨trivial, trivial⟩, trivial⟩
          show C.bool _ = C.bool _
          have hne : xs ≠ ys := by
            rintro rfl
            rw [eqB_yes rfl] at h3
            cases h3
          rw [eqB_no hne]
        · have he : xs.getD i (dflt .ms) = ys.getD i (dflt .ms) := by
            apply Classical.byContradiction
            intro hn
            rw [eqB_no hn] at h3
            cases h3
          (repeat ((conv => whnf); first | (refine nx ?_; intro s) | (refine rg ?_; intro s k))); (conv => whnf)
          refine ⟨i + 1, ⟨by omega, ?_⟩, by omega, WkF.ok (l := []) (ρ := []) ⟨rfl, trivial, ⟨rfl, rfl, ?_, trivial⟩, trivial, ⟨trivial, trivial, trivial, trivial⟩, trivial⟩⟩
          · rw [List.take_add_one, List.take_add_one, hx, hy, he, hpre]
          · show C.int _ _ = C.int _ _
            rw [wrap_i64 (by omega) (by simp only [byE] at hl; omega)]
            rfl
      · have hge : xs.length ≤ i := by simp at h2; exact h2
        refine ⟨_, rfl, [], [], rfl, trivial, ⟨?_, trivial⟩, trivial, ⟨trivial, trivial⟩, trivial⟩
        show C.bool _ = C.bool _
        rw [List.take_of_length_le hge, List.take_of_length_le (by omega)] at hpre
        rw [eqB_yes hpre]
theorem r_toTreeS (xs : List (El .tr)) (hc : ∀ x ∈ xs, Ret Tryz.prog 20 [agE .tr x] [] (ownA .tr x) (ownH .tr x)) : Ret Tryz.prog 79 [.c (.sl .tr xs)] [] (.rw 0) [(0, .dp .tr xs)] := by
  refine ret_vc hT hM Tryz.func79 rfl rfl (m := 0) (nx := 0) rfl (Nat.le_of_ble_eq_true rfl) ?_
  (repeat ((conv => whnf); first | (refine nx ?_; intro s) | (refine rg ?_; intro s k))); (conv => whnf)
  refine giv fun hl => ?_
  (repeat ((conv => whnf); first | (refine nx ?_; intro s) | (refine rg ?_; intro s k))); (conv => whnf)
  refine need (by kernel_rfl) ?_
  (repeat ((conv => whnf); first | (refine nx ?_; intro s) | (refine rg ?_; intro s k))); (conv => whnf)
  refine need (by kernel_rfl) ?_
  (repeat ((conv => whnf); first | (refine nx ?_; intro s) | (refine rg ?_; intro s k))); (conv => whnf)
  refine need ⟨by omega, by simp only [byE] at hl ⊢; omega⟩ ?_
  (repeat ((conv => whnf); first | (refine nx ?_; intro s) | (refine rg ?_; intro s k))); (conv => whnf)
  refine Tri.loop (fun i : Nat => ⟨[(0, .c (.sl .tr xs)), (3, .rw 0), (4, .c (.int .i64 i))], [(0, .dp .tr (xs.take i ++ List.replicate (xs.length - i) (dflt .tr)))], 1⟩) (fun i => i ≤ xs.length) (fun i => xs.length - i) 0 (by omega) ?_ ?_
  · refine WkF.ok (l := []) (ρ := []) ⟨rfl, trivial, ⟨rfl, rfl, rfl, trivial⟩, ⟨?_, trivial⟩, ⟨trivial, rfl, trivial, trivial⟩, ⟨trivial, trivial⟩⟩
    show some (Ob.dp _ _) = some (Ob.dp _ _)
    simp
  · intro i hi
    refine vc_sound hT hM _ _ _ ?_
    (repeat ((conv => whnf); first | (refine nx ?_; intro s) | (refine rg ?_; intro s k))); (conv => whnf)
    refine giv fun _ => ?_
    (repeat ((conv => whnf); first | (refine nx ?_; intro s) | (refine rg ?_; intro s k))); (conv => whnf)
    refine cas (fun h1 => ?_) (fun h1 => ?_)
    · have hlt : i < xs.length := by simp at h1; exact h1
      (repeat ((conv => whnf); first | (refine nx ?_; intro s) | (refine rg ?_; intro s k))); (conv => whnf)
      refine need ⟨by omega, by omega⟩ ?_
      (repeat ((conv => whnf); first | (refine nx ?_; intro s) | (refine rg ?_; intro s k))); (conv => whnf)
      refine giv fun _ => ?_
      (repeat ((conv => whnf); first | (refine nx ?_; intro s) | (refine rg ?_; intro s k))); (conv => whnf)
      refine call_n (hc _ (List.mem_of_getElem? (getD_some hlt (dflt .tr)))) rfl (by (repeat' (first | exact trivial | refine ⟨?_, ?_⟩ | exact rfl | exact Or.inr rfl | exact Or.inl (Nat.le_of_ble_eq_true rfl)))) (by (repeat' (first | exact trivial | refine ⟨?_, ?_⟩ | exact rfl | exact Or.inr rfl | exact Or.inl (Nat.le_of_ble_eq_true rfl)))) ?_
      (repeat ((conv => whnf); first | (refine nx ?_; intro s) | (refine rg ?_; intro s k))); (conv => whnf)
      refine need ⟨by omega, by simp; omega⟩ ?_
      (repeat ((conv => whnf); first | (refine nx ?_; intro s) | (refine rg ?_; intro s k))); (conv => whnf)
      refine giv fun _ => ?_
      (repeat ((conv => whnf); first | (refine nx ?_; intro s) | (refine rg ?_; intro s k))); (conv => whnf)
      refine need (by simp; omega) ?_
      (repeat ((conv => whnf); first | (refine nx ?_; intro s) | (refine rg ?_; intro s k))); (conv => whnf)
      refine need (by kernel_rfl) ?_
      (repeat ((conv => whnf); first | (refine nx ?_; intro s) | (refine rg ?_; intro s k))); (conv => whnf)
      refine ⟨i + 1, by omega, by omega, WkF.ok (l := []) (ρ := []) ⟨rfl, trivial, ⟨rfl, rfl, ?_, trivial⟩, ⟨?_, trivial⟩, ⟨trivial, rfl, trivial, trivial⟩, ⟨trivial, trivial⟩⟩⟩
      · show C.int _ _ = C.int _ _
        rw [wrap_i64 (by omega) (by simp only [byE] at hl; omega)]
        rfl
      · show some (Ob.dp _ _) = some (Ob.dp _ _)
        refine congrArg (fun l => some (Ob.dp .tr l)) ?_
        show List.set _ i (mkE .tr (spl (cells .tr _) 0 (cells .tr (xs.getD i (dflt .tr))))) = _
        rw [spl_all]
        exact fill_set xs (dflt .tr) hlt
    · (repeat ((conv => whnf); first | (refine nx ?_; intro s) | (refine rg ?_; intro s k))); (conv => whnf)
      refine ⟨_, rfl, [], [], ⟨rfl, trivial, ⟨rfl, trivial⟩, ⟨?_, trivial⟩, ⟨rfl, trivial⟩, ⟨trivial, trivial⟩⟩⟩
      show some (Ob.dp _ _) = some (Ob.dp _ _)
      have hge : xs.length ≤ i := by simp at h1; exact h1
      exact congrArg (fun l => some (Ob.dp .tr l)) (fill_all xs (dflt .tr) hge)
theorem r_eqTreeS (xs ys : List (El .tr)) (hc : ∀ x ∈ xs, ∀ y, Ret Tryz.prog 13 [agE .tr x, agE .tr y] [] (.c (.bool (eqB x y))) []) : Ret Tryz.prog 60 [.c (.sl .tr xs), .c (.sl .tr ys)] [] (.c (.bool (eqB xs ys))) [] := by
  refine ret_vc hT hM Tryz.func60 rfl rfl (m := 0) (nx := 0) rfl (Nat.le_of_ble_eq_true rfl) ?_
  (repeat ((conv => whnf); first | (refine nx ?_; intro s) | (refine rg ?_; intro s k))); (conv => whnf)
  refine giv fun hl => ?_
  (repeat ((conv => whnf); first | (refine nx ?_; intro s) | (refine rg ?_; intro s k))); (conv => whnf)
  refine giv fun hl' => ?_
  (repeat ((conv => whnf); first | (refine nx ?_; intro s) | (refine rg ?_; intro s k))); (conv => whnf)
  refine cas (fun h1 => ?_) (fun h1 => ?_)
  · refine ⟨_, rfl, [], [], rfl, trivial, ⟨?_, trivial⟩, trivial, ⟨trivial, trivial⟩, trivial⟩
    show C.bool _ = C.bool _
    have hne : xs ≠ ys := by rintro rfl; simp at h1
    rw [eqB_no hne]
  · have hlen : xs.length = ys.length := by simp at h1; omega
    (repeat ((conv => whnf); first | (refine nx ?_; intro s) | (refine rg ?_; intro s k))); (conv => whnf)
    refine Tri.loop (fun i : Nat => ⟨[(0, .c (.sl .tr xs)), (1, .c (.sl .tr ys)), (5, .c (.int .i64 i))], [], 0⟩) (fun i => i ≤ xs.length ∧ xs.take i = ys.take i) (fun i => xs.length - i) 0 ⟨by omega, by simp⟩ ?_ ?_
    · exact WkF.ok (l := []) (ρ := []) ⟨rfl, trivial, ⟨rfl, rfl, rfl, trivial⟩, trivial, ⟨trivial, trivial, trivial, trivial⟩, trivial⟩
    · intro i ⟨hi, hpre⟩
      refine vc_sound hT hM _ _ _ ?_
      (repeat ((conv => whnf); first | (refine nx ?_; intro s) | (refine rg ?_; intro s k))); (conv => whnf)
      refine giv fun _ => ?_
      (repeat ((conv => whnf); first | (refine nx ?_; intro s) | (refine rg ?_; intro s k))); (conv => whnf)
      refine cas (fun h2 => ?_) (fun h2 => ?_)
      · have hlt : i < xs.length := by simp at h2; exact h2
        (repeat ((conv => whnf); first | (refine nx ?_; intro s) | (refine rg ?_; intro s k))); (conv => whnf)
        refine need ⟨by omega, by omega⟩ ?_
        (repeat ((conv => whnf); first | (refine nx ?_; intro s) | (refine rg ?_; intro s k))); (conv => whnf)
        refine giv fun _ => ?_
        (repeat ((conv => whnf); first | (refine nx ?_; intro s) | (refine rg ?_; intro s k))); (conv => whnf)
        refine need ⟨by omega, by omega⟩ ?_
        (repeat ((conv => whnf); first | (refine nx ?_; intro s) | (refine rg ?_; intro s k))); (conv => whnf)
        refine giv fun _ => ?_
        (repeat ((conv => whnf); first | (refine nx ?_; intro s) | (refine rg ?_; intro s k))); (conv => whnf)
        refine call_p (hc _ (List.mem_of_getElem? (getD_some hlt (dflt .tr))) (ys.getD i (dflt .tr))) rfl ⟨⟨trivial, trivial, trivial, trivial, trivial, trivial⟩, ⟨trivial, trivial, trivial, trivial, trivial, trivial⟩, trivial⟩ ?_
        (repeat ((conv => whnf); first | (refine nx ?_; intro s) | (refine rg ?_; intro s k))); (conv => whnf)
        refine need (by kernel_rfl) ?_
        have hx : xs[i]? = some (xs.getD i (dflt .tr)) := getD_some hlt _
        have hy : ys[i]? = some (ys.getD i (dflt .tr)) := getD_some (by omega) _
        (repeat ((conv => whnf); first | (refine nx ?_; intro s) | (refine rg ?_; intro s k))); (conv => whnf)
        refine cas (fun h3 => ?_) (fun h3 => ?_)
        · refine ⟨_, rfl, [], [], rfl, trivial, ⟨?_, trivial⟩, trivial, ⟨trivial, trivial⟩, trivial⟩
          show C.bool _ = C.bool _
          have hne : xs ≠ ys := by
            rintro rfl
            rw [eqB_yes rfl] at h3
            cases h3
          rw [eqB_no hne]
        · have he : xs.getD i (dflt .tr) = ys.getD i (dflt .tr) := by
            apply Classical.byContradiction
            intro hn
            rw [eqB_no hn] at h3
            cases h3
          (repeat ((conv => whnf); first | (refine nx ?_; intro s) | (refine rg ?_; intro s k))); (conv => whnf)
          refine ⟨i + 1, ⟨by omega, ?_⟩, by omega, WkF.ok (l := []) (ρ := []) ⟨rfl, trivial, ⟨rfl, rfl, ?_, trivial⟩, trivial, ⟨trivial, trivial, trivial, trivial⟩, trivial⟩⟩
          · rw [List.take_add_one, List.take_add_one, hx, hy, he, hpre]
          · show C.int _ _ = C.int _ _
            rw [wrap_i64 (by omega) (by simp only [byE] at hl; omega)]
            rfl
      · have hge : xs.length ≤ i := by simp at h2; exact h2
        refine ⟨_, rfl, [], [], rfl, trivial, ⟨?_, trivial⟩, trivial, ⟨trivial, trivial⟩, trivial⟩
        show C.bool _ = C.bool _
        rw [List.take_of_length_le hge, List.take_of_length_le (by omega)] at hpre
        rw [eqB_yes hpre]
end Go.Proofs.YthbpdhppelaihaaGreat
