/- Copies of what worlds are made of: all that comes out is its own. Conditions: none. By program (gen3.py). -/
import Derived.Test.YthbpdhppelaihaaGreatW1
set_option linter.unusedVariables false
set_option linter.unusedSimpArgs false
namespace Go.Proofs.YthbpdhppelaihaaGreat
open Go.RowKit
attribute [local irreducible] Tri Weak
set_option maxRecDepth 4000
set_option maxHeartbeats 4000000
/-- A value that is one's own all the way down: the value, the objects. -/
abbrev ownC (l : List C) : A := .ag (focA 0 l)
abbrev ownCH (l : List C) : Hp := focH 0 l
theorem r_toCmd (x : El .cm) : Ret Tryz.prog 179 [agE .cm x] [] (agE .cm x) [] := by
  refine ret_vc hT hM Tryz.func179 rfl rfl (m := 0) (nx := 0) rfl (Nat.le_of_ble_eq_true rfl) ?_
  (repeat' ((conv => whnf); first | (refine nx ?_; intro s) | (refine rg ?_; intro s k) | ((refine cas (fun h => ?_) (fun h => ?_)) <;> (try simp [-List.getD_eq_getElem?_getD] at h)) | ((refine may (fun h => ?_) ?_) <;> (try simp [-List.getD_eq_getElem?_getD] at h)) | (refine giv fun hg => ?_; (try simp only [byE] at hg)) | (refine need (by kernel_rfl) ?_) | (refine need ⟨by omega, by omega⟩ ?_) | (refine need (by omega) ?_) | (refine need (by first | (simp; done) | (simp; omega)) ?_) | (refine call_p (r_toMsg x.m) rfl (by (repeat' (first | exact trivial | refine ⟨?_, ?_⟩ | exact rfl | exact Or.inr rfl | exact Or.inl (Nat.le_of_ble_eq_true rfl)))) ?_) | (refine fin_au rfl ?_; (conv => whnf); ((repeat' (first | exact trivial | refine ⟨?_, ?_⟩ | exact rfl | exact Or.inr rfl | exact Or.inl (Nat.le_of_ble_eq_true rfl))) <;> (try (conv => whnf)) <;> (try (first | refine congrArg C.bool ?_ | refine congrArg (C.int .i64) ?_ | refine congrArg C.str ?_ | refine congrArg (fun l => some (Ob.row _ l)) ?_ | refine congrArg (fun l => some (Ob.dp _ l)) ?_ | refine congrArg (C.sl _) ?_)) <;> (try (rw [wrap_i64 (by omega) (by omega)]; first | rfl | omega)))) | (refine WkF.au ?_; (conv => whnf); ((repeat' (first | exact trivial | refine ⟨?_, ?_⟩ | exact rfl | exact Or.inr rfl | exact Or.inl (Nat.le_of_ble_eq_true rfl))) <;> (try (conv => whnf)) <;> (try (first | refine congrArg C.bool ?_ | refine congrArg (C.int .i64) ?_ | refine congrArg C.str ?_ | refine congrArg (fun l => some (Ob.row _ l)) ?_ | refine congrArg (fun l => some (Ob.dp _ l)) ?_ | refine congrArg (C.sl _) ?_)) <;> (try (rw [wrap_i64 (by omega) (by omega)]; first | rfl | omega)))) | (refine altl ?_) | fail))
theorem r_toDone (x : El .dn) : Ret Tryz.prog 180 [agE .dn x] [] (agE .dn x) [] := by
  refine ret_vc hT hM Tryz.func180 rfl rfl (m := 0) (nx := 0) rfl (Nat.le_of_ble_eq_true rfl) ?_
  (repeat' ((conv => whnf); first | (refine nx ?_; intro s) | (refine rg ?_; intro s k) | ((refine cas (fun h => ?_) (fun h => ?_)) <;> (try simp [-List.getD_eq_getElem?_getD] at h)) | ((refine may (fun h => ?_) ?_) <;> (try simp [-List.getD_eq_getElem?_getD] at h)) | (refine giv fun hg => ?_; (try simp only [byE] at hg)) | (refine need (by kernel_rfl) ?_) | (refine need ⟨by omega, by omega⟩ ?_) | (refine need (by omega) ?_) | (refine need (by first | (simp; done) | (simp; omega)) ?_) | (refine fin_au rfl ?_; (conv => whnf); ((repeat' (first | exact trivial | refine ⟨?_, ?_⟩ | exact rfl | exact Or.inr rfl | exact Or.inl (Nat.le_of_ble_eq_true rfl))) <;> (try (conv => whnf)) <;> (try (first | refine congrArg C.bool ?_ | refine congrArg (C.int .i64) ?_ | refine congrArg C.str ?_ | refine congrArg (fun l => some (Ob.row _ l)) ?_ | refine congrArg (fun l => some (Ob.dp _ l)) ?_ | refine congrArg (C.sl _) ?_)) <;> (try (rw [wrap_i64 (by omega) (by omega)]; first | rfl | omega)))) | (refine WkF.au ?_; (conv => whnf); ((repeat' (first | exact trivial | refine ⟨?_, ?_⟩ | exact rfl | exact Or.inr rfl | exact Or.inl (Nat.le_of_ble_eq_true rfl))) <;> (try (conv => whnf)) <;> (try (first | refine congrArg C.bool ?_ | refine congrArg (C.int .i64) ?_ | refine congrArg C.str ?_ | refine congrArg (fun l => some (Ob.row _ l)) ?_ | refine congrArg (fun l => some (Ob.dp _ l)) ?_ | refine congrArg (C.sl _) ?_)) <;> (try (rw [wrap_i64 (by omega) (by omega)]; first | rfl | omega)))) | (refine altl ?_) | fail))
theorem r_toLead (x : El .ld) : Ret Tryz.prog 181 [agE .ld x] [] (agE .ld x) [] := by
  refine ret_vc hT hM Tryz.func181 rfl rfl (m := 0) (nx := 0) rfl (Nat.le_of_ble_eq_true rfl) ?_
  (repeat' ((conv => whnf); first | (refine nx ?_; intro s) | (refine rg ?_; intro s k) | ((refine cas (fun h => ?_) (fun h => ?_)) <;> (try simp [-List.getD_eq_getElem?_getD] at h)) | ((refine may (fun h => ?_) ?_) <;> (try simp [-List.getD_eq_getElem?_getD] at h)) | (refine giv fun hg => ?_; (try simp only [byE] at hg)) | (refine need (by kernel_rfl) ?_) | (refine need ⟨by omega, by omega⟩ ?_) | (refine need (by omega) ?_) | (refine need (by first | (simp; done) | (simp; omega)) ?_) | (refine fin_au rfl ?_; (conv => whnf); ((repeat' (first | exact trivial | refine ⟨?_, ?_⟩ | exact rfl | exact Or.inr rfl | exact Or.inl (Nat.le_of_ble_eq_true rfl))) <;> (try (conv => whnf)) <;> (try (first | refine congrArg C.bool ?_ | refine congrArg (C.int .i64) ?_ | refine congrArg C.str ?_ | refine congrArg (fun l => some (Ob.row _ l)) ?_ | refine congrArg (fun l => some (Ob.dp _ l)) ?_ | refine congrArg (C.sl _) ?_)) <;> (try (rw [wrap_i64 (by omega) (by omega)]; first | rfl | omega)))) | (refine WkF.au ?_; (conv => whnf); ((repeat' (first | exact trivial | refine ⟨?_, ?_⟩ | exact rfl | exact Or.inr rfl | exact Or.inl (Nat.le_of_ble_eq_true rfl))) <;> (try (conv => whnf)) <;> (try (first | refine congrArg C.bool ?_ | refine congrArg (C.int .i64) ?_ | refine congrArg C.str ?_ | refine congrArg (fun l => some (Ob.row _ l)) ?_ | refine congrArg (fun l => some (Ob.dp _ l)) ?_ | refine congrArg (C.sl _) ?_)) <;> (try (rw [wrap_i64 (by omega) (by omega)]; first | rfl | omega)))) | (refine altl ?_) | fail))
theorem r_toEntry (x : El .en) : Ret Tryz.prog 230 [agE .en x] [] (agE .en x) [] := by
  refine ret_vc hT hM Tryz.func230 rfl rfl (m := 0) (nx := 0) rfl (Nat.le_of_ble_eq_true rfl) ?_
  (repeat' ((conv => whnf); first | (refine nx ?_; intro s) | (refine rg ?_; intro s k) | ((refine cas (fun h => ?_) (fun h => ?_)) <;> (try simp [-List.getD_eq_getElem?_getD] at h)) | ((refine may (fun h => ?_) ?_) <;> (try simp [-List.getD_eq_getElem?_getD] at h)) | (refine giv fun hg => ?_; (try simp only [byE] at hg)) | (refine need (by kernel_rfl) ?_) | (refine need ⟨by omega, by omega⟩ ?_) | (refine need (by omega) ?_) | (refine need (by first | (simp; done) | (simp; omega)) ?_) | (refine call_p (r_toCmd x.c) rfl (by (repeat' (first | exact trivial | refine ⟨?_, ?_⟩ | exact rfl | exact Or.inr rfl | exact Or.inl (Nat.le_of_ble_eq_true rfl)))) ?_) | (refine fin_au rfl ?_; (conv => whnf); ((repeat' (first | exact trivial | refine ⟨?_, ?_⟩ | exact rfl | exact Or.inr rfl | exact Or.inl (Nat.le_of_ble_eq_true rfl))) <;> (try (conv => whnf)) <;> (try (first | refine congrArg C.bool ?_ | refine congrArg (C.int .i64) ?_ | refine congrArg C.str ?_ | refine congrArg (fun l => some (Ob.row _ l)) ?_ | refine congrArg (fun l => some (Ob.dp _ l)) ?_ | refine congrArg (C.sl _) ?_)) <;> (try (rw [wrap_i64 (by omega) (by omega)]; first | rfl | omega)))) | (refine WkF.au ?_; (conv => whnf); ((repeat' (first | exact trivial | refine ⟨?_, ?_⟩ | exact rfl | exact Or.inr rfl | exact Or.inl (Nat.le_of_ble_eq_true rfl))) <;> (try (conv => whnf)) <;> (try (first | refine congrArg C.bool ?_ | refine congrArg (C.int .i64) ?_ | refine congrArg C.str ?_ | refine congrArg (fun l => some (Ob.row _ l)) ?_ | refine congrArg (fun l => some (Ob.dp _ l)) ?_ | refine congrArg (C.sl _) ?_)) <;> (try (rw [wrap_i64 (by omega) (by omega)]; first | rfl | omega)))) | (refine altl ?_) | fail))
theorem r_toCmdS (xs : List (El .cm)) : Ret Tryz.prog 96 [.c (.sl .cm xs)] [] (.rw 0) [(0, .row .cm xs)] := by
  refine ret_vc hT hM Tryz.func96 rfl rfl (m := 0) (nx := 0) rfl (Nat.le_of_ble_eq_true rfl) ?_
  (repeat ((conv => whnf); first | (refine nx ?_; intro s) | (refine rg ?_; intro s k))); (conv => whnf)
  refine giv fun hl => ?_
  (repeat ((conv => whnf); first | (refine nx ?_; intro s) | (refine rg ?_; intro s k))); (conv => whnf)
  refine need (by kernel_rfl) ?_
  (repeat ((conv => whnf); first | (refine nx ?_; intro s) | (refine rg ?_; intro s k))); (conv => whnf)
  refine need (by kernel_rfl) ?_
  (repeat ((conv => whnf); first | (refine nx ?_; intro s) | (refine rg ?_; intro s k))); (conv => whnf)
  refine need ⟨by omega, by simp only [byE] at hl ⊢; omega⟩ ?_
  (repeat ((conv => whnf); first | (refine nx ?_; intro s) | (refine rg ?_; intro s k))); (conv => whnf)
  refine Tri.loop (fun i : Nat => ⟨[(0, .c (.sl .cm xs)), (3, .rw 0), (4, .c (.int .i64 i))], [(0, .row .cm (xs.take i ++ List.replicate (xs.length - i) (dflt .cm)))], 1⟩) (fun i => i ≤ xs.length) (fun i => xs.length - i) 0 (by omega) ?_ ?_
  · refine WkF.ok (l := []) (ρ := []) ⟨rfl, trivial, ⟨rfl, rfl, rfl, trivial⟩, ⟨?_, trivial⟩, ⟨trivial, rfl, trivial, trivial⟩, ⟨trivial, trivial⟩⟩
    show some (Ob.row _ _) = some (Ob.row _ _)
    simp
  · intro i hi
    refine vc_sound hT hM _ _ _ ?_
    (repeat ((conv => whnf); first | (refine nx ?_; intro s) | (refine rg ?_; intro s k))); (conv => whnf)
    refine giv fun _ => ?_
    (repeat ((conv => whnf); first | (refine nx ?_; intro s) | (refine rg ?_; intro s k))); (conv => whnf)
    refine cas (fun h1 => ?_) (fun h1 => ?_)
    · have hlt : i < xs.length := by simp at h1; exact h1
      (repeat ((conv => whnf); first | (refine nx ?_; intro s) | (refine rg ?_; intro s k))); (conv => whnf)
      refine need ⟨by omega, by omega⟩ ?_
      (repeat ((conv => whnf); first | (refine nx ?_; intro s) | (refine rg ?_; intro s k))); (conv => whnf)
      refine giv fun _ => ?_
      (repeat ((conv => whnf); first | (refine nx ?_; intro s) | (refine rg ?_; intro s k))); (conv => whnf)
      refine call_p (r_toCmd (xs.getD i (dflt .cm))) rfl (by (repeat' (first | exact trivial | refine ⟨?_, ?_⟩ | exact rfl | exact Or.inr rfl | exact Or.inl (Nat.le_of_ble_eq_true rfl)))) ?_
      (repeat ((conv => whnf); first | (refine nx ?_; intro s) | (refine rg ?_; intro s k))); (conv => whnf)
      refine need ⟨by omega, by simp; omega⟩ ?_
      (repeat ((conv => whnf); first | (refine nx ?_; intro s) | (refine rg ?_; intro s k))); (conv => whnf)
      refine giv fun _ => ?_
      (repeat ((conv => whnf); first | (refine nx ?_; intro s) | (refine rg ?_; intro s k))); (conv => whnf)
      refine need (by simp; omega) ?_
      (repeat ((conv => whnf); first | (refine nx ?_; intro s) | (refine rg ?_; intro s k))); (conv => whnf)
      refine need (by kernel_rfl) ?_
      (repeat ((conv => whnf); first | (refine nx ?_; intro s) | (refine rg ?_; intro s k))); (conv => whnf)
      refine ⟨i + 1, by omega, by omega, WkF.ok (l := []) (ρ := []) ⟨rfl, trivial, ⟨rfl, rfl, ?_, trivial⟩, ⟨?_, trivial⟩, ⟨trivial, rfl, trivial, trivial⟩, ⟨trivial, trivial⟩⟩⟩
      · show C.int _ _ = C.int _ _
        rw [wrap_i64 (by omega) (by simp only [byE] at hl; omega)]
        rfl
      · show some (Ob.row _ _) = some (Ob.row _ _)
        refine congrArg (fun l => some (Ob.row .cm l)) ?_
        show List.set _ i (mkE .cm (spl (cells .cm _) 0 (cells .cm (xs.getD i (dflt .cm))))) = _
        rw [spl_all]
        exact fill_set xs (dflt .cm) hlt
    · (repeat ((conv => whnf); first | (refine nx ?_; intro s) | (refine rg ?_; intro s k))); (conv => whnf)
      refine ⟨_, rfl, [], [], ⟨rfl, trivial, ⟨rfl, trivial⟩, ⟨?_, trivial⟩, ⟨rfl, trivial⟩, ⟨trivial, trivial⟩⟩⟩
      show some (Ob.row _ _) = some (Ob.row _ _)
      have hge : xs.length ≤ i := by simp at h1; exact h1
      exact congrArg (fun l => some (Ob.row .cm l)) (fill_all xs (dflt .cm) hge)
theorem r_toDoneS (xs : List (El .dn)) : Ret Tryz.prog 97 [.c (.sl .dn xs)] [] (.rw 0) [(0, .row .dn xs)] := by
  refine ret_vc hT hM Tryz.func97 rfl rfl (m := 0) (nx := 0) rfl (Nat.le_of_ble_eq_true rfl) ?_
  (repeat ((conv => whnf); first | (refine nx ?_; intro s) | (refine rg ?_; intro s k))); (conv => whnf)
  refine giv fun hl => ?_
  (repeat ((conv => whnf); first | (refine nx ?_; intro s) | (refine rg ?_; intro s k))); (conv => whnf)
  refine need (by kernel_rfl) ?_
  (repeat ((conv => whnf); first | (refine nx ?_; intro s) | (refine rg ?_; intro s k))); (conv => whnf)
  refine need (by kernel_rfl) ?_
  (repeat ((conv => whnf); first | (refine nx ?_; intro s) | (refine rg ?_; intro s k))); (conv => whnf)
  refine need ⟨by omega, by simp only [byE] at hl ⊢; omega⟩ ?_
  (repeat ((conv => whnf); first | (refine nx ?_; intro s) | (refine rg ?_; intro s k))); (conv => whnf)
  refine Tri.loop (fun i : Nat => ⟨[(0, .c (.sl .dn xs)), (3, .rw 0), (4, .c (.int .i64 i))], [(0, .row .dn (xs.take i ++ List.replicate (xs.length - i) (dflt .dn)))], 1⟩) (fun i => i ≤ xs.length) (fun i => xs.length - i) 0 (by omega) ?_ ?_
  · refine WkF.ok (l := []) (ρ := []) ⟨rfl, trivial, ⟨rfl, rfl, rfl, trivial⟩, ⟨?_, trivial⟩, ⟨trivial, rfl, trivial, trivial⟩, ⟨trivial, trivial⟩⟩
    show some (Ob.row _ _) = some (Ob.row _ _)
    simp
  · intro i hi
    refine vc_sound hT hM _ _ _ ?_
    (repeat ((conv => whnf); first | (refine nx ?_; intro s) | (refine rg ?_; intro s k))); (conv => whnf)
    refine giv fun _ => ?_
    (repeat ((conv => whnf); first | (refine nx ?_; intro s) | (refine rg ?_; intro s k))); (conv => whnf)
    refine cas (fun h1 => ?_) (fun h1 => ?_)
    · have hlt : i < xs.length := by simp at h1; exact h1
      (repeat ((conv => whnf); first | (refine nx ?_; intro s) | (refine rg ?_; intro s k))); (conv => whnf)
      refine need ⟨by omega, by omega⟩ ?_
      (repeat ((conv => whnf); first | (refine nx ?_; intro s) | (refine rg ?_; intro s k))); (conv => whnf)
      refine giv fun _ => ?_
      (repeat ((conv => whnf); first | (refine nx ?_; intro s) | (refine rg ?_; intro s k))); (conv => whnf)
      refine call_p (r_toDone (xs.getD i (dflt .dn))) rfl (by (repeat' (first | exact trivial | refine ⟨?_, ?_⟩ | exact rfl | exact Or.inr rfl | exact Or.inl (Nat.le_of_ble_eq_true rfl)))) ?_
      (repeat ((conv => whnf); first | (refine nx ?_; intro s) | (refine rg ?_; intro s k))); (conv => whnf)
      refine need ⟨by omega, by simp; omega⟩ ?_
      (repeat ((conv => whnf); first | (refine nx ?_; intro s) | (refine rg ?_; intro s k))); (conv => whnf)
      refine giv fun _ => ?_
      (repeat ((conv => whnf); first | (refine nx ?_; intro s) | (refine rg ?_; intro s k))); (conv => whnf)
      refine need (by simp; omega) ?_
      (repeat ((conv => whnf); first | (refine nx ?_; intro s) | (refine rg ?_; intro s k))); (conv => whnf)
      refine need (by kernel_rfl) ?_
      (repeat ((conv => whnf); first | (refine nx ?_; intro s) | (refine rg ?_; intro s k))); (conv => whnf)
      refine ⟨i + 1, by omega, by omega, WkF.ok (l := []) (ρ := []) ⟨rfl, trivial, ⟨rfl, rfl, ?_, trivial⟩, ⟨?_, trivial⟩, ⟨trivial, rfl, trivial, trivial⟩, ⟨trivial, trivial⟩⟩⟩
      · show C.int _ _ = C.int _ _
        rw [wrap_i64 (by omega) (by simp only [byE] at hl; omega)]
        rfl
      · show some (Ob.row _ _) = some (Ob.row _ _)
        refine congrArg (fun l => some (Ob.row .dn l)) ?_
        show List.set _ i (mkE .dn (spl (cells .dn _) 0 (cells .dn (xs.getD i (dflt .dn))))) = _
        rw [spl_all]
        exact fill_set xs (dflt .dn) hlt
    · (repeat ((conv => whnf); first | (refine nx ?_; intro s) | (refine rg ?_; intro s k))); (conv => whnf)
      refine ⟨_, rfl, [], [], ⟨rfl, trivial, ⟨rfl, trivial⟩, ⟨?_, trivial⟩, ⟨rfl, trivial⟩, ⟨trivial, trivial⟩⟩⟩
      show some (Ob.row _ _) = some (Ob.row _ _)
      have hge : xs.length ≤ i := by simp at h1; exact h1
      exact congrArg (fun l => some (Ob.row .dn l)) (fill_all xs (dflt .dn) hge)
theorem r_toLeadS (xs : List (El .ld)) : Ret Tryz.prog 98 [.c (.sl .ld xs)] [] (.rw 0) [(0, .row .ld xs)] := by
  refine ret_vc hT hM Tryz.func98 rfl rfl (m := 0) (nx := 0) rfl (Nat.le_of_ble_eq_true rfl) ?_
  (repeat ((conv => whnf); first | (refine nx ?_; intro s) | (refine rg ?_; intro s k))); (conv => whnf)
  refine giv fun hl => ?_
  (repeat ((conv => whnf); first | (refine nx ?_; intro s) | (refine rg ?_; intro s k))); (conv => whnf)
  refine need (by kernel_rfl) ?_
  (repeat ((conv => whnf); first | (refine nx ?_; intro s) | (refine rg ?_; intro s k))); (conv => whnf)
  refine need (by kernel_rfl) ?_
  (repeat ((conv => whnf); first | (refine nx ?_; intro s) | (refine rg ?_; intro s k))); (conv => whnf)
  refine need ⟨by omega, by simp only [byE] at hl ⊢; omega⟩ ?_
  (repeat ((conv => whnf); first | (refine nx ?_; intro s) | (refine rg ?_; intro s k))); (conv => whnf)
  refine Tri.loop (fun i : Nat => ⟨[(0, .c (.sl .ld xs)), (3, .rw 0), (4, .c (.int .i64 i))], [(0, .row .ld (xs.take i ++ List.replicate (xs.length - i) (dflt .ld)))], 1⟩) (fun i => i ≤ xs.length) (fun i => xs.length - i) 0 (by omega) ?_ ?_
  · refine WkF.ok (l := []) (ρ := []) ⟨rfl, trivial, ⟨rfl, rfl, rfl, trivial⟩, ⟨?_, trivial⟩, ⟨trivial, rfl, trivial, trivial⟩, ⟨trivial, trivial⟩⟩
    show some (Ob.row _ _) = some (Ob.row _ _)
    simp
  · intro i hi
    refine vc_sound hT hM _ _ _ ?_
    (repeat ((conv => whnf); first | (refine nx ?_; intro s) | (refine rg ?_; intro s k))); (conv => whnf)
    refine giv fun _ => ?_
    (repeat ((conv => whnf); first | (refine nx ?_; intro s) | (refine rg ?_; intro s k))); (conv => whnf)
    refine cas (fun h1 => ?_) (fun h1 => ?_)
    · have hlt : i < xs.length := by simp at h1; exact h1
      (repeat ((conv => whnf); first | (refine nx ?_; intro s) | (refine rg ?_; intro s k))); (conv => whnf)
      refine need ⟨by omega, by omega⟩ ?_
      (repeat ((conv => whnf); first | (refine nx ?_; intro s) | (refine rg ?_; intro s k))); (conv => whnf)
      refine giv fun _ => ?_
      (repeat ((conv => whnf); first | (refine nx ?_; intro s) | (refine rg ?_; intro s k))); (conv => whnf)
      refine call_p (r_toLead (xs.getD i (dflt .ld))) rfl (by (repeat' (first | exact trivial | refine ⟨?_, ?_⟩ | exact rfl | exact Or.inr rfl | exact Or.inl (Nat.le_of_ble_eq_true rfl)))) ?_
      (repeat ((conv => whnf); first | (refine nx ?_; intro s) | (refine rg ?_; intro s k))); (conv => whnf)
      refine need ⟨by omega, by simp; omega⟩ ?_
      (repeat ((conv => whnf); first | (refine nx ?_; intro s) | (refine rg ?_; intro s k))); (conv => whnf)
      refine giv fun _ => ?_
      (repeat ((conv => whnf); first | (refine nx ?_; intro s) | (refine rg ?_; intro s k))); (conv => whnf)
      refine need (by simp; omega) ?_
      (repeat ((conv => whnf); first | (refine nx ?_; intro s) | (refine rg ?_; intro s k))); (conv => whnf)
      refine need (by kernel_rfl) ?_
      (repeat ((conv => whnf); first | (refine nx ?_; intro s) | (refine rg ?_; intro s k))); (conv => whnf)
      refine ⟨i + 1, by omega, by omega, WkF.ok (l := []) (ρ := []) ⟨rfl, trivial, ⟨rfl, rfl, ?_, trivial⟩, ⟨?_, trivial⟩, ⟨trivial, rfl, trivial, trivial⟩, ⟨trivial, trivial⟩⟩⟩
      · show C.int _ _ = C.int _ _
        rw [wrap_i64 (by omega) (by simp only [byE] at hl; omega)]
        rfl
      · show some (Ob.row _ _) = some (Ob.row _ _)
        refine congrArg (fun l => some (Ob.row .ld l)) ?_
        show List.set _ i (mkE .ld (spl (cells .ld _) 0 (cells .ld (xs.getD i (dflt .ld))))) = _
        rw [spl_all]
        exact fill_set xs (dflt .ld) hlt
    · (repeat ((conv => whnf); first | (refine nx ?_; intro s) | (refine rg ?_; intro s k))); (conv => whnf)
      refine ⟨_, rfl, [], [], ⟨rfl, trivial, ⟨rfl, trivial⟩, ⟨?_, trivial⟩, ⟨rfl, trivial⟩, ⟨trivial, trivial⟩⟩⟩
      show some (Ob.row _ _) = some (Ob.row _ _)
      have hge : xs.length ≤ i := by simp at h1; exact h1
      exact congrArg (fun l => some (Ob.row .ld l)) (fill_all xs (dflt .ld) hge)
theorem r_toEntryS (xs : List (El .en)) : Ret Tryz.prog 182 [.c (.sl .en xs)] [] (.rw 0) [(0, .row .en xs)] := by
  refine ret_vc hT hM Tryz.func182 rfl rfl (m := 0) (nx := 0) rfl (Nat.le_of_ble_eq_true rfl) ?_
  (repeat ((conv => whnf); first | (refine nx ?_; intro s) | (refine rg ?_; intro s k))); (conv => whnf)
  refine giv fun hl => ?_
  (repeat ((conv => whnf); first | (refine nx ?_; intro s) | (refine rg ?_; intro s k))); (conv => whnf)
  refine need (by kernel_rfl) ?_
  (repeat ((conv => whnf); first | (refine nx ?_; intro s) | (refine rg ?_; intro s k))); (conv => whnf)
  refine need (by kernel_rfl) ?_
  (repeat ((conv => whnf); first | (refine nx ?_; intro s) | (refine rg ?_; intro s k))); (conv => whnf)
  refine need ⟨by omega, by simp only [byE] at hl ⊢; omega⟩ ?_
  (repeat ((conv => whnf); first | (refine nx ?_; intro s) | (refine rg ?_; intro s k))); (conv => whnf)
  refine Tri.loop (fun i : Nat => ⟨[(0, .c (.sl .en xs)), (3, .rw 0), (4, .c (.int .i64 i))], [(0, .row .en (xs.take i ++ List.replicate (xs.length - i) (dflt .en)))], 1⟩) (fun i => i ≤ xs.length) (fun i => xs.length - i) 0 (by omega) ?_ ?_
  · refine WkF.ok (l := []) (ρ := []) ⟨rfl, trivial, ⟨rfl, rfl, rfl, trivial⟩, ⟨?_, trivial⟩, ⟨trivial, rfl, trivial, trivial⟩, ⟨trivial, trivial⟩⟩
    show some (Ob.row _ _) = some (Ob.row _ _)
    simp
  · intro i hi
    refine vc_sound hT hM _ _ _ ?_
    (repeat ((conv => whnf); first | (refine nx ?_; intro s) | (refine rg ?_; intro s k))); (conv => whnf)
    refine giv fun _ => ?_
    (repeat ((conv => whnf); first | (refine nx ?_; intro s) | (refine rg ?_; intro s k))); (conv => whnf)
    refine cas (fun h1 => ?_) (fun h1 => ?_)
    · have hlt : i < xs.length := by simp at h1; exact h1
      (repeat ((conv => whnf); first | (refine nx ?_; intro s) | (refine rg ?_; intro s k))); (conv => whnf)
      refine need ⟨by omega, by omega⟩ ?_
      (repeat ((conv => whnf); first | (refine nx ?_; intro s) | (refine rg ?_; intro s k))); (conv => whnf)
      refine giv fun _ => ?_
      (repeat ((conv => whnf); first | (refine nx ?_; intro s) | (refine rg ?_; intro s k))); (conv => whnf)
      refine call_p (r_toEntry (xs.getD i (dflt .en))) rfl (by (repeat' (first | exact trivial | refine ⟨?_, ?_⟩ | exact rfl | exact Or.inr rfl | exact Or.inl (Nat.le_of_ble_eq_true rfl)))) ?_
      (repeat ((conv => whnf); first | (refine nx ?_; intro s) | (refine rg ?_; intro s k))); (conv => whnf)
      refine need ⟨by omega, by simp; omega⟩ ?_
      (repeat ((conv => whnf); first | (refine nx ?_; intro s) | (refine rg ?_; intro s k))); (conv => whnf)
      refine giv fun _ => ?_
      (repeat ((conv => whnf); first | (refine nx ?_; intro s) | (refine rg ?_; intro s k))); (conv => whnf)
      refine need (by simp; omega) ?_
      (repeat ((conv => whnf); first | (refine nx ?_; intro s) | (refine rg ?_; intro s k))); (conv => whnf)
      refine need (by kernel_rfl) ?_
      (repeat ((conv => whnf); first | (refine nx ?_; intro s) | (refine rg ?_; intro s k))); (conv => whnf)
      refine ⟨i + 1, by omega, by omega, WkF.ok (l := []) (ρ := []) ⟨rfl, trivial, ⟨rfl, rfl, ?_, trivial⟩, ⟨?_, trivial⟩, ⟨trivial, rfl, trivial, trivial⟩, ⟨trivial, trivial⟩⟩⟩
      · show C.int _ _ = C.int _ _
        rw [wrap_i64 (by omega) (by simp only [byE] at hl; omega)]
        rfl
      · show some (Ob.row _ _) = some (Ob.row _ _)
        refine congrArg (fun l => some (Ob.row .en l)) ?_
        show List.set _ i (mkE .en (spl (cells .en _) 0 (cells .en (xs.getD i (dflt .en))))) = _
        rw [spl_all]
        exact fill_set xs (dflt .en) hlt
    · (repeat ((conv => whnf); first | (refine nx ?_; intro s) | (refine rg ?_; intro s k))); (conv => whnf)
      refine ⟨_, rfl, [], [], ⟨rfl, trivial, ⟨rfl, trivial⟩, ⟨?_, trivial⟩, ⟨rfl, trivial⟩, ⟨trivial, trivial⟩⟩⟩
      show some (Ob.row _ _) = some (Ob.row _ _)
      have hge : xs.length ≤ i := by simp at h1; exact h1
      exact congrArg (fun l => some (Ob.row .en l)) (fill_all xs (dflt .en) hge)
theorem r_toBoolS (xs : List (El .bool)) : Ret Tryz.prog 124 [.c (.sl .bool xs)] [] (.rw 0) [(0, .row .bool xs)] := by
  refine ret_vc hT hM Tryz.func124 rfl rfl (m := 0) (nx := 0) rfl (Nat.le_of_ble_eq_true rfl) ?_
  (repeat ((conv => whnf); first | (refine nx ?_; intro s) | (refine rg ?_; intro s k))); (conv => whnf)
  refine giv fun hl => ?_
  (repeat ((conv => whnf); first | (refine nx ?_; intro s) | (refine rg ?_; intro s k))); (conv => whnf)
  refine need (by kernel_rfl) ?_
  (repeat ((conv => whnf); first | (refine nx ?_; intro s) | (refine rg ?_; intro s k))); (conv => whnf)
  refine need (by kernel_rfl) ?_
  (repeat ((conv => whnf); first | (refine nx ?_; intro s) | (refine rg ?_; intro s k))); (conv => whnf)
  refine need ⟨by omega, by simp only [byE] at hl ⊢; omega⟩ ?_
  (repeat ((conv => whnf); first | (refine nx ?_; intro s) | (refine rg ?_; intro s k))); (conv => whnf)
  refine Tri.loop (fun i : Nat => ⟨[(0, .c (.sl .bool xs)), (3, .rw 0), (4, .c (.int .i64 i))], [(0, .row .bool (xs.take i ++ List.replicate (xs.length - i) (dflt .bool)))], 1⟩) (fun i => i ≤ xs.length) (fun i => xs.length - i) 0 (by omega) ?_ ?_
  · refine WkF.ok (l := []) (ρ := []) ⟨rfl, trivial, ⟨rfl, rfl, rfl, trivial⟩, ⟨?_, trivial⟩, ⟨trivial, rfl, trivial, trivial⟩, ⟨trivial, trivial⟩⟩
    show some (Ob.row _ _) = some (Ob.row _ _)
    simp
  · intro i hi
    refine vc_sound hT hM _ _ _ ?_
    (repeat ((conv => whnf); first | (refine nx ?_; intro s) | (refine rg ?_; intro s k))); (conv => whnf)
    refine giv fun _ => ?_
    (repeat ((conv => whnf); first | (refine nx ?_; intro s) | (refine rg ?_; intro s k))); (conv => whnf)
    refine cas (fun h1 => ?_) (fun h1 => ?_)
    · have hlt : i < xs.length := by simp at h1; exact h1
      (repeat ((conv => whnf); first | (refine nx ?_; intro s) | (refine rg ?_; intro s k))); (conv => whnf)
      refine need ⟨by omega, by omega⟩ ?_
      (repeat ((conv => whnf); first | (refine nx ?_; intro s) | (refine rg ?_; intro s k))); (conv => whnf)
      refine giv fun _ => ?_
      (repeat ((conv => whnf); first | (refine nx ?_; intro s) | (refine rg ?_; intro s k))); (conv => whnf)
      refine need ⟨by omega, by simp; omega⟩ ?_
      (repeat ((conv => whnf); first | (refine nx ?_; intro s) | (refine rg ?_; intro s k))); (conv => whnf)
      refine giv fun _ => ?_
      (repeat ((conv => whnf); first | (refine nx ?_; intro s) | (refine rg ?_; intro s k))); (conv => whnf)
      refine need (by simp; omega) ?_
      (repeat ((conv => whnf); first | (refine nx ?_; intro s) | (refine rg ?_; intro s k))); (conv => whnf)
      refine need (by kernel_rfl) ?_
      (repeat ((conv => whnf); first | (refine nx ?_; intro s) | (refine rg ?_; intro s k))); (conv => whnf)
      refine ⟨i + 1, by omega, by omega, WkF.ok (l := []) (ρ := []) ⟨rfl, trivial, ⟨rfl, rfl, ?_, trivial⟩, ⟨?_, trivial⟩, ⟨trivial, rfl, trivial, trivial⟩, ⟨trivial, trivial⟩⟩⟩
      · show C.int _ _ = C.int _ _
        rw [wrap_i64 (by omega) (by simp only [byE] at hl; omega)]
        rfl
      · show some (Ob.row _ _) = some (Ob.row _ _)
        refine congrArg (fun l => some (Ob.row .bool l)) ?_
        show List.set _ i (mkE .bool (spl (cells .bool _) 0 (cells .bool (xs.getD i (dflt .bool))))) = _
        rw [spl_all]
        exact fill_set xs (dflt .bool) hlt
    · (repeat ((conv => whnf); first | (refine nx ?_; intro s) | (refine rg ?_; intro s k))); (conv => whnf)
      refine ⟨_, rfl, [], [], ⟨rfl, trivial, ⟨rfl, trivial⟩, ⟨?_, trivial⟩, ⟨rfl, trivial⟩, ⟨trivial, trivial⟩⟩⟩
      show some (Ob.row _ _) = some (Ob.row _ _)
      have hge : xs.length ≤ i := by simp at h1; exact h1
      exact congrArg (fun l => some (Ob.row .bool l)) (fill_all xs (dflt .bool) hge)
theorem r_toLog (x : Lg) : Ret Tryz.prog 122 [agL (Lg.cells x)] [] (ownC (Lg.cells x)) (ownCH (Lg.cells x)) := by
  refine ret_vc hT hM Tryz.func122 rfl rfl (m := 0) (nx := 0) rfl (Nat.le_of_ble_eq_true rfl) ?_
  (repeat' ((conv => whnf); first | (refine nx ?_; intro s) | (refine rg ?_; intro s k) | ((refine cas (fun h => ?_) (fun h => ?_)) <;> (try simp [-List.getD_eq_getElem?_getD] at h)) | ((refine may (fun h => ?_) ?_) <;> (try simp [-List.getD_eq_getElem?_getD] at h)) | (refine giv fun hg => ?_; (try simp only [byE] at hg)) | (refine need (by kernel_rfl) ?_) | (refine need ⟨by omega, by omega⟩ ?_) | (refine need (by omega) ?_) | (refine need (by first | (simp; done) | (simp; omega)) ?_) | (refine call_n (r_toEntryS x.list) rfl (by (repeat' (first | exact trivial | refine ⟨?_, ?_⟩ | exact rfl | exact Or.inr rfl | exact Or.inl (Nat.le_of_ble_eq_true rfl)))) (by (repeat' (first | exact trivial | refine ⟨?_, ?_⟩ | exact rfl | exact Or.inr rfl | exact Or.inl (Nat.le_of_ble_eq_true rfl)))) ?_) | (refine fin_au rfl ?_; (conv => whnf); ((repeat' (first | exact trivial | refine ⟨?_, ?_⟩ | exact rfl | exact Or.inr rfl | exact Or.inl (Nat.le_of_ble_eq_true rfl))) <;> (try (conv => whnf)) <;> (try (first | refine congrArg C.bool ?_ | refine congrArg (C.int .i64) ?_ | refine congrArg C.str ?_ | refine congrArg (fun l => some (Ob.row _ l)) ?_ | refine congrArg (fun l => some (Ob.dp _ l)) ?_ | refine congrArg (C.sl _) ?_)) <;> (try (rw [wrap_i64 (by omega) (by omega)]; first | rfl | omega)))) | (refine WkF.au ?_; (conv => whnf); ((repeat' (first | exact trivial | refine ⟨?_, ?_⟩ | exact rfl | exact Or.inr rfl | exact Or.inl (Nat.le_of_ble_eq_true rfl))) <;> (try (conv => whnf)) <;> (try (first | refine congrArg C.bool ?_ | refine congrArg (C.int .i64) ?_ | refine congrArg C.str ?_ | refine congrArg (fun l => some (Ob.row _ l)) ?_ | refine congrArg (fun l => some (Ob.dp _ l)) ?_ | refine congrArg (C.sl _) ?_)) <;> (try (rw [wrap_i64 (by omega) (by omega)]; first | rfl | omega)))) | (refine altl ?_) | fail))
theorem r_toMachine (x : Mc) : Ret Tryz.prog 123 [agL (Mc.cells x)] [] (ownC (Mc.cells x)) (ownCH (Mc.cells x)) := by
  refine ret_vc hT hM Tryz.func123 rfl rfl (m := 0) (nx := 0) rfl (Nat.le_of_ble_eq_true rfl) ?_
  (repeat' ((conv => whnf); first | (refine nx ?_; intro s) | (refine rg ?_; intro s k) | ((refine cas (fun h => ?_) (fun h => ?_)) <;> (try simp [-List.getD_eq_getElem?_getD] at h)) | ((refine may (fun h => ?_) ?_) <;> (try simp [-List.getD_eq_getElem?_getD] at h)) | (refine giv fun hg => ?_; (try simp only [byE] at hg)) | (refine need (by kernel_rfl) ?_) | (refine need ⟨by omega, by omega⟩ ?_) | (refine need (by omega) ?_) | (refine need (by first | (simp; done) | (simp; omega)) ?_) | (refine call_n (r_toTree x.t) rfl (by (repeat' (first | exact trivial | refine ⟨?_, ?_⟩ | exact rfl | exact Or.inr rfl | exact Or.inl (Nat.le_of_ble_eq_true rfl)))) (by (repeat' (first | exact trivial | refine ⟨?_, ?_⟩ | exact rfl | exact Or.inr rfl | exact Or.inl (Nat.le_of_ble_eq_true rfl)))) ?_) | (refine call_n (r_toDoneS x.last) rfl (by (repeat' (first | exact trivial | refine ⟨?_, ?_⟩ | exact rfl | exact Or.inr rfl | exact Or.inl (Nat.le_of_ble_eq_true rfl)))) (by (repeat' (first | exact trivial | refine ⟨?_, ?_⟩ | exact rfl | exact Or.inr rfl | exact Or.inl (Nat.le_of_ble_eq_true rfl)))) ?_) | (refine fin_au rfl ?_; (conv => whnf); ((repeat' (first | exact trivial | refine ⟨?_, ?_⟩ | exact rfl | exact Or.inr rfl | exact Or.inl (Nat.le_of_ble_eq_true rfl))) <;> (try (conv => whnf)) <;> (try (first | refine congrArg C.bool ?_ | refine congrArg (C.int .i64) ?_ | refine congrArg C.str ?_ | refine congrArg (fun l => some (Ob.row _ l)) ?_ | refine congrArg (fun l => some (Ob.dp _ l)) ?_ | refine congrArg (C.sl _) ?_)) <;> (try (rw [wrap_i64 (by omega) (by omega)]; first | rfl | omega)))) | (refine WkF.au ?_; (conv => whnf); ((repeat' (first | exact trivial | refine ⟨?_, ?_⟩ | exact rfl | exact Or.inr rfl | exact Or.inl (Nat.le_of_ble_eq_true rfl))) <;> (try (conv => whnf)) <;> (try (first | refine congrArg C.bool ?_ | refine congrArg (C.int .i64) ?_ | refine congrArg C.str ?_ | refine congrArg (fun l => some (Ob.row _ l)) ?_ | refine congrArg (fun l => some (Ob.dp _ l)) ?_ | refine congrArg (C.sl _) ?_)) <;> (try (rw [wrap_i64 (by omega) (by omega)]; first | rfl | omega)))) | (refine altl ?_) | fail))
theorem r_toNode (x : Nd) : Ret Tryz.prog 38 [agL (Nd.cells x)] [] (ownC (Nd.cells x)) (ownCH (Nd.cells x)) := by
  refine ret_vc hT hM Tryz.func38 rfl rfl (m := 0) (nx := 0) rfl (Nat.le_of_ble_eq_true rfl) ?_
  (repeat' ((conv => whnf); first | (refine nx ?_; intro s) | (refine rg ?_; intro s k) | ((refine cas (fun h => ?_) (fun h => ?_)) <;> (try simp [-List.getD_eq_getElem?_getD] at h)) | ((refine may (fun h => ?_) ?_) <;> (try simp [-List.getD_eq_getElem?_getD] at h)) | (refine giv fun hg => ?_; (try simp only [byE] at hg)) | (refine need (by kernel_rfl) ?_) | (refine need ⟨by omega, by omega⟩ ?_) | (refine need (by omega) ?_) | (refine need (by first | (simp; done) | (simp; omega)) ?_) | (refine call_n (r_toLog x.log) rfl (by (repeat' (first | exact trivial | refine ⟨?_, ?_⟩ | exact rfl | exact Or.inr rfl | exact Or.inl (Nat.le_of_ble_eq_true rfl)))) (by (repeat' (first | exact trivial | refine ⟨?_, ?_⟩ | exact rfl | exact Or.inr rfl | exact Or.inl (Nat.le_of_ble_eq_true rfl)))) ?_) | (refine call_n (r_toMachine x.snap) rfl (by (repeat' (first | exact trivial | refine ⟨?_, ?_⟩ | exact rfl | exact Or.inr rfl | exact Or.inl (Nat.le_of_ble_eq_true rfl)))) (by (repeat' (first | exact trivial | refine ⟨?_, ?_⟩ | exact rfl | exact Or.inr rfl | exact Or.inl (Nat.le_of_ble_eq_true rfl)))) ?_) | (refine call_n (r_toBoolS x.votes) rfl (by (repeat' (first | exact trivial | refine ⟨?_, ?_⟩ | exact rfl | exact Or.inr rfl | exact Or.inl (Nat.le_of_ble_eq_true rfl)))) (by (repeat' (first | exact trivial | refine ⟨?_, ?_⟩ | exact rfl | exact Or.inr rfl | exact Or.inl (Nat.le_of_ble_eq_true rfl)))) ?_) | (refine call_n (r_toIntS x.next) rfl (by (repeat' (first | exact trivial | refine ⟨?_, ?_⟩ | exact rfl | exact Or.inr rfl | exact Or.inl (Nat.le_of_ble_eq_true rfl)))) (by (repeat' (first | exact trivial | refine ⟨?_, ?_⟩ | exact rfl | exact Or.inr rfl | exact Or.inl (Nat.le_of_ble_eq_true rfl)))) ?_) | (refine call_n (r_toIntS x.mtch) rfl (by (repeat' (first | exact trivial | refine ⟨?_, ?_⟩ | exact rfl | exact Or.inr rfl | exact Or.inl (Nat.le_of_ble_eq_true rfl)))) (by (repeat' (first | exact trivial | refine ⟨?_, ?_⟩ | exact rfl | exact Or.inr rfl | exact Or.inl (Nat.le_of_ble_eq_true rfl)))) ?_) | (refine call_n (r_toMachine x.now) rfl (by (repeat' (first | exact trivial | refine ⟨?_, ?_⟩ | exact rfl | exact Or.inr rfl | exact Or.inl (Nat.le_of_ble_eq_true rfl)))) (by (repeat' (first | exact trivial | refine ⟨?_, ?_⟩ | exact rfl | exact Or.inr rfl | exact Or.inl (Nat.le_of_ble_eq_true rfl)))) ?_) | (refine fin_au rfl ?_; (conv => whnf); ((repeat' (first | exact trivial | refine ⟨?_, ?_⟩ | exact rfl | exact Or.inr rfl | exact Or.inl (Nat.le_of_ble_eq_true rfl))) <;> (try (conv => whnf)) <;> (try (first | refine congrArg C.bool ?_ | refine congrArg (C.int .i64) ?_ | refine congrArg C.str ?_ | refine congrArg (fun l => some (Ob.row _ l)) ?_ | refine congrArg (fun l => some (Ob.dp _ l)) ?_ | refine congrArg (C.sl _) ?_)) <;> (try (rw [wrap_i64 (by omega) (by omega)]; first | rfl | omega)))) | (refine WkF.au ?_; (conv => whnf); ((repeat' (first | exact trivial | refine ⟨?_, ?_⟩ | exact rfl | exact Or.inr rfl | exact Or.inl (Nat.le_of_ble_eq_true rfl))) <;> (try (conv => whnf)) <;> (try (first | refine congrArg C.bool ?_ | refine congrArg (C.int .i64) ?_ | refine congrArg C.str ?_ | refine congrArg (fun l => some (Ob.row _ l)) ?_ | refine congrArg (fun l => some (Ob.dp _ l)) ?_ | refine congrArg (C.sl _) ?_)) <;> (try (rw [wrap_i64 (by omega) (by omega)]; first | rfl | omega)))) | (refine altl ?_) | fail))
theorem r_toRpc (x : Rp) : Ret Tryz.prog 99 [agL (Rp.cells x)] [] (ownC (Rp.cells x)) (ownCH (Rp.cells x)) := by
  refine ret_vc hT hM Tryz.func99 rfl rfl (m := 0) (nx := 0) rfl (Nat.le_of_ble_eq_true rfl) ?_
  (repeat' ((conv => whnf); first | (refine nx ?_; intro s) | (refine rg ?_; intro s k) | ((refine cas (fun h => ?_) (fun h => ?_)) <;> (try simp [-List.getD_eq_getElem?_getD] at h)) | ((refine may (fun h => ?_) ?_) <;> (try simp [-List.getD_eq_getElem?_getD] at h)) | (refine giv fun hg => ?_; (try simp only [byE] at hg)) | (refine need (by kernel_rfl) ?_) | (refine need ⟨by omega, by omega⟩ ?_) | (refine need (by omega) ?_) | (refine need (by first | (simp; done) | (simp; omega)) ?_) | (refine call_n (r_toEntryS x.entries) rfl (by (repeat' (first | exact trivial | refine ⟨?_, ?_⟩ | exact rfl | exact Or.inr rfl | exact Or.inl (Nat.le_of_ble_eq_true rfl)))) (by (repeat' (first | exact trivial | refine ⟨?_, ?_⟩ | exact rfl | exact Or.inr rfl | exact Or.inl (Nat.le_of_ble_eq_true rfl)))) ?_) | (refine call_n (r_toMachine x.snap) rfl (by (repeat' (first | exact trivial | refine ⟨?_, ?_⟩ | exact rfl | exact Or.inr rfl | exact Or.inl (Nat.le_of_ble_eq_true rfl)))) (by (repeat' (first | exact trivial | refine ⟨?_, ?_⟩ | exact rfl | exact Or.inr rfl | exact Or.inl (Nat.le_of_ble_eq_true rfl)))) ?_) | (refine fin_au rfl ?_; (conv => whnf); ((repeat' (first | exact trivial | refine ⟨?_, ?_⟩ | exact rfl | exact Or.inr rfl | exact Or.inl (Nat.le_of_ble_eq_true rfl))) <;> (try (conv => whnf)) <;> (try (first | refine congrArg C.bool ?_ | refine congrArg (C.int .i64) ?_ | refine congrArg C.str ?_ | refine congrArg (fun l => some (Ob.row _ l)) ?_ | refine congrArg (fun l => some (Ob.dp _ l)) ?_ | refine congrArg (C.sl _) ?_)) <;> (try (rw [wrap_i64 (by omega) (by omega)]; first | rfl | omega)))) | (refine WkF.au ?_; (conv => whnf); ((repeat' (first | exact trivial | refine ⟨?_, ?_⟩ | exact rfl | exact Or.inr rfl | exact Or.inl (Nat.le_of_ble_eq_true rfl))) <;> (try (conv => whnf)) <;> (try (first | refine congrArg C.bool ?_ | refine congrArg (C.int .i64) ?_ | refine congrArg C.str ?_ | refine congrArg (fun l => some (Ob.row _ l)) ?_ | refine congrArg (fun l => some (Ob.dp _ l)) ?_ | refine congrArg (C.sl _) ?_)) <;> (try (rw [wrap_i64 (by omega) (by omega)]; first | rfl | omega)))) | (refine altl ?_) | fail))
theorem r_toNodeS (xs : List (El .nd)) : Ret Tryz.prog 95 [.c (.sl .nd xs)] [] (.rw 0) [(0, .dp .nd xs)] := by
  refine ret_vc hT hM Tryz.func95 rfl rfl (m := 0) (nx := 0) rfl (Nat.le_of_ble_eq_true rfl) ?_
  (repeat ((conv => whnf); first | (refine nx ?_; intro s) | (refine rg ?_; intro s k))); (conv => whnf)
  refine giv fun hl => ?_
  (repeat ((conv => whnf); first | (refine nx ?_; intro s) | (refine rg ?_; intro s k))); (conv => whnf)
  refine need (by kernel_rfl) ?_
  (repeat ((conv => whnf); first | (refine nx ?_; intro s) | (refine rg ?_; intro s k))); (conv => whnf)
  refine need (by kernel_rfl) ?_
  (repeat ((conv => whnf); first | (refine nx ?_; intro s) | (refine rg ?_; intro s k))); (conv => whnf)
  refine need ⟨by omega, by simp only [byE] at hl ⊢; omega⟩ ?_
  (repeat ((conv => whnf); first | (refine nx ?_; intro s) | (refine rg ?_; intro s k))); (conv => whnf)
  refine Tri.loop (fun i : Nat => ⟨[(0, .c (.sl .nd xs)), (3, .rw 0), (4, .c (.int .i64 i))], [(0, .dp .nd (xs.take i ++ List.replicate (xs.length - i) (dflt .nd)))], 1⟩) (fun i => i ≤ xs.length) (fun i => xs.length - i) 0 (by omega) ?_ ?_
  · refine WkF.ok (l := []) (ρ := []) ⟨rfl, trivial, ⟨rfl, rfl, rfl, trivial⟩, ⟨?_, trivial⟩, ⟨trivial, rfl, trivial, trivial⟩, ⟨trivial, trivial⟩⟩
    show some (Ob.dp _ _) = some (Ob.dp _ _)
    simp
  · intro i hi
    refine vc_sound hT hM _ _ _ ?_
    (repeat ((conv => whnf); first | (refine nx ?_; intro s) | (refine rg ?_; intro s k))); (conv => whnf)
    refine giv fun _ => ?_
    (repeat ((conv => whnf); first | (refine nx ?_; intro s) | (refine rg ?_; intro s k))); (conv => whnf)
    refine cas (fun h1 => ?_) (fun h1 => ?_)
    · have hlt : i < xs.length := by simp at h1; exact h1
      (repeat ((conv => whnf); first | (refine nx ?_; intro s) | (refine rg ?_; intro s k))); (conv => whnf)
      refine need ⟨by omega, by omega⟩ ?_
      (repeat ((conv => whnf); first | (refine nx ?_; intro s) | (refine rg ?_; intro s k))); (conv => whnf)
      refine giv fun _ => ?_
      (repeat ((conv => whnf); first | (refine nx ?_; intro s) | (refine rg ?_; intro s k))); (conv => whnf)
      refine call_n (r_toNode (xs.getD i (dflt .nd))) rfl (by (repeat' (first | exact trivial | refine ⟨?_, ?_⟩ | exact rfl | exact Or.inr rfl | exact Or.inl (Nat.le_of_ble_eq_true rfl)))) (by (repeat' (first | exact trivial | refine ⟨?_, ?_⟩ | exact rfl | exact Or.inr rfl | exact Or.inl (Nat.le_of_ble_eq_true rfl)))) ?_
      (repeat ((conv => whnf); first | (refine nx ?_; intro s) | (refine rg ?_; intro s k))); (conv => whnf)
      refine need ⟨by omega, by simp; omega⟩ ?_
      (repeat ((conv => whnf); first | (refine nx ?_; intro s) | (refine rg ?_; intro s k))); (conv => whnf)
      refine giv fun _ => ?_
      (repeat ((conv => whnf); first | (refine nx ?_; intro s) | (refine rg ?_; intro s k))); (conv => whnf)
      refine need (by simp; omega) ?_
      (repeat ((conv => whnf); first | (refine nx ?_; intro s) | (refine rg ?_; intro s k))); (conv => whnf)
      refine need (by kernel_rfl) ?_
      (repeat ((conv => whnf); first | (refine nx ?_; intro s) | (refine rg ?_; intro s k))); (conv => whnf)
      refine ⟨i + 1, by omega, by omega, WkF.ok (l := []) (ρ := []) ⟨rfl, trivial, ⟨rfl, rfl, ?_, trivial⟩, ⟨?_, trivial⟩, ⟨trivial, rfl, trivial, trivial⟩, ⟨trivial, trivial⟩⟩⟩
      · show C.int _ _ = C.int _ _
        rw [wrap_i64 (by omega) (by simp only [byE] at hl; omega)]
        rfl
      · show some (Ob.dp _ _) = some (Ob.dp _ _)
        refine congrArg (fun l => some (Ob.dp .nd l)) ?_
        show List.set _ i (mkE .nd (spl (cells .nd _) 0 (cells .nd (xs.getD i (dflt .nd))))) = _
        rw [spl_all]
        exact fill_set xs (dflt .nd) hlt
    · (repeat ((conv => whnf); first | (refine nx ?_; intro s) | (refine rg ?_; intro s k))); (conv => whnf)
      refine ⟨_, rfl, [], [], ⟨rfl, trivial, ⟨rfl, trivial⟩, ⟨?_, trivial⟩, ⟨rfl, trivial⟩, ⟨trivial, trivial⟩⟩⟩
      show some (Ob.dp _ _) = some (Ob.dp _ _)
      have hge : xs.length ≤ i := by simp at h1; exact h1
      exact congrArg (fun l => some (Ob.dp .nd l)) (fill_all xs (dflt .nd) hge)
theorem r_toRpcS (xs : List (El .rp)) : Ret Tryz.prog 29 [.c (.sl .rp xs)] [] (.rw 0) [(0, .dp .rp xs)] := by
  refine ret_vc hT hM Tryz.func29 rfl rfl (m := 0) (nx := 0) rfl (Nat.le_of_ble_eq_true rfl) ?_
  (repeat ((conv => whnf); first | (refine nx ?_; intro s) | (refine rg ?_; intro s k))); (conv => whnf)
  refine giv fun hl => ?_
  (repeat ((conv => whnf); first | (refine nx ?_; intro s) | (refine rg ?_; intro s k))); (conv => whnf)
  refine need (by kernel_rfl) ?_
  (repeat ((conv => whnf); first | (refine nx ?_; intro s) | (refine rg ?_; intro s k))); (conv => whnf)
  refine need (by kernel_rfl) ?_
  (repeat ((conv => whnf); first | (refine nx ?_; intro s) | (refine rg ?_; intro s k))); (conv => whnf)
  refine need ⟨by omega, by simp only [byE] at hl ⊢; omega⟩ ?_
  (repeat ((conv => whnf); first | (refine nx ?_; intro s) | (refine rg ?_; intro s k))); (conv => whnf)
  refine Tri.loop (fun i : Nat => ⟨[(0, .c (.sl .rp xs)), (3, .rw 0), (4, .c (.int .i64 i))], [(0, .dp .rp (xs.take i ++ List.replicate (xs.length - i) (dflt .rp)))], 1⟩) (fun i => i ≤ xs.length) (fun i => xs.length - i) 0 (by omega) ?_ ?_
  · refine WkF.ok (l := []) (ρ := []) ⟨rfl, trivial, ⟨rfl, rfl, rfl, trivial⟩, ⟨?_, trivial⟩, ⟨trivial, rfl, trivial, trivial⟩, ⟨trivial, trivial⟩⟩
    show some (Ob.dp _ _) = some (Ob.dp _ _)
    simp
  · intro i hi
    refine vc_sound hT hM _ _ _ ?_
    (repeat ((conv => whnf); first | (refine nx ?_; intro s) | (refine rg ?_; intro s k))); (conv => whnf)
    refine giv fun _ => ?_
    (repeat ((conv => whnf); first | (refine nx ?_; intro s) | (refine rg ?_; intro s k))); (conv => whnf)
    refine cas (fun h1 => ?_) (fun h1 => ?_)
    · have hlt : i < xs.length := by simp at h1; exact h1
      (repeat ((conv => whnf); first | (refine nx ?_; intro s) | (refine rg ?_; intro s k))); (conv => whnf)
      refine need ⟨by omega, by omega⟩ ?_
      (repeat ((conv => whnf); first | (refine nx ?_; intro s) | (refine rg ?_; intro s k))); (conv => whnf)
      refine giv fun _ => ?_
      (repeat ((conv => whnf); first | (refine nx ?_; intro s) | (refine rg ?_; intro s k))); (conv => whnf)
      refine call_n (r_toRpc (xs.getD i (dflt .rp))) rfl (by (repeat' (first | exact trivial | refine ⟨?_, ?_⟩ | exact rfl | exact Or.inr rfl | exact Or.inl (Nat.le_of_ble_eq_true rfl)))) (by (repeat' (first | exact trivial | refine ⟨?_, ?_⟩ | exact rfl | exact Or.inr rfl | exact Or.inl (Nat.le_of_ble_eq_true rfl)))) ?_
      (repeat ((conv => whnf); first | (refine nx ?_; intro s) | (refine rg ?_; intro s k))); (conv => whnf)
      refine need ⟨by omega, by simp; omega⟩ ?_
      (repeat ((conv => whnf); first | (refine nx ?_; intro s) | (refine rg ?_; intro s k))); (conv => whnf)
      refine giv fun _ => ?_
      (repeat ((conv => whnf); first | (refine nx ?_; intro s) | (refine rg ?_; intro s k))); (conv => whnf)
      refine need (by simp; omega) ?_
      (repeat ((conv => whnf); first | (refine nx ?_; intro s) | (refine rg ?_; intro s k))); (conv => whnf)
      refine need (by kernel_rfl) ?_
      (repeat ((conv => whnf); first | (refine nx ?_; intro s) | (refine rg ?_; intro s k))); (conv => whnf)
      refine ⟨i + 1, by omega, by omega, WkF.ok (l := []) (ρ := []) ⟨rfl, trivial, ⟨rfl, rfl, ?_, trivial⟩, ⟨?_, trivial⟩, ⟨trivial, rfl, trivial, trivial⟩, ⟨trivial, trivial⟩⟩⟩
      · show C.int _ _ = C.int _ _
        rw [wrap_i64 (by omega) (by simp only [byE] at hl; omega)]
        rfl
      · show some (Ob.dp _ _) = some (Ob.dp _ _)
        refine congrArg (fun l => some (Ob.dp .rp l)) ?_
        show List.set _ i (mkE .rp (spl (cells .rp _) 0 (cells .rp (xs.getD i (dflt .rp))))) = _
        rw [spl_all]
        exact fill_set xs (dflt .rp) hlt
    · (repeat ((conv => whnf); first | (refine nx ?_; intro s) | (refine rg ?_; intro s k))); (conv => whnf)
      refine ⟨_, rfl, [], [], ⟨rfl, trivial, ⟨rfl, trivial⟩, ⟨?_, trivial⟩, ⟨rfl, trivial⟩, ⟨trivial, trivial⟩⟩⟩
      show some (Ob.dp _ _) = some (Ob.dp _ _)
      have hge : xs.length ≤ i := by simp at h1; exact h1
      exact congrArg (fun l => some (Ob.dp .rp l)) (fill_all xs (dflt .rp) hge)
theorem r_toWorld (x : Wd) : Ret Tryz.prog 28 [agL (Wd.cells x)] [] (ownC (Wd.cells x)) (ownCH (Wd.cells x)) := by
  refine ret_vc hT hM Tryz.func28 rfl rfl (m := 0) (nx := 0) rfl (Nat.le_of_ble_eq_true rfl) ?_
  (repeat' ((conv => whnf); first | (refine nx ?_; intro s) | (refine rg ?_; intro s k) | ((refine cas (fun h => ?_) (fun h => ?_)) <;> (try simp [-List.getD_eq_getElem?_getD] at h)) | ((refine may (fun h => ?_) ?_) <;> (try simp [-List.getD_eq_getElem?_getD] at h)) | (refine giv fun hg => ?_; (try simp only [byE] at hg)) | (refine need (by kernel_rfl) ?_) | (refine need ⟨by omega, by omega⟩ ?_) | (refine need (by omega) ?_) | (refine need (by first | (simp; done) | (simp; omega)) ?_) | (refine call_n (r_toNodeS x.nodes) rfl (by (repeat' (first | exact trivial | refine ⟨?_, ?_⟩ | exact rfl | exact Or.inr rfl | exact Or.inl (Nat.le_of_ble_eq_true rfl)))) (by (repeat' (first | exact trivial | refine ⟨?_, ?_⟩ | exact rfl | exact Or.inr rfl | exact Or.inl (Nat.le_of_ble_eq_true rfl)))) ?_) | (refine call_n (r_toRpcS x.net) rfl (by (repeat' (first | exact trivial | refine ⟨?_, ?_⟩ | exact rfl | exact Or.inr rfl | exact Or.inl (Nat.le_of_ble_eq_true rfl)))) (by (repeat' (first | exact trivial | refine ⟨?_, ?_⟩ | exact rfl | exact Or.inr rfl | exact Or.inl (Nat.le_of_ble_eq_true rfl)))) ?_) | (refine call_n (r_toCmdS x.chosen) rfl (by (repeat' (first | exact trivial | refine ⟨?_, ?_⟩ | exact rfl | exact Or.inr rfl | exact Or.inl (Nat.le_of_ble_eq_true rfl)))) (by (repeat' (first | exact trivial | refine ⟨?_, ?_⟩ | exact rfl | exact Or.inr rfl | exact Or.inl (Nat.le_of_ble_eq_true rfl)))) ?_) | (refine call_n (r_toDoneS x.acks) rfl (by (repeat' (first | exact trivial | refine ⟨?_, ?_⟩ | exact rfl | exact Or.inr rfl | exact Or.inl (Nat.le_of_ble_eq_true rfl)))) (by (repeat' (first | exact trivial | refine ⟨?_, ?_⟩ | exact rfl | exact Or.inr rfl | exact Or.inl (Nat.le_of_ble_eq_true rfl)))) ?_) | (refine call_n (r_toLeadS x.led) rfl (by (repeat' (first | exact trivial | refine ⟨?_, ?_⟩ | exact rfl | exact Or.inr rfl | exact Or.inl (Nat.le_of_ble_eq_true rfl)))) (by (repeat' (first | exact trivial | refine ⟨?_, ?_⟩ | exact rfl | exact Or.inr rfl | exact Or.inl (Nat.le_of_ble_eq_true rfl)))) ?_) | (refine fin_au rfl ?_; (conv => whnf); ((repeat' (first | exact trivial | refine ⟨?_, ?_⟩ | exact rfl | exact Or.inr rfl | exact Or.inl (Nat.le_of_ble_eq_true rfl))) <;> (try (conv => whnf)) <;> (try (first | refine congrArg C.bool ?_ | refine congrArg (C.int .i64) ?_ | refine congrArg C.str ?_ | refine congrArg (fun l => some (Ob.row _ l)) ?_ | refine congrArg (fun l => some (Ob.dp _ l)) ?_ | refine congrArg (C.sl _) ?_)) <;> (try (rw [wrap_i64 (by omega) (by omega)]; first | rfl | omega)))) | (refine WkF.au ?_; (conv => whnf); ((repeat' (first | exact trivial | refine ⟨?_, ?_⟩ | exact rfl | exact Or.inr rfl | exact Or.inl (Nat.le_of_ble_eq_true rfl))) <;> (try (conv => whnf)) <;> (try (first | refine congrArg C.bool ?_ | refine congrArg (C.int .i64) ?_ | refine congrArg C.str ?_ | refine congrArg (fun l => some (Ob.row _ l)) ?_ | refine congrArg (fun l => some (Ob.dp _ l)) ?_ | refine congrArg (C.sl _) ?_)) <;> (try (rw [wrap_i64 (by omega) (by omega)]; first | rfl | omega)))) | (refine altl ?_) | fail))
end Go.Proofs.YthbpdhppelaihaaGreat
