/- Comparisons of what worlds are made of. Conditions: none. By program (gen3.py). -/
import Derived.Test.YthbpdhppelaihaaGreatW2
set_option linter.unusedVariables false
set_option linter.unusedSimpArgs false
namespace Go.Proofs.YthbpdhppelaihaaGreat
open Go.RowKit
attribute [local irreducible] Tri Weak
set_option maxRecDepth 4000
set_option maxHeartbeats 4000000
theorem eqB_t {α : Type} {x y : α} : eqB x y = true ↔ x = y := ⟨fun h => Classical.byContradiction fun hn => (by rw [eqB_no hn] at h; cases h), eqB_yes⟩
theorem eqB_f {α : Type} {x y : α} : eqB x y = false ↔ ¬ x = y := ⟨fun h e => (by rw [eqB_yes e] at h; cases h), fun h => eqB_no h⟩
theorem r_eqCmd (x y : Cm) : Ret Tryz.prog 188 [agL (Cm.cells x), agL (Cm.cells y)] [] (.c (.bool (eqB x y))) [] := by
  refine ret_vc hT hM Tryz.func188 rfl rfl (m := 0) (nx := 0) rfl (Nat.le_of_ble_eq_true rfl) ?_
  (repeat' ((conv => whnf); first | (refine nx ?_; intro s) | (refine rg ?_; intro s k) | ((refine cas (fun h => ?_) (fun h => ?_)) <;> (try simp [-List.getD_eq_getElem?_getD, eqB_t, eqB_f] at h)) | ((refine may (fun h => ?_) ?_) <;> (try simp [-List.getD_eq_getElem?_getD, eqB_t, eqB_f] at h)) | (refine giv fun hg => ?_; (try simp only [byE] at hg)) | (refine need (by kernel_rfl) ?_) | (refine need ⟨by omega, by omega⟩ ?_) | (refine need (by omega) ?_) | (refine need (by first | (simp; done) | (simp; omega)) ?_) | (refine call_p (r_eqMsg x.m y.m) rfl (by (repeat' (first | exact trivial | refine ⟨?_, ?_⟩ | exact rfl | exact Or.inr rfl | exact Or.inl (Nat.le_of_ble_eq_true rfl)))) ?_) | (refine fin_au rfl ?_; (conv => whnf); ((repeat' (first | exact trivial | refine ⟨?_, ?_⟩ | exact rfl | exact Or.inr rfl | exact Or.inl (Nat.le_of_ble_eq_true rfl))) <;> (try (conv => whnf)) <;> (try (first | refine congrArg C.bool ?_ | refine congrArg (C.int .i64) ?_ | refine congrArg C.str ?_ | refine congrArg (fun l => some (Ob.row _ l)) ?_ | refine congrArg (fun l => some (Ob.dp _ l)) ?_ | refine congrArg (C.sl _) ?_)) <;> (try (rw [wrap_i64 (by omega) (by omega)]; first | rfl | omega)))) | (refine WkF.au ?_; (conv => whnf); ((repeat' (first | exact trivial | refine ⟨?_, ?_⟩ | exact rfl | exact Or.inr rfl | exact Or.inl (Nat.le_of_ble_eq_true rfl))) <;> (try (conv => whnf)) <;> (try (first | refine congrArg C.bool ?_ | refine congrArg (C.int .i64) ?_ | refine congrArg C.str ?_ | refine congrArg (fun l => some (Ob.row _ l)) ?_ | refine congrArg (fun l => some (Ob.dp _ l)) ?_ | refine congrArg (C.sl _) ?_)) <;> (try (rw [wrap_i64 (by omega) (by omega)]; first | rfl | omega)))) | (refine altl ?_) | fail))
  all_goals first
    | exact (eqB_no (by rintro rfl; simp_all)).symm
    | exact (eqB_yes (by cases x; cases y; simp_all)).symm
theorem r_eqDone (x y : Dn) : Ret Tryz.prog 189 [agL (cells .dn x), agL (cells .dn y)] [] (.c (.bool (eqB x y))) [] := by
  refine ret_vc hT hM Tryz.func189 rfl rfl (m := 0) (nx := 0) rfl (Nat.le_of_ble_eq_true rfl) ?_
  (repeat' ((conv => whnf); first | (refine nx ?_; intro s) | (refine rg ?_; intro s k) | ((refine cas (fun h => ?_) (fun h => ?_)) <;> (try simp [-List.getD_eq_getElem?_getD, eqB_t, eqB_f] at h)) | ((refine may (fun h => ?_) ?_) <;> (try simp [-List.getD_eq_getElem?_getD, eqB_t, eqB_f] at h)) | (refine giv fun hg => ?_; (try simp only [byE] at hg)) | (refine need (by kernel_rfl) ?_) | (refine need ⟨by omega, by omega⟩ ?_) | (refine need (by omega) ?_) | (refine need (by first | (simp; done) | (simp; omega)) ?_) | (refine fin_au rfl ?_; (conv => whnf); ((repeat' (first | exact trivial | refine ⟨?_, ?_⟩ | exact rfl | exact Or.inr rfl | exact Or.inl (Nat.le_of_ble_eq_true rfl))) <;> (try (conv => whnf)) <;> (try (first | refine congrArg C.bool ?_ | refine congrArg (C.int .i64) ?_ | refine congrArg C.str ?_ | refine congrArg (fun l => some (Ob.row _ l)) ?_ | refine congrArg (fun l => some (Ob.dp _ l)) ?_ | refine congrArg (C.sl _) ?_)) <;> (try (rw [wrap_i64 (by omega) (by omega)]; first | rfl | omega)))) | (refine WkF.au ?_; (conv => whnf); ((repeat' (first | exact trivial | refine ⟨?_, ?_⟩ | exact rfl | exact Or.inr rfl | exact Or.inl (Nat.le_of_ble_eq_true rfl))) <;> (try (conv => whnf)) <;> (try (first | refine congrArg C.bool ?_ | refine congrArg (C.int .i64) ?_ | refine congrArg C.str ?_ | refine congrArg (fun l => some (Ob.row _ l)) ?_ | refine congrArg (fun l => some (Ob.dp _ l)) ?_ | refine congrArg (C.sl _) ?_)) <;> (try (rw [wrap_i64 (by omega) (by omega)]; first | rfl | omega)))) | (refine altl ?_) | fail))
  all_goals first
    | exact (eqB_no (by rintro rfl; simp_all)).symm
    | exact (eqB_yes (by cases x; cases y; simp_all)).symm
theorem r_eqLead (x y : Ld) : Ret Tryz.prog 190 [agL (cells .ld x), agL (cells .ld y)] [] (.c (.bool (eqB x y))) [] := by
  refine ret_vc hT hM Tryz.func190 rfl rfl (m := 0) (nx := 0) rfl (Nat.le_of_ble_eq_true rfl) ?_
  (repeat' ((conv => whnf); first | (refine nx ?_; intro s) | (refine rg ?_; intro s k) | ((refine cas (fun h => ?_) (fun h => ?_)) <;> (try simp [-List.getD_eq_getElem?_getD, eqB_t, eqB_f] at h)) | ((refine may (fun h => ?_) ?_) <;> (try simp [-List.getD_eq_getElem?_getD, eqB_t, eqB_f] at h)) | (refine giv fun hg => ?_; (try simp only [byE] at hg)) | (refine need (by kernel_rfl) ?_) | (refine need ⟨by omega, by omega⟩ ?_) | (refine need (by omega) ?_) | (refine need (by first | (simp; done) | (simp; omega)) ?_) | (refine fin_au rfl ?_; (conv => whnf); ((repeat' (first | exact trivial | refine ⟨?_, ?_⟩ | exact rfl | exact Or.inr rfl | exact Or.inl (Nat.le_of_ble_eq_true rfl))) <;> (try (conv => whnf)) <;> (try (first | refine congrArg C.bool ?_ | refine congrArg (C.int .i64) ?_ | refine congrArg C.str ?_ | refine congrArg (fun l => some (Ob.row _ l)) ?_ | refine congrArg (fun l => some (Ob.dp _ l)) ?_ | refine congrArg (C.sl _) ?_)) <;> (try (rw [wrap_i64 (by omega) (by omega)]; first | rfl | omega)))) | (refine WkF.au ?_; (conv => whnf); ((repeat' (first | exact trivial | refine ⟨?_, ?_⟩ | exact rfl | exact Or.inr rfl | exact Or.inl (Nat.le_of_ble_eq_true rfl))) <;> (try (conv => whnf)) <;> (try (first | refine congrArg C.bool ?_ | refine congrArg (C.int .i64) ?_ | refine congrArg C.str ?_ | refine congrArg (fun l => some (Ob.row _ l)) ?_ | refine congrArg (fun l => some (Ob.dp _ l)) ?_ | refine congrArg (C.sl _) ?_)) <;> (try (rw [wrap_i64 (by omega) (by omega)]; first | rfl | omega)))) | (refine altl ?_) | fail))
  all_goals first
    | exact (eqB_no (by rintro rfl; simp_all)).symm
    | exact (eqB_yes (by cases x; cases y; simp_all)).symm
theorem r_eqEntry (x y : En) : Ret Tryz.prog 235 [agL (En.cells x), agL (En.cells y)] [] (.c (.bool (eqB x y))) [] := by
  refine ret_vc hT hM Tryz.func235 rfl rfl (m := 0) (nx := 0) rfl (Nat.le_of_ble_eq_true rfl) ?_
  (repeat' ((conv => whnf); first | (refine nx ?_; intro s) | (refine rg ?_; intro s k) | ((refine cas (fun h => ?_) (fun h => ?_)) <;> (try simp [-List.getD_eq_getElem?_getD, eqB_t, eqB_f] at h)) | ((refine may (fun h => ?_) ?_) <;> (try simp [-List.getD_eq_getElem?_getD, eqB_t, eqB_f] at h)) | (refine giv fun hg => ?_; (try simp only [byE] at hg)) | (refine need (by kernel_rfl) ?_) | (refine need ⟨by omega, by omega⟩ ?_) | (refine need (by omega) ?_) | (refine need (by first | (simp; done) | (simp; omega)) ?_) | (refine call_p (r_eqCmd x.c y.c) rfl (by (repeat' (first | exact trivial | refine ⟨?_, ?_⟩ | exact rfl | exact Or.inr rfl | exact Or.inl (Nat.le_of_ble_eq_true rfl)))) ?_) | (refine fin_au rfl ?_; (conv => whnf); ((repeat' (first | exact trivial | refine ⟨?_, ?_⟩ | exact rfl | exact Or.inr rfl | exact Or.inl (Nat.le_of_ble_eq_true rfl))) <;> (try (conv => whnf)) <;> (try (first | refine congrArg C.bool ?_ | refine congrArg (C.int .i64) ?_ | refine congrArg C.str ?_ | refine congrArg (fun l => some (Ob.row _ l)) ?_ | refine congrArg (fun l => some (Ob.dp _ l)) ?_ | refine congrArg (C.sl _) ?_)) <;> (try (rw [wrap_i64 (by omega) (by omega)]; first | rfl | omega)))) | (refine WkF.au ?_; (conv => whnf); ((repeat' (first | exact trivial | refine ⟨?_, ?_⟩ | exact rfl | exact Or.inr rfl | exact Or.inl (Nat.le_of_ble_eq_true rfl))) <;> (try (conv => whnf)) <;> (try (first | refine congrArg C.bool ?_ | refine congrArg (C.int .i64) ?_ | refine congrArg C.str ?_ | refine congrArg (fun l => some (Ob.row _ l)) ?_ | refine congrArg (fun l => some (Ob.dp _ l)) ?_ | refine congrArg (C.sl _) ?_)) <;> (try (rw [wrap_i64 (by omega) (by omega)]; first | rfl | omega)))) | (refine altl ?_) | fail))
  all_goals first
    | exact (eqB_no (by rintro rfl; simp_all)).symm
    | exact (eqB_yes (by cases x; cases y; simp_all)).symm
theorem r_eqCmdS (xs ys : List (El .cm)) : Ret Tryz.prog 103 [.c (.sl .cm xs), .c (.sl .cm ys)] [] (.c (.bool (eqB xs ys))) [] := by
  refine ret_vc hT hM Tryz.func103 rfl rfl (m := 0) (nx := 0) rfl (Nat.le_of_ble_eq_true rfl) ?_
  (repeat ((conv => whnf); first | (refine nx ?_; intro s) | (refine rg ?_; intro s k))); (conv => whnf)
  refine giv fun hl => ?_
  (repeat ((conv => whnf); first | (refine nx ?_; intro s) | (refine rg ?_; intro s k))); (conv => whnf)
  refine giv fun hl' => ?_
  (repeat ((conv => whnf); first | (refine nx ?_; intro s) | (refine rg ?_; intro s k))); (conv => whnf)
  refine cas (fun h1 => ?_) (fun h1 => ?_)
  · refine ⟨_, rfl, [], [], rfl, trivial, ⟨?_, trivial⟩, trivial, ⟨trivial, trivial⟩, trivial⟩
    show C.bool _ = C.bool _
    have hne : xs ≠ ys := by rintro rfl; simp at h1
    rw [eqB_no hne]
  · have hlen : xs.length = ys.length := by simp at h1; omega
    (repeat ((conv => whnf); first | (refine nx ?_; intro s) | (refine rg ?_; intro s k))); (conv => whnf)
    refine Tri.loop (fun i : Nat => ⟨[(0, .c (.sl .cm xs)), (1, .c (.sl .cm ys)), (5, .c (.int .i64 i))], [], 0⟩) (fun i => i ≤ xs.length ∧ xs.take i = ys.take i) (fun i => xs.length - i) 0 ⟨by omega, by simp⟩ ?_ ?_
    · exact WkF.ok (l := []) (ρ := []) ⟨rfl, trivial, ⟨rfl, rfl, rfl, trivial⟩, trivial, ⟨trivial, trivial, trivial, trivial⟩, trivial⟩
    · intro i ⟨hi, hpre⟩
      refine vc_sound hT hM _ _ _ ?_
      (repeat ((conv => whnf); first | (refine nx ?_; intro s) | (refine rg ?_; intro s k))); (conv => whnf)
      refine giv fun _ => ?_
      (repeat ((conv => whnf); first | (refine nx ?_; intro s) | (refine rg ?_; intro s k))); (conv => whnf)
      refine cas (fun h2 => ?_) (fun h2 => ?_)
      · have hlt : i < xs.length := by simp at h2; exact h2
        (repeat ((conv => whnf); first | (refine nx ?_; intro s) | (refine rg ?_; intro s k))); (conv => whnf)
        refine need ⟨by omega, by omega⟩ ?_
        (repeat ((conv => whnf); first | (refine nx ?_; intro s) | (refine rg ?_; intro s k))); (conv => whnf)
        refine giv fun _ => ?_
        (repeat ((conv => whnf); first | (refine nx ?_; intro s) | (refine rg ?_; intro s k))); (conv => whnf)
        refine need ⟨by omega, by omega⟩ ?_
        (repeat ((conv => whnf); first | (refine nx ?_; intro s) | (refine rg ?_; intro s k))); (conv => whnf)
        refine giv fun _ => ?_
        (repeat ((conv => whnf); first | (refine nx ?_; intro s) | (refine rg ?_; intro s k))); (conv => whnf)
        refine call_p (r_eqCmd (xs.getD i (dflt .cm)) (ys.getD i (dflt .cm))) rfl ⟨⟨trivial, trivial, trivial, trivial, trivial, trivial⟩, ⟨trivial, trivial, trivial, trivial, trivial, trivial⟩, trivial⟩ ?_
        (repeat ((conv => whnf); first | (refine nx ?_; intro s) | (refine rg ?_; intro s k))); (conv => whnf)
        refine need (by kernel_rfl) ?_
        have hx : xs[i]? = some (xs.getD i (dflt .cm)) := getD_some hlt _
        have hy : ys[i]? = some (ys.getD i (dflt .cm)) := getD_some (by omega) _
        (repeat ((conv => whnf); first | (refine nx ?_; intro s) | (refine rg ?_; intro s k))); (conv => whnf)
        refine cas (fun h3 => ?_) (fun h3 => ?_)
        · refine ⟨_, rfl, [], [], rfl, trivial, ⟨?_, trivial⟩, trivial, ⟨trivial, trivial⟩, trivial⟩
          show C.bool _ = C.bool _
          have hne : xs ≠ ys := by
            rintro rfl
            rw [eqB_yes rfl] at h3
            cases h3
          rw [eqB_no hne]
        · have he : xs.getD i (dflt .cm) = ys.getD i (dflt .cm) := by
            apply Classical.byContradiction
            intro hn
            rw [eqB_no hn] at h3
            cases h3
          (repeat ((conv => whnf); first | (refine nx ?_; intro s) | (refine rg ?_; intro s k))); (conv => whnf)
          refine ⟨i + 1, ⟨by omega, ?_⟩, by omega, WkF.ok (l := []) (ρ := []) ⟨rfl, trivial, ⟨rfl, rfl, ?_, trivial⟩, trivial, ⟨trivial, trivial, trivial, trivial⟩, trivial⟩⟩
          · rw [List.take_add_one, List.take_add_one, hx, hy, he, hpre]
          · show C.int _ _ = C.int _ _
            rw [wrap_i64 (by omega) (by simp only [byE] at hl; omega)]
            rfl
      · have hge : xs.length ≤ i := by simp at h2; exact h2
        refine ⟨_, rfl, [], [], rfl, trivial, ⟨?_, trivial⟩, trivial, ⟨trivial, trivial⟩, trivial⟩
        show C.bool _ = C.bool _
        rw [List.take_of_length_le hge, List.take_of_length_le (by omega)] at hpre
        rw [eqB_yes hpre]
theorem r_eqDoneS (xs ys : List (El .dn)) : Ret Tryz.prog 104 [.c (.sl .dn xs), .c (.sl .dn ys)] [] (.c (.bool (eqB xs ys))) [] := by
  refine ret_vc hT hM Tryz.func104 rfl rfl (m := 0) (nx := 0) rfl (Nat.le_of_ble_eq_true rfl) ?_
  (repeat ((conv => whnf); first | (refine nx ?_; intro s) | (refine rg ?_; intro s k))); (conv => whnf)
  refine giv fun hl => ?_
  (repeat ((conv => whnf); first | (refine nx ?_; intro s) | (refine rg ?_; intro s k))); (conv => whnf)
  refine giv fun hl' => ?_
  (repeat ((conv => whnf); first | (refine nx ?_; intro s) | (refine rg ?_; intro s k))); (conv => whnf)
  refine cas (fun h1 => ?_) (fun h1 => ?_)
  · refine ⟨_, rfl, [], [], rfl, trivial, ⟨?_, trivial⟩, trivial, ⟨trivial, trivial⟩, trivial⟩
    show C.bool _ = C.bool _
    have hne : xs ≠ ys := by rintro rfl; simp at h1
    rw [eqB_no hne]
  · have hlen : xs.length = ys.length := by simp at h1; omega
    (repeat ((conv => whnf); first | (refine nx ?_; intro s) | (refine rg ?_; intro s k))); (conv => whnf)
    refine Tri.loop (fun i : Nat => ⟨[(0, .c (.sl .dn xs)), (1, .c (.sl .dn ys)), (5, .c (.int .i64 i))], [], 0⟩) (fun i => i ≤ xs.length ∧ xs.take i = ys.take i) (fun i => xs.length - i) 0 ⟨by omega, by simp⟩ ?_ ?_
    · exact WkF.ok (l := []) (ρ := []) ⟨rfl, trivial, ⟨rfl, rfl, rfl, trivial⟩, trivial, ⟨trivial, trivial, trivial, trivial⟩, trivial⟩
    · intro i ⟨hi, hpre⟩
      refine vc_sound hT hM _ _ _ ?_
      (repeat ((conv => whnf); first | (refine nx ?_; intro s) | (refine rg ?_; intro s k))); (conv => whnf)
      refine giv fun _ => ?_
      (repeat ((conv => whnf); first | (refine nx ?_; intro s) | (refine rg ?_; intro s k))); (conv => whnf)
      refine cas (fun h2 => ?_) (fun h2 => ?_)
      · have hlt : i < xs.length := by simp at h2; exact h2
        (repeat ((conv => whnf); first | (refine nx ?_; intro s) | (refine rg ?_; intro s k))); (conv => whnf)
        refine need ⟨by omega, by omega⟩ ?_
        (repeat ((conv => whnf); first | (refine nx ?_; intro s) | (refine rg ?_; intro s k))); (conv => whnf)
        refine giv fun _ => ?_
        (repeat ((conv => whnf); first | (refine nx ?_; intro s) | (refine rg ?_; intro s k))); (conv => whnf)
        refine need ⟨by omega, by omega⟩ ?_
        (repeat ((conv => whnf); first | (refine nx ?_; intro s) | (refine rg ?_; intro s k))); (conv => whnf)
        refine giv fun _ => ?_
        (repeat ((conv => whnf); first | (refine nx ?_; intro s) | (refine rg ?_; intro s k))); (conv => whnf)
        refine call_p (r_eqDone (xs.getD i (dflt .dn)) (ys.getD i (dflt .dn))) rfl ⟨⟨trivial, trivial, trivial, trivial, trivial⟩, ⟨trivial, trivial, trivial, trivial, trivial⟩, trivial⟩ ?_
        (repeat ((conv => whnf); first | (refine nx ?_; intro s) | (refine rg ?_; intro s k))); (conv => whnf)
        refine need (by kernel_rfl) ?_
        have hx : xs[i]? = some (xs.getD i (dflt .dn)) := getD_some hlt _
        have hy : ys[i]? = some (ys.getD i (dflt .dn)) := getD_some (by omega) _
        (repeat ((conv => whnf); first | (refine nx ?_; intro s) | (refine rg ?_; intro s k))); (conv => whnf)
        refine cas (fun h3 => ?_) (fun h3 => ?_)
        · refine ⟨_, rfl, [], [], rfl, trivial, ⟨?_, trivial⟩, trivial, ⟨trivial, trivial⟩, trivial⟩
          show C.bool _ = C.bool _
          have hne : xs ≠ ys := by
            rintro rfl
            rw [eqB_yes rfl] at h3
            cases h3
          rw [eqB_no hne]
        · have he : xs.getD i (dflt .dn) = ys.getD i (dflt .dn) := by
            apply Classical.byContradiction
            intro hn
            rw [eqB_no hn] at h3
            cases h3
          (repeat ((conv => whnf); first | (refine nx ?_; intro s) | (refine rg ?_; intro s k))); (conv => whnf)
          refine ⟨i + 1, ⟨by omega, ?_⟩, by omega, WkF.ok (l := []) (ρ := []) ⟨rfl, trivial, ⟨rfl, rfl, ?_, trivial⟩, trivial, ⟨trivial, trivial, trivial, trivial⟩, trivial⟩⟩
          · rw [List.take_add_one, List.take_add_one, hx, hy, he, hpre]
          · show C.int _ _ = C.int _ _
            rw [wrap_i64 (by omega) (by simp only [byE] at hl; omega)]
            rfl
      · have hge : xs.length ≤ i := by simp at h2; exact h2
        refine ⟨_, rfl, [], [], rfl, trivial, ⟨?_, trivial⟩, trivial, ⟨trivial, trivial⟩, trivial⟩
        show C.bool _ = C.bool _
        rw [List.take_of_length_le hge, List.take_of_length_le (by omega)] at hpre
        rw [eqB_yes hpre]
theorem r_eqLeadS (xs ys : List (El .ld)) : Ret Tryz.prog 105 [.c (.sl .ld xs), .c (.sl .ld ys)] [] (.c (.bool (eqB xs ys))) [] := by
  refine ret_vc hT hM Tryz.func105 rfl rfl (m := 0) (nx := 0) rfl (Nat.le_of_ble_eq_true rfl) ?_
  (repeat ((conv => whnf); first | (refine nx ?_; intro s) | (refine rg ?_; intro s k))); (conv => whnf)
  refine giv fun hl => ?_
  (repeat ((conv => whnf); first | (refine nx ?_; intro s) | (refine rg ?_; intro s k))); (conv => whnf)
  refine giv fun hl' => ?_
  (repeat ((conv => whnf); first | (refine nx ?_; intro s) | (refine rg ?_; intro s k))); (conv => whnf)
  refine cas (fun h1 => ?_) (fun h1 => ?_)
  · refine ⟨_, rfl, [], [], rfl, trivial, ⟨?_, trivial⟩, trivial, ⟨trivial, trivial⟩, trivial⟩
    show C.bool _ = C.bool _
    have hne : xs ≠ ys := by rintro rfl; simp at h1
    rw [eqB_no hne]
  · have hlen : xs.length = ys.length := by simp at h1; omega
    (repeat ((conv => whnf); first | (refine nx ?_; intro s) | (refine rg ?_; intro s k))); (conv => whnf)
    refine Tri.loop (fun i : Nat => ⟨[(0, .c (.sl .ld xs)), (1, .c (.sl .ld ys)), (5, .c (.int .i64 i))], [], 0⟩) (fun i => i ≤ xs.length ∧ xs.take i = ys.take i) (fun i => xs.length - i) 0 ⟨by omega, by simp⟩ ?_ ?_
    · exact WkF.ok (l := []) (ρ := []) ⟨rfl, trivial, ⟨rfl, rfl, rfl, trivial⟩, trivial, ⟨trivial, trivial, trivial, trivial⟩, trivial⟩
    · intro i ⟨hi, hpre⟩
      refine vc_sound hT hM _ _ _ ?_
      (repeat ((conv => whnf); first | (refine nx ?_; intro s) | (refine rg ?_; intro s k))); (conv => whnf)
      refine giv fun _ => ?_
      (repeat ((conv => whnf); first | (refine nx ?_; intro s) | (refine rg ?_; intro s k))); (conv => whnf)
      refine cas (fun h2 => ?_) (fun h2 => ?_)
      · have hlt : i < xs.length := by simp at h2; exact h2
        (repeat ((conv => whnf); first | (refine nx ?_; intro s) | (refine rg ?_; intro s k))); (conv => whnf)
        refine need ⟨by omega, by omega⟩ ?_
        (repeat ((conv => whnf); first | (refine nx ?_; intro s) | (refine rg ?_; intro s k))); (conv => whnf)
        refine giv fun _ => ?_
        (repeat ((conv => whnf); first | (refine nx ?_; intro s) | (refine rg ?_; intro s k))); (conv => whnf)
        refine need ⟨by omega, by omega⟩ ?_
        (repeat ((conv => whnf); first | (refine nx ?_; intro s) | (refine rg ?_; intro s k))); (conv => whnf)
        refine giv fun _ => ?_
        (repeat ((conv => whnf); first | (refine nx ?_; intro s) | (refine rg ?_; intro s k))); (conv => whnf)
        refine call_p (r_eqLead (xs.getD i (dflt .ld)) (ys.getD i (dflt .ld))) rfl ⟨⟨trivial, trivial, trivial⟩, ⟨trivial, trivial, trivial⟩, trivial⟩ ?_
        (repeat ((conv => whnf); first | (refine nx ?_; intro s) | (refine rg ?_; intro s k))); (conv => whnf)
        refine need (by kernel_rfl) ?_
        have hx : xs[i]? = some (xs.getD i (dflt .ld)) := getD_some hlt _
        have hy : ys[i]? = some (ys.getD i (dflt .ld)) := getD_some (by omega) _
        (repeat ((conv => whnf); first | (refine nx ?_; intro s) | (refine rg ?_; intro s k))); (conv => whnf)
        refine cas (fun h3 => ?_) (fun h3 => ?_)
        · refine ⟨_, rfl, [], [], rfl, trivial, ⟨?_, trivial⟩, trivial, ⟨trivial, trivial⟩, trivial⟩
          show C.bool _ = C.bool _
          have hne : xs ≠ ys := by
            rintro rfl
            rw [eqB_yes rfl] at h3
            cases h3
          rw [eqB_no hne]
        · have he : xs.getD i (dflt .ld) = ys.getD i (dflt .ld) := by
            apply Classical.byContradiction
            intro hn
            rw [eqB_no hn] at h3
            cases h3
          (repeat ((conv => whnf); first | (refine nx ?_; intro s) | (refine rg ?_; intro s k))); (conv => whnf)
          refine ⟨i + 1, ⟨by omega, ?_⟩, by omega, WkF.ok (l := []) (ρ := []) ⟨rfl, trivial, ⟨rfl, rfl, ?_, trivial⟩, trivial, ⟨trivial, trivial, trivial, trivial⟩, trivial⟩⟩
          · rw [List.take_add_one, List.take_add_one, hx, hy, he, hpre]
          · show C.int _ _ = C.int _ _
            rw [wrap_i64 (by omega) (by simp only [byE] at hl; omega)]
            rfl
      · have hge : xs.length ≤ i := by simp at h2; exact h2
        refine ⟨_, rfl, [], [], rfl, trivial, ⟨?_, trivial⟩, trivial, ⟨trivial, trivial⟩, trivial⟩
        show C.bool _ = C.bool _
        rw [List.take_of_length_le hge, List.take_of_length_le (by omega)] at hpre
        rw [eqB_yes hpre]
theorem r_eqEntryS (xs ys : List (El .en)) : Ret Tryz.prog 191 [.c (.sl .en xs), .c (.sl .en ys)] [] (.c (.bool (eqB xs ys))) [] := by
  refine ret_vc hT hM Tryz.func191 rfl rfl (m := 0) (nx := 0) rfl (Nat.le_of_ble_eq_true rfl) ?_
  (repeat ((conv => whnf); first | (refine nx ?_; intro s) | (refine rg ?_; intro s k))); (conv => whnf)
  refine giv fun hl => ?_
  (repeat ((conv => whnf); first | (refine nx ?_; intro s) | (refine rg ?_; intro s k))); (conv => whnf)
  refine giv fun hl' => ?_
  (repeat ((conv => whnf); first | (refine nx ?_; intro s) | (refine rg ?_; intro s k))); (conv => whnf)
  refine cas (fun h1 => ?_) (fun h1 => ?_)
  · refine ⟨_, rfl, [], [], rfl, trivial, ⟨?_, trivial⟩, trivial, ⟨trivial, trivial⟩, trivial⟩
    show C.bool _ = C.bool _
    have hne : xs ≠ ys := by rintro rfl; simp at h1
    rw [eqB_no hne]
  · have hlen : xs.length = ys.length := by simp at h1; omega
    (repeat ((conv => whnf); first | (refine nx ?_; intro s) | (refine rg ?_; intro s k))); (conv => whnf)
    refine Tri.loop (fun i : Nat => ⟨[(0, .c (.sl .en xs)), (1, .c (.sl .en ys)), (5, .c (.int .i64 i))], [], 0⟩) (fun i => i ≤ xs.length ∧ xs.take i = ys.take i) (fun i => xs.length - i) 0 ⟨by omega, by simp⟩ ?_ ?_
    · exact WkF.ok (l := []) (ρ := []) ⟨rfl, trivial, ⟨rfl, rfl, rfl, trivial⟩, trivial, ⟨trivial, trivial, trivial, trivial⟩, trivial⟩
    · intro i ⟨hi, hpre⟩
      refine vc_sound hT hM _ _ _ ?_
      (repeat ((conv => whnf); first | (refine nx ?_; intro s) | (refine rg ?_; intro s k))); (conv => whnf)
      refine giv fun _ => ?_
      (repeat ((conv => whnf); first | (refine nx ?_; intro s) | (refine rg ?_; intro s k))); (conv => whnf)
      refine cas (fun h2 => ?_) (fun h2 => ?_)
      · have hlt : i < xs.length := by simp at h2; exact h2
        (repeat ((conv => whnf); first | (refine nx ?_; intro s) | (refine rg ?_; intro s k))); (conv => whnf)
        refine need ⟨by omega, by omega⟩ ?_
        (repeat ((conv => whnf); first | (refine nx ?_; intro s) | (refine rg ?_; intro s k))); (conv => whnf)
        refine giv fun _ => ?_
        (repeat ((conv => whnf); first | (refine nx ?_; intro s) | (refine rg ?_; intro s k))); (conv => whnf)
        refine need ⟨by omega, by omega⟩ ?_
        (repeat ((conv => whnf); first | (refine nx ?_; intro s) | (refine rg ?_; intro s k))); (conv => whnf)
        refine giv fun _ => ?_
        (repeat ((conv => whnf); first | (refine nx ?_; intro s) | (refine rg ?_; intro s k))); (conv => whnf)
        refine call_p (r_eqEntry (xs.getD i (dflt .en)) (ys.getD i (dflt .en))) rfl ⟨⟨trivial, trivial, trivial, trivial, trivial, trivial, trivial⟩, ⟨trivial, trivial, trivial, trivial, trivial, trivial, trivial⟩, trivial⟩ ?_
        (repeat ((conv => whnf); first | (refine nx ?_; intro s) | (refine rg ?_; intro s k))); (conv => whnf)
        refine need (by kernel_rfl) ?_
        have hx : xs[i]? = some (xs.getD i (dflt .en)) := getD_some hlt _
        have hy : ys[i]? = some (ys.getD i (dflt .en)) := getD_some (by omega) _
        (repeat ((conv => whnf); first | (refine nx ?_; intro s) | (refine rg ?_; intro s k))); (conv => whnf)
        refine cas (fun h3 => ?_) (fun h3 => ?_)
        · refine ⟨_, rfl, [], [], rfl, trivial, ⟨?_, trivial⟩, trivial, ⟨trivial, trivial⟩, trivial⟩
          show C.bool _ = C.bool _
          have hne : xs ≠ ys := by
            rintro rfl
            rw [eqB_yes rfl] at h3
            cases h3
          rw [eqB_no hne]
        · have he : xs.getD i (dflt .en) = ys.getD i (dflt .en) := by
            apply Classical.byContradiction
            intro hn
            rw [eqB_no hn] at h3
            cases h3
          (repeat ((conv => whnf); first | (refine nx ?_; intro s) | (refine rg ?_; intro s k))); (conv => whnf)
          refine ⟨i + 1, ⟨by omega, ?_⟩, by omega, WkF.ok (l := []) (ρ := []) ⟨rfl, trivial, ⟨rfl, rfl, ?_, trivial⟩, trivial, ⟨trivial, trivial, trivial, trivial⟩, trivial⟩⟩
          · rw [List.take_add_one, List.take_add_one, hx, hy, he, hpre]
          · show C.int _ _ = C.int _ _
            rw [wrap_i64 (by omega) (by simp only [byE] at hl; omega)]
            rfl
      · have hge : xs.length ≤ i := by simp at h2; exact h2
        refine ⟨_, rfl, [], [], rfl, trivial, ⟨?_, trivial⟩, trivial, ⟨trivial, trivial⟩, trivial⟩
        show C.bool _ = C.bool _
        rw [List.take_of_length_le hge, List.take_of_length_le (by omega)] at hpre
        rw [eqB_yes hpre]
theorem r_eqBoolS (xs ys : List (El .bool)) : Ret Tryz.prog 128 [.c (.sl .bool xs), .c (.sl .bool ys)] [] (.c (.bool (eqB xs ys))) [] := by
  refine ret_vc hT hM Tryz.func128 rfl rfl (m := 0) (nx := 0) rfl (Nat.le_of_ble_eq_true rfl) ?_
  (repeat ((conv => whnf); first | (refine nx ?_; intro s) | (refine rg ?_; intro s k))); (conv => whnf)
  refine giv fun hl => ?_
  (repeat ((conv => whnf); first | (refine nx ?_; intro s) | (refine rg ?_; intro s k))); (conv => whnf)
  refine giv fun hl' => ?_
  (repeat ((conv => whnf); first | (refine nx ?_; intro s) | (refine rg ?_; intro s k))); (conv => whnf)
  refine cas (fun h1 => ?_) (fun h1 => ?_)
  · refine ⟨_, rfl, [], [], rfl, trivial, ⟨?_, trivial⟩, trivial, ⟨trivial, trivial⟩, trivial⟩
    show C.bool _ = C.bool _
    have hne : xs ≠ ys := by rintro rfl; simp at h1
    rw [eqB_no hne]
  · have hlen : xs.length = ys.length := by simp at h1; omega
    (repeat ((conv => whnf); first | (refine nx ?_; intro s) | (refine rg ?_; intro s k))); (conv => whnf)
    refine Tri.loop (fun i : Nat => ⟨[(0, .c (.sl .bool xs)), (1, .c (.sl .bool ys)), (5, .c (.int .i64 i))], [], 0⟩) (fun i => i ≤ xs.length ∧ xs.take i = ys.take i) (fun i => xs.length - i) 0 ⟨by omega, by simp⟩ ?_ ?_
    · exact WkF.ok (l := []) (ρ := []) ⟨rfl, trivial, ⟨rfl, rfl, rfl, trivial⟩, trivial, ⟨trivial, trivial, trivial, trivial⟩, trivial⟩
    · intro i ⟨hi, hpre⟩
      refine vc_sound hT hM _ _ _ ?_
      (repeat ((conv => whnf); first | (refine nx ?_; intro s) | (refine rg ?_; intro s k))); (conv => whnf)
      refine giv fun _ => ?_
      (repeat ((conv => whnf); first | (refine nx ?_; intro s) | (refine rg ?_; intro s k))); (conv => whnf)
      refine cas (fun h2 => ?_) (fun h2 => ?_)
      · have hlt : i < xs.length := by simp at h2; exact h2
        (repeat ((conv => whnf); first | (refine nx ?_; intro s) | (refine rg ?_; intro s k))); (conv => whnf)
        refine need ⟨by omega, by omega⟩ ?_
        (repeat ((conv => whnf); first | (refine nx ?_; intro s) | (refine rg ?_; intro s k))); (conv => whnf)
        refine giv fun _ => ?_
        (repeat ((conv => whnf); first | (refine nx ?_; intro s) | (refine rg ?_; intro s k))); (conv => whnf)
        refine need ⟨by omega, by omega⟩ ?_
        (repeat ((conv => whnf); first | (refine nx ?_; intro s) | (refine rg ?_; intro s k))); (conv => whnf)
        refine giv fun _ => ?_
        (repeat ((conv => whnf); first | (refine nx ?_; intro s) | (refine rg ?_; intro s k))); (conv => whnf)
        refine need (by kernel_rfl) ?_
        have hx : xs[i]? = some (xs.getD i (dflt .bool)) := getD_some hlt _
        have hy : ys[i]? = some (ys.getD i (dflt .bool)) := getD_some (by omega) _
        (repeat ((conv => whnf); first | (refine nx ?_; intro s) | (refine rg ?_; intro s k))); (conv => whnf)
        refine cas (fun h3 => ?_) (fun h3 => ?_)
        · refine ⟨_, rfl, [], [], rfl, trivial, ⟨?_, trivial⟩, trivial, ⟨trivial, trivial⟩, trivial⟩
          show C.bool _ = C.bool _
          have hne : xs ≠ ys := by
            rintro rfl
            simp at h3
          rw [eqB_no hne]
        · have he : xs.getD i (dflt .bool) = ys.getD i (dflt .bool) := by
            simpa using h3
          (repeat ((conv => whnf); first | (refine nx ?_; intro s) | (refine rg ?_; intro s k))); (conv => whnf)
          refine ⟨i + 1, ⟨by omega, ?_⟩, by omega, WkF.ok (l := []) (ρ := []) ⟨rfl, trivial, ⟨rfl, rfl, ?_, trivial⟩, trivial, ⟨trivial, trivial, trivial, trivial⟩, trivial⟩⟩
          · rw [List.take_add_one, List.take_add_one, hx, hy, he, hpre]
          · show C.int _ _ = C.int _ _
            rw [wrap_i64 (by omega) (by simp only [byE] at hl; omega)]
            rfl
      · have hge : xs.length ≤ i := by simp at h2; exact h2
        refine ⟨_, rfl, [], [], rfl, trivial, ⟨?_, trivial⟩, trivial, ⟨trivial, trivial⟩, trivial⟩
        show C.bool _ = C.bool _
        rw [List.take_of_length_le hge, List.take_of_length_le (by omega)] at hpre
        rw [eqB_yes hpre]
theorem r_eqLog (x y : Lg) : Ret Tryz.prog 126 [agL (Lg.cells x), agL (Lg.cells y)] [] (.c (.bool (eqB x y))) [] := by
  refine ret_vc hT hM Tryz.func126 rfl rfl (m := 0) (nx := 0) rfl (Nat.le_of_ble_eq_true rfl) ?_
  (repeat' ((conv => whnf); first | (refine nx ?_; intro s) | (refine rg ?_; intro s k) | ((refine cas (fun h => ?_) (fun h => ?_)) <;> (try simp [-List.getD_eq_getElem?_getD, eqB_t, eqB_f] at h)) | ((refine may (fun h => ?_) ?_) <;> (try simp [-List.getD_eq_getElem?_getD, eqB_t, eqB_f] at h)) | (refine giv fun hg => ?_; (try simp only [byE] at hg)) | (refine need (by kernel_rfl) ?_) | (refine need ⟨by omega, by omega⟩ ?_) | (refine need (by omega) ?_) | (refine need (by first | (simp; done) | (simp; omega)) ?_) | (refine call_p (r_eqEntryS x.list y.list) rfl (by (repeat' (first | exact trivial | refine ⟨?_, ?_⟩ | exact rfl | exact Or.inr rfl | exact Or.inl (Nat.le_of_ble_eq_true rfl)))) ?_) | (refine fin_au rfl ?_; (conv => whnf); ((repeat' (first | exact trivial | refine ⟨?_, ?_⟩ | exact rfl | exact Or.inr rfl | exact Or.inl (Nat.le_of_ble_eq_true rfl))) <;> (try (conv => whnf)) <;> (try (first | refine congrArg C.bool ?_ | refine congrArg (C.int .i64) ?_ | refine congrArg C.str ?_ | refine congrArg (fun l => some (Ob.row _ l)) ?_ | refine congrArg (fun l => some (Ob.dp _ l)) ?_ | refine congrArg (C.sl _) ?_)) <;> (try (rw [wrap_i64 (by omega) (by omega)]; first | rfl | omega)))) | (refine WkF.au ?_; (conv => whnf); ((repeat' (first | exact trivial | refine ⟨?_, ?_⟩ | exact rfl | exact Or.inr rfl | exact Or.inl (Nat.le_of_ble_eq_true rfl))) <;> (try (conv => whnf)) <;> (try (first | refine congrArg C.bool ?_ | refine congrArg (C.int .i64) ?_ | refine congrArg C.str ?_ | refine congrArg (fun l => some (Ob.row _ l)) ?_ | refine congrArg (fun l => some (Ob.dp _ l)) ?_ | refine congrArg (C.sl _) ?_)) <;> (try (rw [wrap_i64 (by omega) (by omega)]; first | rfl | omega)))) | (refine altl ?_) | fail))
  all_goals first
    | exact (eqB_no (by rintro rfl; simp_all)).symm
    | exact (eqB_yes (by cases x; cases y; simp_all)).symm
theorem r_eqMachine (x y : Mc) : Ret Tryz.prog 127 [agL (Mc.cells x), agL (Mc.cells y)] [] (.c (.bool (eqB x y))) [] := by
  refine ret_vc hT hM Tryz.func127 rfl rfl (m := 0) (nx := 0) rfl (Nat.le_of_ble_eq_true rfl) ?_
  (repeat' ((conv => whnf); first | (refine nx ?_; intro s) | (refine rg ?_; intro s k) | ((refine cas (fun h => ?_) (fun h => ?_)) <;> (try simp [-List.getD_eq_getElem?_getD, eqB_t, eqB_f] at h)) | ((refine may (fun h => ?_) ?_) <;> (try simp [-List.getD_eq_getElem?_getD, eqB_t, eqB_f] at h)) | (refine giv fun hg => ?_; (try simp only [byE] at hg)) | (refine need (by kernel_rfl) ?_) | (refine need ⟨by omega, by omega⟩ ?_) | (refine need (by omega) ?_) | (refine need (by first | (simp; done) | (simp; omega)) ?_) | (refine call_p (r_eqTree x.t y.t) rfl (by (repeat' (first | exact trivial | refine ⟨?_, ?_⟩ | exact rfl | exact Or.inr rfl | exact Or.inl (Nat.le_of_ble_eq_true rfl)))) ?_) | (refine call_p (r_eqDoneS x.last y.last) rfl (by (repeat' (first | exact trivial | refine ⟨?_, ?_⟩ | exact rfl | exact Or.inr rfl | exact Or.inl (Nat.le_of_ble_eq_true rfl)))) ?_) | (refine fin_au rfl ?_; (conv => whnf); ((repeat' (first | exact trivial | refine ⟨?_, ?_⟩ | exact rfl | exact Or.inr rfl | exact Or.inl (Nat.le_of_ble_eq_true rfl))) <;> (try (conv => whnf)) <;> (try (first | refine congrArg C.bool ?_ | refine congrArg (C.int .i64) ?_ | refine congrArg C.str ?_ | refine congrArg (fun l => some (Ob.row _ l)) ?_ | refine congrArg (fun l => some (Ob.dp _ l)) ?_ | refine congrArg (C.sl _) ?_)) <;> (try (rw [wrap_i64 (by omega) (by omega)]; first | rfl | omega)))) | (refine WkF.au ?_; (conv => whnf); ((repeat' (first | exact trivial | refine ⟨?_, ?_⟩ | exact rfl | exact Or.inr rfl | exact Or.inl (Nat.le_of_ble_eq_true rfl))) <;> (try (conv => whnf)) <;> (try (first | refine congrArg C.bool ?_ | refine congrArg (C.int .i64) ?_ | refine congrArg C.str ?_ | refine congrArg (fun l => some (Ob.row _ l)) ?_ | refine congrArg (fun l => some (Ob.dp _ l)) ?_ | refine congrArg (C.sl _) ?_)) <;> (try (rw [wrap_i64 (by omega) (by omega)]; first | rfl | omega)))) | (refine altl ?_) | fail))
  all_goals first
    | exact (eqB_no (by rintro rfl; simp_all)).symm
    | exact (eqB_yes (by cases x; cases y; simp_all)).symm
theorem r_eqNode (x y : Nd) : Ret Tryz.prog 40 [agL (Nd.cells x), agL (Nd.cells y)] [] (.c (.bool (eqB x y))) [] := by
  refine ret_vc hT hM Tryz.func40 rfl rfl (m := 0) (nx := 0) rfl (Nat.le_of_ble_eq_true rfl) ?_
  (repeat' ((conv => whnf); first | (refine nx ?_; intro s) | (refine rg ?_; intro s k) | ((refine cas (fun h => ?_) (fun h => ?_)) <;> (try simp [-List.getD_eq_getElem?_getD, eqB_t, eqB_f] at h)) | ((refine may (fun h => ?_) ?_) <;> (try simp [-List.getD_eq_getElem?_getD, eqB_t, eqB_f] at h)) | (refine giv fun hg => ?_; (try simp only [byE] at hg)) | (refine need (by kernel_rfl) ?_) | (refine need ⟨by omega, by omega⟩ ?_) | (refine need (by omega) ?_) | (refine need (by first | (simp; done) | (simp; omega)) ?_) | (refine call_p (r_eqLog x.log y.log) rfl (by (repeat' (first | exact trivial | refine ⟨?_, ?_⟩ | exact rfl | exact Or.inr rfl | exact Or.inl (Nat.le_of_ble_eq_true rfl)))) ?_) | (refine call_p (r_eqMachine x.snap y.snap) rfl (by (repeat' (first | exact trivial | refine ⟨?_, ?_⟩ | exact rfl | exact Or.inr rfl | exact Or.inl (Nat.le_of_ble_eq_true rfl)))) ?_) | (refine call_p (r_eqBoolS x.votes y.votes) rfl (by (repeat' (first | exact trivial | refine ⟨?_, ?_⟩ | exact rfl | exact Or.inr rfl | exact Or.inl (Nat.le_of_ble_eq_true rfl)))) ?_) | (refine call_p (r_eqIntS x.next y.next) rfl (by (repeat' (first | exact trivial | refine ⟨?_, ?_⟩ | exact rfl | exact Or.inr rfl | exact Or.inl (Nat.le_of_ble_eq_true rfl)))) ?_) | (refine call_p (r_eqIntS x.mtch y.mtch) rfl (by (repeat' (first | exact trivial | refine ⟨?_, ?_⟩ | exact rfl | exact Or.inr rfl | exact Or.inl (Nat.le_of_ble_eq_true rfl)))) ?_) | (refine call_p (r_eqMachine x.now y.now) rfl (by (repeat' (first | exact trivial | refine ⟨?_, ?_⟩ | exact rfl | exact Or.inr rfl | exact Or.inl (Nat.le_of_ble_eq_true rfl)))) ?_) | (refine fin_au rfl ?_; (conv => whnf); ((repeat' (first | exact trivial | refine ⟨?_, ?_⟩ | exact rfl | exact Or.inr rfl | exact Or.inl (Nat.le_of_ble_eq_true rfl))) <;> (try (conv => whnf)) <;> (try (first | refine congrArg C.bool ?_ | refine congrArg (C.int .i64) ?_ | refine congrArg C.str ?_ | refine congrArg (fun l => some (Ob.row _ l)) ?_ | refine congrArg (fun l => some (Ob.dp _ l)) ?_ | refine congrArg (C.sl _) ?_)) <;> (try (rw [wrap_i64 (by omega) (by omega)]; first | rfl | omega)))) | (refine WkF.au ?_; (conv => whnf); ((repeat' (first | exact trivial | refine ⟨?_, ?_⟩ | exact rfl | exact Or.inr rfl | exact Or.inl (Nat.le_of_ble_eq_true rfl))) <;> (try (conv => whnf)) <;> (try (first | refine congrArg C.bool ?_ | refine congrArg (C.int .i64) ?_ | refine congrArg C.str ?_ | refine congrArg (fun l => some (Ob.row _ l)) ?_ | refine congrArg (fun l => some (Ob.dp _ l)) ?_ | refine congrArg (C.sl _) ?_)) <;> (try (rw [wrap_i64 (by omega) (by omega)]; first | rfl | omega)))) | (refine altl ?_) | fail))
  all_goals first
    | exact (eqB_no (by rintro rfl; simp_all)).symm
    | exact (eqB_yes (by cases x; cases y; simp_all)).symm
theorem r_eqRpc (x y : Rp) : Ret Tryz.prog 106 [agL (Rp.cells x), agL (Rp.cells y)] [] (.c (.bool (eqB x y))) [] := by
  refine ret_vc hT hM Tryz.func106 rfl rfl (m := 0) (nx := 0) rfl (Nat.le_of_ble_eq_true rfl) ?_
  (repeat' ((conv => whnf); first | (refine nx ?_; intro s) | (refine rg ?_; intro s k) | ((refine cas (fun h => ?_) (fun h => ?_)) <;> (try simp [-List.getD_eq_getElem?_getD, eqB_t, eqB_f] at h)) | ((refine may (fun h => ?_) ?_) <;> (try simp [-List.getD_eq_getElem?_getD, eqB_t, eqB_f] at h)) | (refine giv fun hg => ?_; (try simp only [byE] at hg)) | (refine need (by kernel_rfl) ?_) | (refine need ⟨by omega, by omega⟩ ?_) | (refine need (by omega) ?_) | (refine need (by first | (simp; done) | (simp; omega)) ?_) | (refine call_p (r_eqEntryS x.entries y.entries) rfl (by (repeat' (first | exact trivial | refine ⟨?_, ?_⟩ | exact rfl | exact Or.inr rfl | exact Or.inl (Nat.le_of_ble_eq_true rfl)))) ?_) | (refine call_p (r_eqMachine x.snap y.snap) rfl (by (repeat' (first | exact trivial | refine ⟨?_, ?_⟩ | exact rfl | exact Or.inr rfl | exact Or.inl (Nat.le_of_ble_eq_true rfl)))) ?_) | (refine fin_au rfl ?_; (conv => whnf); ((repeat' (first | exact trivial | refine ⟨?_, ?_⟩ | exact rfl | exact Or.inr rfl | exact Or.inl (Nat.le_of_ble_eq_true rfl))) <;> (try (conv => whnf)) <;> (try (first | refine congrArg C.bool ?_ | refine congrArg (C.int .i64) ?_ | refine congrArg C.str ?_ | refine congrArg (fun l => some (Ob.row _ l)) ?_ | refine congrArg (fun l => some (Ob.dp _ l)) ?_ | refine congrArg (C.sl _) ?_)) <;> (try (rw [wrap_i64 (by omega) (by omega)]; first | rfl | omega)))) | (refine WkF.au ?_; (conv => whnf); ((repeat' (first | exact trivial | refine ⟨?_, ?_⟩ | exact rfl | exact Or.inr rfl | exact Or.inl (Nat.le_of_ble_eq_true rfl))) <;> (try (conv => whnf)) <;> (try (first | refine congrArg C.bool ?_ | refine congrArg (C.int .i64) ?_ | refine congrArg C.str ?_ | refine congrArg (fun l => some (Ob.row _ l)) ?_ | refine congrArg (fun l => some (Ob.dp _ l)) ?_ | refine congrArg (C.sl _) ?_)) <;> (try (rw [wrap_i64 (by omega) (by omega)]; first | rfl | omega)))) | (refine altl ?_) | fail))
  all_goals first
    | exact (eqB_no (by rintro rfl; simp_all)).symm
    | exact (eqB_yes (by cases x; cases y; simp_all)).symm
theorem r_eqNodeS (xs ys : List (El .nd)) : Ret Tryz.prog 102 [.c (.sl .nd xs), .c (.sl .nd ys)] [] (.c (.bool (eqB xs ys))) [] := by
  refine ret_vc hT hM Tryz.func102 rfl rfl (m := 0) (nx := 0) rfl (Nat.le_of_ble_eq_true rfl) ?_
  (repeat ((conv => whnf); first | (refine nx ?_; intro s) | (refine rg ?_; intro s k))); (conv => whnf)
  refine giv fun hl => ?_
  (repeat ((conv => whnf); first | (refine nx ?_; intro s) | (refine rg ?_; intro s k))); (conv => whnf)
  refine giv fun hl' => ?_
  (repeat ((conv => whnf); first | (refine nx ?_; intro s) | (refine rg ?_; intro s k))); (conv => whnf)
  refine cas (fun h1 => ?_) (fun h1 => ?_)
  · refine ⟨_, rfl, [], [], rfl, trivial, ⟨?_, trivial⟩, trivial, ⟨trivial, trivial⟩, trivial⟩
    show C.bool _ = C.bool _
    have hne : xs ≠ ys := by rintro rfl; simp at h1
    rw [eqB_no hne]
  · have hlen : xs.length = ys.length := by simp at h1; omega
    (repeat ((conv => whnf); first | (refine nx ?_; intro s) | (refine rg ?_; intro s k))); (conv => whnf)
    refine Tri.loop (fun i : Nat => ⟨[(0, .c (.sl .nd xs)), (1, .c (.sl .nd ys)), (5, .c (.int .i64 i))], [], 0⟩) (fun i => i ≤ xs.length ∧ xs.take i = ys.take i) (fun i => xs.length - i) 0 ⟨by omega, by simp⟩ ?_ ?_
    · exact WkF.ok (l := []) (ρ := []) ⟨rfl, trivial, ⟨rfl, rfl, rfl, trivial⟩, trivial, ⟨trivial, trivial, trivial, trivial⟩, trivial⟩
    · intro i ⟨hi, hpre⟩
      refine vc_sound hT hM _ _ _ ?_
      (repeat ((conv => whnf); first | (refine nx ?_; intro s) | (refine rg ?_; intro s k))); (conv => whnf)
      refine giv fun _ => ?_
      (repeat ((conv => whnf); first | (refine nx ?_; intro s) | (refine rg ?_; intro s k))); (conv => whnf)
      refine cas (fun h2 => ?_) (fun h2 => ?_)
      · have hlt : i < xs.length := by simp at h2; exact h2
        (repeat ((conv => whnf); first | (refine nx ?_; intro s) | (refine rg ?_; intro s k))); (conv => whnf)
        refine need ⟨by omega, by omega⟩ ?_
        (repeat ((conv => whnf); first | (refine nx ?_; intro s) | (refine rg ?_; intro s k))); (conv => whnf)
        refine giv fun _ => ?_
        (repeat ((conv => whnf); first | (refine nx ?_; intro s) | (refine rg ?_; intro s k))); (conv => whnf)
        refine need ⟨by omega, by omega⟩ ?_
        (repeat ((conv => whnf); first | (refine nx ?_; intro s) | (refine rg ?_; intro s k))); (conv => whnf)
        refine giv fun _ => ?_
        (repeat ((conv => whnf); first | (refine nx ?_; intro s) | (refine rg ?_; intro s k))); (conv => whnf)
        refine call_p (r_eqNode (xs.getD i (dflt .nd)) (ys.getD i (dflt .nd))) rfl ⟨⟨trivial, trivial, trivial, trivial, trivial, trivial, trivial, trivial, trivial, trivial, trivial, trivial, trivial, trivial, trivial, trivial, trivial, trivial, trivial, trivial, trivial, trivial, trivial, trivial⟩, ⟨trivial, trivial, trivial, trivial, trivial, trivial, trivial, trivial, trivial, trivial, trivial, trivial, trivial, trivial, trivial, trivial, trivial, trivial, trivial, trivial, trivial, trivial, trivial, trivial⟩, trivial⟩ ?_
        (repeat ((conv => whnf); first | (refine nx ?_; intro s) | (refine rg ?_; intro s k))); (conv => whnf)
        refine need (by kernel_rfl) ?_
        have hx : xs[i]? = some (xs.getD i (dflt .nd)) := getD_some hlt _
        have hy : ys[i]? = some (ys.getD i (dflt .nd)) := getD_some (by omega) _
        (repeat ((conv => whnf); first | (refine nx ?_; intro s) | (refine rg ?_; intro s k))); (conv => whnf)
        refine cas (fun h3 => ?_) (fun h3 => ?_)
        · refine ⟨_, rfl, [], [], rfl, trivial, ⟨?_, trivial⟩, trivial, ⟨trivial, trivial⟩, trivial⟩
          show C.bool _ = C.bool _
          have hne : xs ≠ ys := by
            rintro rfl
            rw [eqB_yes rfl] at h3
            cases h3
          rw [eqB_no hne]
        · have he : xs.getD i (dflt .nd) = ys.getD i (dflt .nd) := by
            apply Classical.byContradiction
            intro hn
            rw [eqB_no hn] at h3
            cases h3
          (repeat ((conv => whnf); first | (refine nx ?_; intro s) | (refine rg ?_; intro s k))); (conv => whnf)
          refine ⟨i + 1, ⟨by omega, ?_⟩, by omega, WkF.ok (l := []) (ρ := []) ⟨rfl, trivial, ⟨rfl, rfl, ?_, trivial⟩, trivial, ⟨trivial, trivial, trivial, trivial⟩, trivial⟩⟩
          · rw [List.take_add_one, List.take_add_one, hx, hy, he, hpre]
          · show C.int _ _ = C.int _ _
            rw [wrap_i64 (by omega) (by simp only [byE] at hl; omega)]
            rfl
      · have hge : xs.length ≤ i := by simp at h2; exact h2
        refine ⟨_, rfl, [], [], rfl, trivial, ⟨?_, trivial⟩, trivial, ⟨trivial, trivial⟩, trivial⟩
        show C.bool _ = C.bool _
        rw [List.take_of_length_le hge, List.take_of_length_le (by omega)] at hpre
        rw [eqB_yes hpre]
theorem r_eqRpcS (xs ys : List (El .rp)) : Ret Tryz.prog 32 [.c (.sl .rp xs), .c (.sl .rp ys)] [] (.c (.bool (eqB xs ys))) [] := by
  refine ret_vc hT hM Tryz.func32 rfl rfl (m := 0) (nx := 0) rfl (Nat.le_of_ble_eq_true rfl) ?_
  (repeat ((conv => whnf); first | (refine nx ?_; intro s) | (refine rg ?_; intro s k))); (conv => whnf)
  refine giv fun hl => ?_
  (repeat ((conv => whnf); first | (refine nx ?_; intro s) | (refine rg ?_; intro s k))); (conv => whnf)
  refine giv fun hl' => ?_
  (repeat ((conv => whnf); first | (refine nx ?_; intro s) | (refine rg ?_; intro s k))); (conv => whnf)
  refine cas (fun h1 => ?_) (fun h1 => ?_)
  · refine ⟨_, rfl, [], [], rfl, trivial, ⟨?_, trivial⟩, trivial, ⟨trivial, trivial⟩, trivial⟩
    show C.bool _ = C.bool _
    have hne : xs ≠ ys := by rintro rfl; simp at h1
    rw [eqB_no hne]
  · have hlen : xs.length = ys.length := by simp at h1; omega
    (repeat ((conv => whnf); first | (refine nx ?_; intro s) | (refine rg ?_; intro s k))); (conv => whnf)
    refine Tri.loop (fun i : Nat => ⟨[(0, .c (.sl .rp xs)), (1, .c (.sl .rp ys)), (5, .c (.int .i64 i))], [], 0⟩) (fun i => i ≤ xs.length ∧ xs.take i = ys.take i) (fun i => xs.length - i) 0 ⟨by omega, by simp⟩ ?_ ?_
    · exact WkF.ok (l := []) (ρ := []) ⟨rfl, trivial, ⟨rfl, rfl, rfl, trivial⟩, trivial, ⟨trivial, trivial, trivial, trivial⟩, trivial⟩
    · intro i ⟨hi, hpre⟩
      refine vc_sound hT hM _ _ _ ?_
      (repeat ((conv => whnf); first | (refine nx ?_; intro s) | (refine rg ?_; intro s k))); (conv => whnf)
      refine giv fun _ => ?_
      (repeat ((conv => whnf); first | (refine nx ?_; intro s) | (refine rg ?_; intro s k))); (conv => whnf)
      refine cas (fun h2 => ?_) (fun h2 => ?_)
      · have hlt : i < xs.length := by simp at h2; exact h2
        (repeat ((conv => whnf); first | (refine nx ?_; intro s) | (refine rg ?_; intro s k))); (conv => whnf)
        refine need ⟨by omega, by omega⟩ ?_
        (repeat ((conv => whnf); first | (refine nx ?_; intro s) | (refine rg ?_; intro s k))); (conv => whnf)
        refine giv fun _ => ?_
        (repeat ((conv => whnf); first | (refine nx ?_; intro s) | (refine rg ?_; intro s k))); (conv => whnf)
        refine need ⟨by omega, by omega⟩ ?_
        (repeat ((conv => whnf); first | (refine nx ?_; intro s) | (refine rg ?_; intro s k))); (conv => whnf)
        refine giv fun _ => ?_
        (repeat ((conv => whnf); first | (refine nx ?_; intro s) | (refine rg ?_; intro s k))); (conv => whnf)
        refine call_p (r_eqRpc (xs.getD i (dflt .rp)) (ys.getD i (dflt .rp))) rfl ⟨⟨trivial, trivial, trivial, trivial, trivial, trivial, trivial, trivial, trivial, trivial, trivial, trivial, trivial, trivial, trivial, trivial⟩, ⟨trivial, trivial, trivial, trivial, trivial, trivial, trivial, trivial, trivial, trivial, trivial, trivial, trivial, trivial, trivial, trivial⟩, trivial⟩ ?_
        (repeat ((conv => whnf); first | (refine nx ?_; intro s) | (refine rg ?_; intro s k))); (conv => whnf)
        refine need (by kernel_rfl) ?_
        have hx : xs[i]? = some (xs.getD i (dflt .rp)) := getD_some hlt _
        have hy : ys[i]? = some (ys.getD i (dflt .rp)) := getD_some (by omega) _
        (repeat ((conv => whnf); first | (refine nx ?_; intro s) | (refine rg ?_; intro s k))); (conv => whnf)
        refine cas (fun h3 => ?_) (fun h3 => ?_)
        · refine ⟨_, rfl, [], [], rfl, trivial, ⟨?_, trivial⟩, trivial, ⟨trivial, trivial⟩, trivial⟩
          show C.bool _ = C.bool _
          have hne : xs ≠ ys := by
            rintro rfl
            rw [eqB_yes rfl] at h3
            cases h3
          rw [eqB_no hne]
        · have he : xs.getD i (dflt .rp) = ys.getD i (dflt .rp) := by
            apply Classical.byContradiction
            intro hn
            rw [eqB_no hn] at h3
            cases h3
          (repeat ((conv => whnf); first | (refine nx ?_; intro s) | (refine rg ?_; intro s k))); (conv => whnf)
          refine ⟨i + 1, ⟨by omega, ?_⟩, by omega, WkF.ok (l := []) (ρ := []) ⟨rfl, trivial, ⟨rfl, rfl, ?_, trivial⟩, trivial, ⟨trivial, trivial, trivial, trivial⟩, trivial⟩⟩
          · rw [List.take_add_one, List.take_add_one, hx, hy, he, hpre]
          · show C.int _ _ = C.int _ _
            rw [wrap_i64 (by omega) (by simp only [byE] at hl; omega)]
            rfl
      · have hge : xs.length ≤ i := by simp at h2; exact h2
        refine ⟨_, rfl, [], [], rfl, trivial, ⟨?_, trivial⟩, trivial, ⟨trivial, trivial⟩, trivial⟩
        show C.bool _ = C.bool _
        rw [List.take_of_length_le hge, List.take_of_length_le (by omega)] at hpre
        rw [eqB_yes hpre]
theorem r_eqWorld (x y : Wd) : Ret Tryz.prog 31 [agL (Wd.cells x), agL (Wd.cells y)] [] (.c (.bool (eqB x y))) [] := by
  refine ret_vc hT hM Tryz.func31 rfl rfl (m := 0) (nx := 0) rfl (Nat.le_of_ble_eq_true rfl) ?_
  (repeat' ((conv => whnf); first | (refine nx ?_; intro s) | (refine rg ?_; intro s k) | ((refine cas (fun h => ?_) (fun h => ?_)) <;> (try simp [-List.getD_eq_getElem?_getD, eqB_t, eqB_f] at h)) | ((refine may (fun h => ?_) ?_) <;> (try simp [-List.getD_eq_getElem?_getD, eqB_t, eqB_f] at h)) | (refine giv fun hg => ?_; (try simp only [byE] at hg)) | (refine need (by kernel_rfl) ?_) | (refine need ⟨by omega, by omega⟩ ?_) | (refine need (by omega) ?_) | (refine need (by first | (simp; done) | (simp; omega)) ?_) | (refine call_p (r_eqNodeS x.nodes y.nodes) rfl (by (repeat' (first | exact trivial | refine ⟨?_, ?_⟩ | exact rfl | exact Or.inr rfl | exact Or.inl (Nat.le_of_ble_eq_true rfl)))) ?_) | (refine call_p (r_eqRpcS x.net y.net) rfl (by (repeat' (first | exact trivial | refine ⟨?_, ?_⟩ | exact rfl | exact Or.inr rfl | exact Or.inl (Nat.le_of_ble_eq_true rfl)))) ?_) | (refine call_p (r_eqCmdS x.chosen y.chosen) rfl (by (repeat' (first | exact trivial | refine ⟨?_, ?_⟩ | exact rfl | exact Or.inr rfl | exact Or.inl (Nat.le_of_ble_eq_true rfl)))) ?_) | (refine call_p (r_eqDoneS x.acks y.acks) rfl (by (repeat' (first | exact trivial | refine ⟨?_, ?_⟩ | exact rfl | exact Or.inr rfl | exact Or.inl (Nat.le_of_ble_eq_true rfl)))) ?_) | (refine call_p (r_eqLeadS x.led y.led) rfl (by (repeat' (first | exact trivial | refine ⟨?_, ?_⟩ | exact rfl | exact Or.inr rfl | exact Or.inl (Nat.le_of_ble_eq_true rfl)))) ?_) | (refine fin_au rfl ?_; (conv => whnf); ((repeat' (first | exact trivial | refine ⟨?_, ?_⟩ | exact rfl | exact Or.inr rfl | exact Or.inl (Nat.le_of_ble_eq_true rfl))) <;> (try (conv => whnf)) <;> (try (first | refine congrArg C.bool ?_ | refine congrArg (C.int .i64) ?_ | refine congrArg C.str ?_ | refine congrArg (fun l => some (Ob.row _ l)) ?_ | refine congrArg (fun l => some (Ob.dp _ l)) ?_ | refine congrArg (C.sl _) ?_)) <;> (try (rw [wrap_i64 (by omega) (by omega)]; first | rfl | omega)))) | (refine WkF.au ?_; (conv => whnf); ((repeat' (first | exact trivial | refine ⟨?_, ?_⟩ | exact rfl | exact Or.inr rfl | exact Or.inl (Nat.le_of_ble_eq_true rfl))) <;> (try (conv => whnf)) <;> (try (first | refine congrArg C.bool ?_ | refine congrArg (C.int .i64) ?_ | refine congrArg C.str ?_ | refine congrArg (fun l => some (Ob.row _ l)) ?_ | refine congrArg (fun l => some (Ob.dp _ l)) ?_ | refine congrArg (C.sl _) ?_)) <;> (try (rw [wrap_i64 (by omega) (by omega)]; first | rfl | omega)))) | (refine altl ?_) | fail))
  all_goals first
    | exact (eqB_no (by rintro rfl; simp_all)).symm
    | exact (eqB_yes (by cases x; cases y; simp_all)).symm
end Go.Proofs.YthbpdhppelaihaaGreat
