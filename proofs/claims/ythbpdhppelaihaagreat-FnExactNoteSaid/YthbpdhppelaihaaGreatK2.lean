/- Marks of flat rows, and what holds them. Conditions: none. By program (gen5.py). -/
import Derived.Test.YthbpdhppelaihaaGreatK1
set_option linter.unusedVariables false
set_option linter.unusedSimpArgs false
namespace Go.Proofs.YthbpdhppelaihaaGreat
open Go.RowKit
attribute [local irreducible] Tri Weak
set_option maxRecDepth 4000
set_option maxHeartbeats 4000000
def fPr (k : Int) (_ : Pr) : Pr := ⟨k, k + 1⟩
theorem r_markPairS (xs : List Pr) (q : Int) (h0 : 0 ≤ q) (h1 : q + cnG (cK 2) xs ≤ 4611686018427387904) : Ret Tryz.prog 15 [.rw 0, aI q] [(0, .row .pr xs)] (aI (q + cnG (cK 2) xs)) [(0, .row .pr (mkG fPr (cK 2) q xs))] := by
  refine ret_vc hT hM Tryz.func15 rfl rfl (m := 1) (nx := 1) rfl (Nat.le_of_ble_eq_true rfl) ?_
  (repeat ((conv => whnf); first | (refine nx ?_; intro s) | (refine rg ?_; intro s k))); (conv => whnf)
  refine Tri.loop (fun i : Nat => ⟨[(0, .rw 0), (1, aI (q + cnG (cK 2) (xs.take i))), (5, aI i)], [(0, .row .pr (mkR fPr (cK 2) q xs i))], 1⟩) (fun i => i ≤ xs.length) (fun i => xs.length - i) 0 (Nat.zero_le _) ?_ ?_
  · (refine WkF.au ?_; (conv => whnf); ((repeat' (first | exact trivial | refine ⟨?_, ?_⟩ | exact rfl | exact Or.inr rfl | exact Or.inl (Nat.le_of_ble_eq_true rfl))) <;> (try (conv => whnf)) <;> (try (first | refine congrArg C.bool ?_ | refine congrArg (C.int .i64) ?_ | refine congrArg C.str ?_ | refine congrArg (fun l => some (Ob.row _ l)) ?_ | refine congrArg (fun l => some (Ob.dp _ l)) ?_ | refine congrArg (C.sl _) ?_)) <;> (try (rw [wrap_i64 (by omega) (by omega)]; first | rfl | omega))))
    all_goals first | (simp [cnG]; done) | exact (mkR_zero _ _).symm
  · intro i hi
    have hp := cnG_pos (c := cK (α := Pr) 2) (cK_pos (by decide)) (xs.take i)
    have hq2 := cnG_take (c := cK (α := Pr) 2) (cK_pos (by decide)) xs i
    have hq3 := cnG_take (c := cK (α := Pr) 2) (cK_pos (by decide)) xs (i + 1)
    have hn : i < xs.length → cnG (cK 2) (xs.take (i + 1)) = cnG (cK 2) (xs.take i) + 2 := fun h => cnG_succ xs i (dflt .pr) h
    refine vc_sound hT hM _ _ _ ?_
    (repeat' ((conv => whnf); first | (refine nx ?_; intro s) | (refine rg ?_; intro s k) | ((refine cas (fun h => ?_) (fun h => ?_)) <;> (try simp [-List.getD_eq_getElem?_getD, t3] at h)) | ((refine may (fun h => ?_) ?_) <;> (try simp [-List.getD_eq_getElem?_getD, t3] at h)) | (refine giv fun hg => ?_; (try simp only [byE] at hg)) | (refine need (by kernel_rfl) ?_) | (refine need ⟨by omega, by omega⟩ ?_) | (refine need (by omega) ?_) | (refine need (by first | (simp; done) | (simp; omega)) ?_) | (refine ⟨(i + 1 : Nat), ?_, ?_, ?_⟩) | (refine fin_au rfl ?_; (conv => whnf); ((repeat' (first | exact trivial | refine ⟨?_, ?_⟩ | exact rfl | exact Or.inr rfl | exact Or.inl (Nat.le_of_ble_eq_true rfl))) <;> (try (conv => whnf)) <;> (try (first | refine congrArg C.bool ?_ | refine congrArg (C.int .i64) ?_ | refine congrArg C.str ?_ | refine congrArg (fun l => some (Ob.row _ l)) ?_ | refine congrArg (fun l => some (Ob.dp _ l)) ?_ | refine congrArg (C.sl _) ?_)) <;> (try (rw [wrap_i64 (by omega) (by omega)]; first | rfl | omega)))) | (refine WkF.au ?_; (conv => whnf); ((repeat' (first | exact trivial | refine ⟨?_, ?_⟩ | exact rfl | exact Or.inr rfl | exact Or.inl (Nat.le_of_ble_eq_true rfl))) <;> (try (conv => whnf)) <;> (try (first | refine congrArg C.bool ?_ | refine congrArg (C.int .i64) ?_ | refine congrArg C.str ?_ | refine congrArg (fun l => some (Ob.row _ l)) ?_ | refine congrArg (fun l => some (Ob.dp _ l)) ?_ | refine congrArg (C.sl _) ?_)) <;> (try (rw [wrap_i64 (by omega) (by omega)]; first | rfl | omega)))) | (refine altl ?_) | fail))
    all_goals (try simp only [mkR_len, mkG_len, List.length_set] at hg)
    all_goals first
      | omega
      | exact mkR_all q (by omega)
      | (rw [cnG_all (by omega)]; done)
      | ((simp (disch := omega) only [wrap_i64]); omega)
      | (have hl : i < xs.length := by omega
         simp (disch := (first | omega | (simp; omega))) only [Int.toNat_natCast, set_getD, List.set_set, wrap_i64, mkR_len, List.length_set]
         rw [← mkR_set xs q i (dflt .pr) hl]
         first | rfl | (refine congrArg (fun y => (mkR fPr (cK 2) q xs i).set i y) ?_; simp [t3, fPr, mkE, C.n, C.b, spl, cells]))
theorem r_heldPairS (xs : List Pr) (q : Int) (h0 : 0 ≤ q) (h1 : q + cnG (cK 2) xs ≤ 4611686018427387904) : Ret Tryz.prog 66 [aL .pr (mkG fPr (cK 2) q xs), aI q] [] (aI (q + cnG (cK 2) xs)) [] := by
  refine ret_vc hT hM Tryz.func66 rfl rfl (m := 0) (nx := 0) rfl (Nat.le_of_ble_eq_true rfl) ?_
  (repeat ((conv => whnf); first | (refine nx ?_; intro s) | (refine rg ?_; intro s k))); (conv => whnf)
  refine Tri.loop (fun i : Nat => ⟨[(0, aL .pr (mkG fPr (cK 2) q xs)), (1, aI (q + cnG (cK 2) (xs.take i))), (5, aI i)], [], 0⟩) (fun i => i ≤ xs.length) (fun i => xs.length - i) 0 (Nat.zero_le _) ?_ ?_
  · (refine WkF.au ?_; (conv => whnf); ((repeat' (first | exact trivial | refine ⟨?_, ?_⟩ | exact rfl | exact Or.inr rfl | exact Or.inl (Nat.le_of_ble_eq_true rfl))) <;> (try (conv => whnf)) <;> (try (first | refine congrArg C.bool ?_ | refine congrArg (C.int .i64) ?_ | refine congrArg C.str ?_ | refine congrArg (fun l => some (Ob.row _ l)) ?_ | refine congrArg (fun l => some (Ob.dp _ l)) ?_ | refine congrArg (C.sl _) ?_)) <;> (try (rw [wrap_i64 (by omega) (by omega)]; first | rfl | omega))))
    all_goals (simp [cnG]; done)
  · intro i hi
    have hp := cnG_pos (c := cK (α := Pr) 2) (cK_pos (by decide)) (xs.take i)
    have hq2 := cnG_take (c := cK (α := Pr) 2) (cK_pos (by decide)) xs i
    have hq3 := cnG_take (c := cK (α := Pr) 2) (cK_pos (by decide)) xs (i + 1)
    have hn : i < xs.length → cnG (cK 2) (xs.take (i + 1)) = cnG (cK 2) (xs.take i) + 2 := fun h => cnG_succ xs i (dflt .pr) h
    rcases Nat.lt_or_ge i xs.length with hl | hl
    · have he := mkG_getD (f := fPr) (c := cK 2) xs q i (dflt .pr) hl
      refine vc_sound hT hM _ _ _ ?_
      (repeat' ((conv => whnf); first | (refine nx ?_; intro s) | (refine rg ?_; intro s k) | ((refine cas (fun h => ?_) (fun h => ?_)) <;> (try simp [-List.getD_eq_getElem?_getD, he, fPr, t3] at h)) | ((refine may (fun h => ?_) ?_) <;> (try simp [-List.getD_eq_getElem?_getD, he, fPr, t3] at h)) | (refine giv fun hg => ?_; (try simp only [byE] at hg)) | (refine need (by kernel_rfl) ?_) | (refine need ⟨by omega, by omega⟩ ?_) | (refine need (by omega) ?_) | (refine need (by first | (simp; done) | (simp; omega)) ?_) | (refine ⟨(i + 1 : Nat), ?_, ?_, ?_⟩) | (refine fin_au rfl ?_; (conv => whnf); ((repeat' (first | exact trivial | refine ⟨?_, ?_⟩ | exact rfl | exact Or.inr rfl | exact Or.inl (Nat.le_of_ble_eq_true rfl))) <;> (try (conv => whnf)) <;> (try (first | refine congrArg C.bool ?_ | refine congrArg (C.int .i64) ?_ | refine congrArg C.str ?_ | refine congrArg (fun l => some (Ob.row _ l)) ?_ | refine congrArg (fun l => some (Ob.dp _ l)) ?_ | refine congrArg (C.sl _) ?_)) <;> (try (rw [wrap_i64 (by omega) (by omega)]; first | rfl | omega)))) | (refine WkF.au ?_; (conv => whnf); ((repeat' (first | exact trivial | refine ⟨?_, ?_⟩ | exact rfl | exact Or.inr rfl | exact Or.inl (Nat.le_of_ble_eq_true rfl))) <;> (try (conv => whnf)) <;> (try (first | refine congrArg C.bool ?_ | refine congrArg (C.int .i64) ?_ | refine congrArg C.str ?_ | refine congrArg (fun l => some (Ob.row _ l)) ?_ | refine congrArg (fun l => some (Ob.dp _ l)) ?_ | refine congrArg (C.sl _) ?_)) <;> (try (rw [wrap_i64 (by omega) (by omega)]; first | rfl | omega)))) | (refine altl ?_) | fail))
      all_goals (try simp only [mkR_len, mkG_len, List.length_set] at hg)
      all_goals first
        | omega
        | (exfalso; revert h; simp (disch := omega) only [wrap_i64]; simp; done)
        | (rw [hn hl]; (try simp (disch := omega) only [wrap_i64]); omega)
        | ((simp (disch := omega) only [wrap_i64]); omega)
    · refine vc_sound hT hM _ _ _ ?_
      (repeat' ((conv => whnf); first | (refine nx ?_; intro s) | (refine rg ?_; intro s k) | ((refine cas (fun h => ?_) (fun h => ?_)) <;> (try simp [-List.getD_eq_getElem?_getD] at h)) | ((refine may (fun h => ?_) ?_) <;> (try simp [-List.getD_eq_getElem?_getD] at h)) | (refine giv fun hg => ?_; (try simp only [byE] at hg)) | (refine need (by kernel_rfl) ?_) | (refine need ⟨by omega, by omega⟩ ?_) | (refine need (by omega) ?_) | (refine need (by first | (simp; done) | (simp; omega)) ?_) | (refine WkF.au ?_; (conv => whnf); ((repeat' (first | exact trivial | refine ⟨?_, ?_⟩ | exact rfl | exact Or.inr rfl | exact Or.inl (Nat.le_of_ble_eq_true rfl))) <;> (try (conv => whnf)) <;> (try (first | refine congrArg C.bool ?_ | refine congrArg (C.int .i64) ?_ | refine congrArg C.str ?_ | refine congrArg (fun l => some (Ob.row _ l)) ?_ | refine congrArg (fun l => some (Ob.dp _ l)) ?_ | refine congrArg (C.sl _) ?_)) <;> (try (rw [wrap_i64 (by omega) (by omega)]; first | rfl | omega)))) | (refine altl ?_) | fail))
      all_goals first | (exfalso; omega) | ((refine fin_au rfl ?_; (conv => whnf); ((repeat' (first | exact trivial | refine ⟨?_, ?_⟩ | exact rfl | exact Or.inr rfl | exact Or.inl (Nat.le_of_ble_eq_true rfl))) <;> (try (conv => whnf)) <;> (try (first | refine congrArg C.bool ?_ | refine congrArg (C.int .i64) ?_ | refine congrArg C.str ?_ | refine congrArg (fun l => some (Ob.row _ l)) ?_ | refine congrArg (fun l => some (Ob.dp _ l)) ?_ | refine congrArg (C.sl _) ?_)) <;> (try (rw [wrap_i64 (by omega) (by omega)]; first | rfl | omega)))); rw [cnG_all (by omega)])
def fInt (k : Int) (_ : Int) : Int := k
theorem r_markIntS (xs : List Int) (q : Int) (h0 : 0 ≤ q) (h1 : q + cnG (cK 1) xs ≤ 4611686018427387904) : Ret Tryz.prog 63 [.rw 0, aI q] [(0, .row .int xs)] (aI (q + cnG (cK 1) xs)) [(0, .row .int (mkG fInt (cK 1) q xs))] := by
  refine ret_vc hT hM Tryz.func63 rfl rfl (m := 1) (nx := 1) rfl (Nat.le_of_ble_eq_true rfl) ?_
  (repeat ((conv => whnf); first | (refine nx ?_; intro s) | (refine rg ?_; intro s k))); (conv => whnf)
  refine Tri.loop (fun i : Nat => ⟨[(0, .rw 0), (1, aI (q + cnG (cK 1) (xs.take i))), (5, aI i)], [(0, .row .int (mkR fInt (cK 1) q xs i))], 1⟩) (fun i => i ≤ xs.length) (fun i => xs.length - i) 0 (Nat.zero_le _) ?_ ?_
  · (refine WkF.au ?_; (conv => whnf); ((repeat' (first | exact trivial | refine ⟨?_, ?_⟩ | exact rfl | exact Or.inr rfl | exact Or.inl (Nat.le_of_ble_eq_true rfl))) <;> (try (conv => whnf)) <;> (try (first | refine congrArg C.bool ?_ | refine congrArg (C.int .i64) ?_ | refine congrArg C.str ?_ | refine congrArg (fun l => some (Ob.row _ l)) ?_ | refine congrArg (fun l => some (Ob.dp _ l)) ?_ | refine congrArg (C.sl _) ?_)) <;> (try (rw [wrap_i64 (by omega) (by omega)]; first | rfl | omega))))
    all_goals first | (simp [cnG]; done) | exact (mkR_zero _ _).symm
  · intro i hi
    have hp := cnG_pos (c := cK (α := Int) 1) (cK_pos (by decide)) (xs.take i)
    have hq2 := cnG_take (c := cK (α := Int) 1) (cK_pos (by decide)) xs i
    have hq3 := cnG_take (c := cK (α := Int) 1) (cK_pos (by decide)) xs (i + 1)
    have hn : i < xs.length → cnG (cK 1) (xs.take (i + 1)) = cnG (cK 1) (xs.take i) + 1 := fun h => cnG_succ xs i (dflt .int) h
    refine vc_sound hT hM _ _ _ ?_
    (repeat' ((conv => whnf); first | (refine nx ?_; intro s) | (refine rg ?_; intro s k) | ((refine cas (fun h => ?_) (fun h => ?_)) <;> (try simp [-List.getD_eq_getElem?_getD, t3] at h)) | ((refine may (fun h => ?_) ?_) <;> (try simp [-List.getD_eq_getElem?_getD, t3] at h)) | (refine giv fun hg => ?_; (try simp only [byE] at hg)) | (refine need (by kernel_rfl) ?_) | (refine need ⟨by omega, by omega⟩ ?_) | (refine need (by omega) ?_) | (refine need (by first | (simp; done) | (simp; omega)) ?_) | (refine ⟨(i + 1 : Nat), ?_, ?_, ?_⟩) | (refine fin_au rfl ?_; (conv => whnf); ((repeat' (first | exact trivial | refine ⟨?_, ?_⟩ | exact rfl | exact Or.inr rfl | exact Or.inl (Nat.le_of_ble_eq_true rfl))) <;> (try (conv => whnf)) <;> (try (first | refine congrArg C.bool ?_ | refine congrArg (C.int .i64) ?_ | refine congrArg C.str ?_ | refine congrArg (fun l => some (Ob.row _ l)) ?_ | refine congrArg (fun l => some (Ob.dp _ l)) ?_ | refine congrArg (C.sl _) ?_)) <;> (try (rw [wrap_i64 (by omega) (by omega)]; first | rfl | omega)))) | (refine WkF.au ?_; (conv => whnf); ((repeat' (first | exact trivial | refine ⟨?_, ?_⟩ | exact rfl | exact Or.inr rfl | exact Or.inl (Nat.le_of_ble_eq_true rfl))) <;> (try (conv => whnf)) <;> (try (first | refine congrArg C.bool ?_ | refine congrArg (C.int .i64) ?_ | refine congrArg C.str ?_ | refine congrArg (fun l => some (Ob.row _ l)) ?_ | refine congrArg (fun l => some (Ob.dp _ l)) ?_ | refine congrArg (C.sl _) ?_)) <;> (try (rw [wrap_i64 (by omega) (by omega)]; first | rfl | omega)))) | (refine altl ?_) | fail))
    all_goals (try simp only [mkR_len, mkG_len, List.length_set] at hg)
    all_goals first
      | omega
      | exact mkR_all q (by omega)
      | (rw [cnG_all (by omega)]; done)
      | ((simp (disch := omega) only [wrap_i64]); omega)
      | (have hl : i < xs.length := by omega
         simp (disch := (first | omega | (simp; omega))) only [Int.toNat_natCast, set_getD, List.set_set, wrap_i64, mkR_len, List.length_set]
         rw [← mkR_set xs q i (dflt .int) hl]
         first | rfl | (refine congrArg (fun y => (mkR fInt (cK 1) q xs i).set i y) ?_; simp [t3, fInt, mkE, C.n, C.b, spl, cells]))
theorem r_heldIntS (xs : List Int) (q : Int) (h0 : 0 ≤ q) (h1 : q + cnG (cK 1) xs ≤ 4611686018427387904) : Ret Tryz.prog 67 [aL .int (mkG fInt (cK 1) q xs), aI q] [] (aI (q + cnG (cK 1) xs)) [] := by
  refine ret_vc hT hM Tryz.func67 rfl rfl (m := 0) (nx := 0) rfl (Nat.le_of_ble_eq_true rfl) ?_
  (repeat ((conv => whnf); first | (refine nx ?_; intro s) | (refine rg ?_; intro s k))); (conv => whnf)
  refine Tri.loop (fun i : Nat => ⟨[(0, aL .int (mkG fInt (cK 1) q xs)), (1, aI (q + cnG (cK 1) (xs.take i))), (5, aI i)], [], 0⟩) (fun i => i ≤ xs.length) (fun i => xs.length - i) 0 (Nat.zero_le _) ?_ ?_
  · (refine WkF.au ?_; (conv => whnf); ((repeat' (first | exact trivial | refine ⟨?_, ?_⟩ | exact rfl | exact Or.inr rfl | exact Or.inl (Nat.le_of_ble_eq_true rfl))) <;> (try (conv => whnf)) <;> (try (first | refine congrArg C.bool ?_ | refine congrArg (C.int .i64) ?_ | refine congrArg C.str ?_ | refine congrArg (fun l => some (Ob.row _ l)) ?_ | refine congrArg (fun l => some (Ob.dp _ l)) ?_ | refine congrArg (C.sl _) ?_)) <;> (try (rw [wrap_i64 (by omega) (by omega)]; first | rfl | omega))))
    all_goals (simp [cnG]; done)
  · intro i hi
    have hp := cnG_pos (c := cK (α := Int) 1) (cK_pos (by decide)) (xs.take i)
    have hq2 := cnG_take (c := cK (α := Int) 1) (cK_pos (by decide)) xs i
    have hq3 := cnG_take (c := cK (α := Int) 1) (cK_pos (by decide)) xs (i + 1)
    have hn : i < xs.length → cnG (cK 1) (xs.take (i + 1)) = cnG (cK 1) (xs.take i) + 1 := fun h => cnG_succ xs i (dflt .int) h
    rcases Nat.lt_or_ge i xs.length with hl | hl
    · have he := mkG_getD (f := fInt) (c := cK 1) xs q i (dflt .int) hl
      refine vc_sound hT hM _ _ _ ?_
      (repeat' ((conv => whnf); first | (refine nx ?_; intro s) | (refine rg ?_; intro s k) | ((refine cas (fun h => ?_) (fun h => ?_)) <;> (try simp [-List.getD_eq_getElem?_getD, he, fInt, t3] at h)) | ((refine may (fun h => ?_) ?_) <;> (try simp [-List.getD_eq_getElem?_getD, he, fInt, t3] at h)) | (refine giv fun hg => ?_; (try simp only [byE] at hg)) | (refine need (by kernel_rfl) ?_) | (refine need ⟨by omega, by omega⟩ ?_) | (refine need (by omega) ?_) | (refine need (by first | (simp; done) | (simp; omega)) ?_) | (refine ⟨(i + 1 : Nat), ?_, ?_, ?_⟩) | (refine fin_au rfl ?_; (conv => whnf); ((repeat' (first | exact trivial | refine ⟨?_, ?_⟩ | exact rfl | exact Or.inr rfl | exact Or.inl (Nat.le_of_ble_eq_true rfl))) <;> (try (conv => whnf)) <;> (try (first | refine congrArg C.bool ?_ | refine congrArg (C.int .i64) ?_ | refine congrArg C.str ?_ | refine congrArg (fun l => some (Ob.row _ l)) ?_ | refine congrArg (fun l => some (Ob.dp _ l)) ?_ | refine congrArg (C.sl _) ?_)) <;> (try (rw [wrap_i64 (by omega) (by omega)]; first | rfl | omega)))) | (refine WkF.au ?_; (conv => whnf); ((repeat' (first | exact trivial | refine ⟨?_, ?_⟩ | exact rfl | exact Or.inr rfl | exact Or.inl (Nat.le_of_ble_eq_true rfl))) <;> (try (conv => whnf)) <;> (try (first | refine congrArg C.bool ?_ | refine congrArg (C.int .i64) ?_ | refine congrArg C.str ?_ | refine congrArg (fun l => some (Ob.row _ l)) ?_ | refine congrArg (fun l => some (Ob.dp _ l)) ?_ | refine congrArg (C.sl _) ?_)) <;> (try (rw [wrap_i64 (by omega) (by omega)]; first | rfl | omega)))) | (refine altl ?_) | fail))
      all_goals (try simp only [mkR_len, mkG_len, List.length_set] at hg)
      all_goals first
        | omega
        | (exfalso; revert h; simp (disch := omega) only [wrap_i64]; simp; done)
        | (rw [hn hl]; (try simp (disch := omega) only [wrap_i64]); omega)
        | ((simp (disch := omega) only [wrap_i64]); omega)
    · refine vc_sound hT hM _ _ _ ?_
      (repeat' ((conv => whnf); first | (refine nx ?_; intro s) | (refine rg ?_; intro s k) | ((refine cas (fun h => ?_) (fun h => ?_)) <;> (try simp [-List.getD_eq_getElem?_getD] at h)) | ((refine may (fun h => ?_) ?_) <;> (try simp [-List.getD_eq_getElem?_getD] at h)) | (refine giv fun hg => ?_; (try simp only [byE] at hg)) | (refine need (by kernel_rfl) ?_) | (refine need ⟨by omega, by omega⟩ ?_) | (refine need (by omega) ?_) | (refine need (by first | (simp; done) | (simp; omega)) ?_) | (refine WkF.au ?_; (conv => whnf); ((repeat' (first | exact trivial | refine ⟨?_, ?_⟩ | exact rfl | exact Or.inr rfl | exact Or.inl (Nat.le_of_ble_eq_true rfl))) <;> (try (conv => whnf)) <;> (try (first | refine congrArg C.bool ?_ | refine congrArg (C.int .i64) ?_ | refine congrArg C.str ?_ | refine congrArg (fun l => some (Ob.row _ l)) ?_ | refine congrArg (fun l => some (Ob.dp _ l)) ?_ | refine congrArg (C.sl _) ?_)) <;> (try (rw [wrap_i64 (by omega) (by omega)]; first | rfl | omega)))) | (refine altl ?_) | fail))
      all_goals first | (exfalso; omega) | ((refine fin_au rfl ?_; (conv => whnf); ((repeat' (first | exact trivial | refine ⟨?_, ?_⟩ | exact rfl | exact Or.inr rfl | exact Or.inl (Nat.le_of_ble_eq_true rfl))) <;> (try (conv => whnf)) <;> (try (first | refine congrArg C.bool ?_ | refine congrArg (C.int .i64) ?_ | refine congrArg C.str ?_ | refine congrArg (fun l => some (Ob.row _ l)) ?_ | refine congrArg (fun l => some (Ob.dp _ l)) ?_ | refine congrArg (C.sl _) ?_)) <;> (try (rw [wrap_i64 (by omega) (by omega)]; first | rfl | omega)))); rw [cnG_all (by omega)])
def fMs (k : Int) (_ : Ms) : Ms := ⟨k, k + 1, k + 1 + 1⟩
theorem r_markMsgS (xs : List Ms) (q : Int) (h0 : 0 ≤ q) (h1 : q + cnG (cK 3) xs ≤ 4611686018427387904) : Ret Tryz.prog 65 [.rw 0, aI q] [(0, .row .ms xs)] (aI (q + cnG (cK 3) xs)) [(0, .row .ms (mkG fMs (cK 3) q xs))] := by
  refine ret_vc hT hM Tryz.func65 rfl rfl (m := 1) (nx := 1) rfl (Nat.le_of_ble_eq_true rfl) ?_
  (repeat ((conv => whnf); first | (refine nx ?_; intro s) | (refine rg ?_; intro s k))); (conv => whnf)
  refine Tri.loop (fun i : Nat => ⟨[(0, .rw 0), (1, aI (q + cnG (cK 3) (xs.take i))), (5, aI i)], [(0, .row .ms (mkR fMs (cK 3) q xs i))], 1⟩) (fun i => i ≤ xs.length) (fun i => xs.length - i) 0 (Nat.zero_le _) ?_ ?_
  · (refine WkF.au ?_; (conv => whnf); ((repeat' (first | exact trivial | refine ⟨?_, ?_⟩ | exact rfl | exact Or.inr rfl | exact Or.inl (Nat.le_of_ble_eq_true rfl))) <;> (try (conv => whnf)) <;> (try (first | refine congrArg C.bool ?_ | refine congrArg (C.int .i64) ?_ | refine congrArg C.str ?_ | refine congrArg (fun l => some (Ob.row _ l)) ?_ | refine congrArg (fun l => some (Ob.dp _ l)) ?_ | refine congrArg (C.sl _) ?_)) <;> (try (rw [wrap_i64 (by omega) (by omega)]; first | rfl | omega))))
    all_goals first | (simp [cnG]; done) | exact (mkR_zero _ _).symm
  · intro i hi
    have hp := cnG_pos (c := cK (α := Ms) 3) (cK_pos (by decide)) (xs.take i)
    have hq2 := cnG_take (c := cK (α := Ms) 3) (cK_pos (by decide)) xs i
    have hq3 := cnG_take (c := cK (α := Ms) 3) (cK_pos (by decide)) xs (i + 1)
    have hn : i < xs.length → cnG (cK 3) (xs.take (i + 1)) = cnG (cK 3) (xs.take i) + 3 := fun h => cnG_succ xs i (dflt .ms) h
    refine vc_sound hT hM _ _ _ ?_
    (repeat' ((conv => whnf); first | (refine nx ?_; intro s) | (refine rg ?_; intro s k) | ((refine cas (fun h => ?_) (fun h => ?_)) <;> (try simp [-List.getD_eq_getElem?_getD, t3] at h)) | ((refine may (fun h => ?_) ?_) <;> (try simp [-List.getD_eq_getElem?_getD, t3] at h)) | (refine giv fun hg => ?_; (try simp only [byE] at hg)) | (refine need (by kernel_rfl) ?_) | (refine need ⟨by omega, by omega⟩ ?_) | (refine need (by omega) ?_) | (refine need (by first | (simp; done) | (simp; omega)) ?_) | (refine ⟨(i + 1 : Nat), ?_, ?_, ?_⟩) | (refine fin_au rfl ?_; (conv => whnf); ((repeat' (first | exact trivial | refine ⟨?_, ?_⟩ | exact rfl | exact Or.inr rfl | exact Or.inl (Nat.le_of_ble_eq_true rfl))) <;> (try (conv => whnf)) <;> (try (first | refine congrArg C.bool ?_ | refine congrArg (C.int .i64) ?_ | refine congrArg C.str ?_ | refine congrArg (fun l => some (Ob.row _ l)) ?_ | refine congrArg (fun l => some (Ob.dp _ l)) ?_ | refine congrArg (C.sl _) ?_)) <;> (try (rw [wrap_i64 (by omega) (by omega)]; first | rfl | omega)))) | (refine WkF.au ?_; (conv => whnf); ((repeat' (first | exact trivial | refine ⟨?_, ?_⟩ | exact rfl | exact Or.inr rfl | exact Or.inl (Nat.le_of_ble_eq_true rfl))) <;> (try (conv => whnf)) <;> (try (first | refine congrArg C.bool ?_ | refine congrArg (C.int .i64) ?_ | refine congrArg C.str ?_ | refine congrArg (fun l => some (Ob.row _ l)) ?_ | refine congrArg (fun l => some (Ob.dp _ l)) ?_ | refine congrArg (C.sl _) ?_)) <;> (try (rw [wrap_i64 (by omega) (by omega)]; first | rfl | omega)))) | (refine altl ?_) | fail))
    all_goals (try simp only [mkR_len, mkG_len, List.length_set] at hg)
    all_goals first
      | omega
      | exact mkR_all q (by omega)
      | (rw [cnG_all (by omega)]; done)
      | ((simp (disch := omega) only [wrap_i64]); omega)
      | (have hl : i < xs.length := by omega
         simp (disch := (first | omega | (simp; omega))) only [Int.toNat_natCast, set_getD, List.set_set, wrap_i64, mkR_len, List.length_set]
         rw [← mkR_set xs q i (dflt .ms) hl]
         first | rfl | (refine congrArg (fun y => (mkR fMs (cK 3) q xs i).set i y) ?_; simp [t3, fMs, mkE, C.n, C.b, spl, cells]))
theorem r_heldMsgS (xs : List Ms) (q : Int) (h0 : 0 ≤ q) (h1 : q + cnG (cK 3) xs ≤ 4611686018427387904) : Ret Tryz.prog 69 [aL .ms (mkG fMs (cK 3) q xs), aI q] [] (aI (q + cnG (cK 3) xs)) [] := by
  refine ret_vc hT hM Tryz.func69 rfl rfl (m := 0) (nx := 0) rfl (Nat.le_of_ble_eq_true rfl) ?_
  (repeat ((conv => whnf); first | (refine nx ?_; intro s) | (refine rg ?_; intro s k))); (conv => whnf)
  refine Tri.loop (fun i : Nat => ⟨[(0, aL .ms (mkG fMs (cK 3) q xs)), (1, aI (q + cnG (cK 3) (xs.take i))), (5, aI i)], [], 0⟩) (fun i => i ≤ xs.length) (fun i => xs.length - i) 0 (Nat.zero_le _) ?_ ?_
  · (refine WkF.au ?_; (conv => whnf); ((repeat' (first | exact trivial | refine ⟨?_, ?_⟩ | exact rfl | exact Or.inr rfl | exact Or.inl (Nat.le_of_ble_eq_true rfl))) <;> (try (conv => whnf)) <;> (try (first | refine congrArg C.bool ?_ | refine congrArg (C.int .i64) ?_ | refine congrArg C.str ?_ | refine congrArg (fun l => some (Ob.row _ l)) ?_ | refine congrArg (fun l => some (Ob.dp _ l)) ?_ | refine congrArg (C.sl _) ?_)) <;> (try (rw [wrap_i64 (by omega) (by omega)]; first | rfl | omega))))
    all_goals (simp [cnG]; done)
  · intro i hi
    have hp := cnG_pos (c := cK (α := Ms) 3) (cK_pos (by decide)) (xs.take i)
    have hq2 := cnG_take (c := cK (α := Ms) 3) (cK_pos (by decide)) xs i
    have hq3 := cnG_take (c := cK (α := Ms) 3) (cK_pos (by decide)) xs (i + 1)
    have hn : i < xs.length → cnG (cK 3) (xs.take (i + 1)) = cnG (cK 3) (xs.take i) + 3 := fun h => cnG_succ xs i (dflt .ms) h
    rcases Nat.lt_or_ge i xs.length with hl | hl
    · have he := mkG_getD (f := fMs) (c := cK 3) xs q i (dflt .ms) hl
      refine vc_sound hT hM _ _ _ ?_
      (repeat' ((conv => whnf); first | (refine nx ?_; intro s) | (refine rg ?_; intro s k) | ((refine cas (fun h => ?_) (fun h => ?_)) <;> (try simp [-List.getD_eq_getElem?_getD, he, fMs, t3] at h)) | ((refine may (fun h => ?_) ?_) <;> (try simp [-List.getD_eq_getElem?_getD, he, fMs, t3] at h)) | (refine giv fun hg => ?_; (try simp only [byE] at hg)) | (refine need (by kernel_rfl) ?_) | (refine need ⟨by omega, by omega⟩ ?_) | (refine need (by omega) ?_) | (refine need (by first | (simp; done) | (simp; omega)) ?_) | (refine ⟨(i + 1 : Nat), ?_, ?_, ?_⟩) | (refine fin_au rfl ?_; (conv => whnf); ((repeat' (first | exact trivial | refine ⟨?_, ?_⟩ | exact rfl | exact Or.inr rfl | exact Or.inl (Nat.le_of_ble_eq_true rfl))) <;> (try (conv => whnf)) <;> (try (first | refine congrArg C.bool ?_ | refine congrArg (C.int .i64) ?_ | refine congrArg C.str ?_ | refine congrArg (fun l => some (Ob.row _ l)) ?_ | refine congrArg (fun l => some (Ob.dp _ l)) ?_ | refine congrArg (C.sl _) ?_)) <;> (try (rw [wrap_i64 (by omega) (by omega)]; first | rfl | omega)))) | (refine WkF.au ?_; (conv => whnf); ((repeat' (first | exact trivial | refine ⟨?_, ?_⟩ | exact rfl | exact Or.inr rfl | exact Or.inl (Nat.le_of_ble_eq_true rfl))) <;> (try (conv => whnf)) <;> (try (first | refine congrArg C.bool ?_ | refine congrArg (C.int .i64) ?_ | refine congrArg C.str ?_ | refine congrArg (fun l => some (Ob.row _ l)) ?_ | refine congrArg (fun l => some (Ob.dp _ l)) ?_ | refine congrArg (C.sl _) ?_)) <;> (try (rw [wrap_i64 (by omega) (by omega)]; first | rfl | omega)))) | (refine altl ?_) | fail))
      all_goals (try simp only [mkR_len, mkG_len, List.length_set] at hg)
      all_goals first
        | omega
        | (exfalso; revert h; simp (disch := omega) only [wrap_i64]; simp; done)
        | (rw [hn hl]; (try simp (disch := omega) only [wrap_i64]); omega)
        | ((simp (disch := omega) only [wrap_i64]); omega)
    · refine vc_sound hT hM _ _ _ ?_
      (repeat' ((conv => whnf); first | (refine nx ?_; intro s) | (refine rg ?_; intro s k) | ((refine cas (fun h => ?_) (fun h => ?_)) <;> (try simp [-List.getD_eq_getElem?_getD] at h)) | ((refine may (fun h => ?_) ?_) <;> (try simp [-List.getD_eq_getElem?_getD] at h)) | (refine giv fun hg => ?_; (try simp only [byE] at hg)) | (refine need (by kernel_rfl) ?_) | (refine need ⟨by omega, by omega⟩ ?_) | (refine need (by omega) ?_) | (refine need (by first | (simp; done) | (simp; omega)) ?_) | (refine WkF.au ?_; (conv => whnf); ((repeat' (first | exact trivial | refine ⟨?_, ?_⟩ | exact rfl | exact Or.inr rfl | exact Or.inl (Nat.le_of_ble_eq_true rfl))) <;> (try (conv => whnf)) <;> (try (first | refine congrArg C.bool ?_ | refine congrArg (C.int .i64) ?_ | refine congrArg C.str ?_ | refine congrArg (fun l => some (Ob.row _ l)) ?_ | refine congrArg (fun l => some (Ob.dp _ l)) ?_ | refine congrArg (C.sl _) ?_)) <;> (try (rw [wrap_i64 (by omega) (by omega)]; first | rfl | omega)))) | (refine altl ?_) | fail))
      all_goals first | (exfalso; omega) | ((refine fin_au rfl ?_; (conv => whnf); ((repeat' (first | exact trivial | refine ⟨?_, ?_⟩ | exact rfl | exact Or.inr rfl | exact Or.inl (Nat.le_of_ble_eq_true rfl))) <;> (try (conv => whnf)) <;> (try (first | refine congrArg C.bool ?_ | refine congrArg (C.int .i64) ?_ | refine congrArg C.str ?_ | refine congrArg (fun l => some (Ob.row _ l)) ?_ | refine congrArg (fun l => some (Ob.dp _ l)) ?_ | refine congrArg (C.sl _) ?_)) <;> (try (rw [wrap_i64 (by omega) (by omega)]; first | rfl | omega)))); rw [cnG_all (by omega)])
def fBool (k : Int) (_ : Bool) : Bool := t3 k
theorem r_markBoolS (xs : List Bool) (q : Int) (h0 : 0 ≤ q) (h1 : q + cnG (cK 1) xs ≤ 4611686018427387904) : Ret Tryz.prog 131 [.rw 0, aI q] [(0, .row .bool xs)] (aI (q + cnG (cK 1) xs)) [(0, .row .bool (mkG fBool (cK 1) q xs))] := by
  refine ret_vc hT hM Tryz.func131 rfl rfl (m := 1) (nx := 1) rfl (Nat.le_of_ble_eq_true rfl) ?_
  (repeat ((conv => whnf); first | (refine nx ?_; intro s) | (refine rg ?_; intro s k))); (conv => whnf)
  refine Tri.loop (fun i : Nat => ⟨[(0, .rw 0), (1, aI (q + cnG (cK 1) (xs.take i))), (5, aI i)], [(0, .row .bool (mkR fBool (cK 1) q xs i))], 1⟩) (fun i => i ≤ xs.length) (fun i => xs.length - i) 0 (Nat.zero_le _) ?_ ?_
  · (refine WkF.au ?_; (conv => whnf); ((repeat' (first | exact trivial | refine ⟨?_, ?_⟩ | exact rfl | exact Or.inr rfl | exact Or.inl (Nat.le_of_ble_eq_true rfl))) <;> (try (conv => whnf)) <;> (try (first | refine congrArg C.bool ?_ | refine congrArg (C.int .i64) ?_ | refine congrArg C.str ?_ | refine congrArg (fun l => some (Ob.row _ l)) ?_ | refine congrArg (fun l => some (Ob.dp _ l)) ?_ | refine congrArg (C.sl _) ?_)) <;> (try (rw [wrap_i64 (by omega) (by omega)]; first | rfl | omega))))
    all_goals first | (simp [cnG]; done) | exact (mkR_zero _ _).symm
  · intro i hi
    have hp := cnG_pos (c := cK (α := Bool) 1) (cK_pos (by decide)) (xs.take i)
    have hq2 := cnG_take (c := cK (α := Bool) 1) (cK_pos (by decide)) xs i
    have hq3 := cnG_take (c := cK (α := Bool) 1) (cK_pos (by decide)) xs (i + 1)
    have hn : i < xs.length → cnG (cK 1) (xs.take (i + 1)) = cnG (cK 1) (xs.take i) + 1 := fun h => cnG_succ xs i (dflt .bool) h
    refine vc_sound hT hM _ _ _ ?_
    (repeat' ((conv => whnf); first | (refine nx ?_; intro s) | (refine rg ?_; intro s k) | ((refine cas (fun h => ?_) (fun h => ?_)) <;> (try simp [-List.getD_eq_getElem?_getD, t3] at h)) | ((refine may (fun h => ?_) ?_) <;> (try simp [-List.getD_eq_getElem?_getD, t3] at h)) | (refine giv fun hg => ?_; (try simp only [byE] at hg)) | (refine need (by kernel_rfl) ?_) | (refine need ⟨by omega, by omega⟩ ?_) | (refine need (by omega) ?_) | (refine need (by first | (simp; done) | (simp; omega)) ?_) | (refine ⟨(i + 1 : Nat), ?_, ?_, ?_⟩) | (refine fin_au rfl ?_; (conv => whnf); ((repeat' (first | exact trivial | refine ⟨?_, ?_⟩ | exact rfl | exact Or.inr rfl | exact Or.inl (Nat.le_of_ble_eq_true rfl))) <;> (try (conv => whnf)) <;> (try (first | refine congrArg C.bool ?_ | refine congrArg (C.int .i64) ?_ | refine congrArg C.str ?_ | refine congrArg (fun l => some (Ob.row _ l)) ?_ | refine congrArg (fun l => some (Ob.dp _ l)) ?_ | refine congrArg (C.sl _) ?_)) <;> (try (rw [wrap_i64 (by omega) (by omega)]; first | rfl | omega)))) | (refine WkF.au ?_; (conv => whnf); ((repeat' (first | exact trivial | refine ⟨?_, ?_⟩ | exact rfl | exact Or.inr rfl | exact Or.inl (Nat.le_of_ble_eq_true rfl))) <;> (try (conv => whnf)) <;> (try (first | refine congrArg C.bool ?_ | refine congrArg (C.int .i64) ?_ | refine congrArg C.str ?_ | refine congrArg (fun l => some (Ob.row _ l)) ?_ | refine congrArg (fun l => some (Ob.dp _ l)) ?_ | refine congrArg (C.sl _) ?_)) <;> (try (rw [wrap_i64 (by omega) (by omega)]; first | rfl | omega)))) | (refine altl ?_) | fail))
    all_goals (try simp only [mkR_len, mkG_len, List.length_set] at hg)
    all_goals first
      | omega
      | exact mkR_all q (by omega)
      | (rw [cnG_all (by omega)]; done)
      | ((simp (disch := omega) only [wrap_i64]); omega)
      | (have hl : i < xs.length := by omega
         simp (disch := (first | omega | (simp; omega))) only [Int.toNat_natCast, set_getD, List.set_set, wrap_i64, mkR_len, List.length_set]
         rw [← mkR_set xs q i (dflt .bool) hl]
         first | rfl | (refine congrArg (fun y => (mkR fBool (cK 1) q xs i).set i y) ?_; simp [t3, fBool, mkE, C.n, C.b, spl, cells]))
theorem r_heldBoolS (xs : List Bool) (q : Int) (h0 : 0 ≤ q) (h1 : q + cnG (cK 1) xs ≤ 4611686018427387904) : Ret Tryz.prog 193 [aL .bool (mkG fBool (cK 1) q xs), aI q] [] (aI (q + cnG (cK 1) xs)) [] := by
  refine ret_vc hT hM Tryz.func193 rfl rfl (m := 0) (nx := 0) rfl (Nat.le_of_ble_eq_true rfl) ?_
  (repeat ((conv => whnf); first | (refine nx ?_; intro s) | (refine rg ?_; intro s k))); (conv => whnf)
  refine Tri.loop (fun i : Nat => ⟨[(0, aL .bool (mkG fBool (cK 1) q xs)), (1, aI (q + cnG (cK 1) (xs.take i))), (5, aI i)], [], 0⟩) (fun i => i ≤ xs.length) (fun i => xs.length - i) 0 (Nat.zero_le _) ?_ ?_
  · (refine WkF.au ?_; (conv => whnf); ((repeat' (first | exact trivial | refine ⟨?_, ?_⟩ | exact rfl | exact Or.inr rfl | exact Or.inl (Nat.le_of_ble_eq_true rfl))) <;> (try (conv => whnf)) <;> (try (first | refine congrArg C.bool ?_ | refine congrArg (C.int .i64) ?_ | refine congrArg C.str ?_ | refine congrArg (fun l => some (Ob.row _ l)) ?_ | refine congrArg (fun l => some (Ob.dp _ l)) ?_ | refine congrArg (C.sl _) ?_)) <;> (try (rw [wrap_i64 (by omega) (by omega)]; first | rfl | omega))))
    all_goals (simp [cnG]; done)
  · intro i hi
    have hp := cnG_pos (c := cK (α := Bool) 1) (cK_pos (by decide)) (xs.take i)
    have hq2 := cnG_take (c := cK (α := Bool) 1) (cK_pos (by decide)) xs i
    have hq3 := cnG_take (c := cK (α := Bool) 1) (cK_pos (by decide)) xs (i + 1)
    have hn : i < xs.length → cnG (cK 1) (xs.take (i + 1)) = cnG (cK 1) (xs.take i) + 1 := fun h => cnG_succ xs i (dflt .bool) h
    rcases Nat.lt_or_ge i xs.length with hl | hl
    · have he := mkG_getD (f := fBool) (c := cK 1) xs q i (dflt .bool) hl
      refine vc_sound hT hM _ _ _ ?_
      (repeat' ((conv => whnf); first | (refine nx ?_; intro s) | (refine rg ?_; intro s k) | ((refine cas (fun h => ?_) (fun h => ?_)) <;> (try simp [-List.getD_eq_getElem?_getD, he, fBool, t3] at h)) | ((refine may (fun h => ?_) ?_) <;> (try simp [-List.getD_eq_getElem?_getD, he, fBool, t3] at h)) | (refine giv fun hg => ?_; (try simp only [byE] at hg)) | (refine need (by kernel_rfl) ?_) | (refine need ⟨by omega, by omega⟩ ?_) | (refine need (by omega) ?_) | (refine need (by first | (simp; done) | (simp; omega)) ?_) | (refine ⟨(i + 1 : Nat), ?_, ?_, ?_⟩) | (refine fin_au rfl ?_; (conv => whnf); ((repeat' (first | exact trivial | refine ⟨?_, ?_⟩ | exact rfl | exact Or.inr rfl | exact Or.inl (Nat.le_of_ble_eq_true rfl))) <;> (try (conv => whnf)) <;> (try (first | refine congrArg C.bool ?_ | refine congrArg (C.int .i64) ?_ | refine congrArg C.str ?_ | refine congrArg (fun l => some (Ob.row _ l)) ?_ | refine congrArg (fun l => some (Ob.dp _ l)) ?_ | refine congrArg (C.sl _) ?_)) <;> (try (rw [wrap_i64 (by omega) (by omega)]; first | rfl | omega)))) | (refine WkF.au ?_; (conv => whnf); ((repeat' (first | exact trivial | refine ⟨?_, ?_⟩ | exact rfl | exact Or.inr rfl | exact Or.inl (Nat.le_of_ble_eq_true rfl))) <;> (try (conv => whnf)) <;> (try (first | refine congrArg C.bool ?_ | refine congrArg (C.int .i64) ?_ | refine congrArg C.str ?_ | refine congrArg (fun l => some (Ob.row _ l)) ?_ | refine congrArg (fun l => some (Ob.dp _ l)) ?_ | refine congrArg (C.sl _) ?_)) <;> (try (rw [wrap_i64 (by omega) (by omega)]; first | rfl | omega)))) | (refine altl ?_) | fail))
      all_goals (try simp only [mkR_len, mkG_len, List.length_set] at hg)
      all_goals first
        | omega
        | (exfalso; revert h; simp (disch := omega) only [wrap_i64]; simp; done)
        | (rw [hn hl]; (try simp (disch := omega) only [wrap_i64]); omega)
        | ((simp (disch := omega) only [wrap_i64]); omega)
    · refine vc_sound hT hM _ _ _ ?_
      (repeat' ((conv => whnf); first | (refine nx ?_; intro s) | (refine rg ?_; intro s k) | ((refine cas (fun h => ?_) (fun h => ?_)) <;> (try simp [-List.getD_eq_getElem?_getD] at h)) | ((refine may (fun h => ?_) ?_) <;> (try simp [-List.getD_eq_getElem?_getD] at h)) | (refine giv fun hg => ?_; (try simp only [byE] at hg)) | (refine need (by kernel_rfl) ?_) | (refine need ⟨by omega, by omega⟩ ?_) | (refine need (by omega) ?_) | (refine need (by first | (simp; done) | (simp; omega)) ?_) | (refine WkF.au ?_; (conv => whnf); ((repeat' (first | exact trivial | refine ⟨?_, ?_⟩ | exact rfl | exact Or.inr rfl | exact Or.inl (Nat.le_of_ble_eq_true rfl))) <;> (try (conv => whnf)) <;> (try (first | refine congrArg C.bool ?_ | refine congrArg (C.int .i64) ?_ | refine congrArg C.str ?_ | refine congrArg (fun l => some (Ob.row _ l)) ?_ | refine congrArg (fun l => some (Ob.dp _ l)) ?_ | refine congrArg (C.sl _) ?_)) <;> (try (rw [wrap_i64 (by omega) (by omega)]; first | rfl | omega)))) | (refine altl ?_) | fail))
      all_goals first | (exfalso; omega) | ((refine fin_au rfl ?_; (conv => whnf); ((repeat' (first | exact trivial | refine ⟨?_, ?_⟩ | exact rfl | exact Or.inr rfl | exact Or.inl (Nat.le_of_ble_eq_true rfl))) <;> (try (conv => whnf)) <;> (try (first | refine congrArg C.bool ?_ | refine congrArg (C.int .i64) ?_ | refine congrArg C.str ?_ | refine congrArg (fun l => some (Ob.row _ l)) ?_ | refine congrArg (fun l => some (Ob.dp _ l)) ?_ | refine congrArg (C.sl _) ?_)) <;> (try (rw [wrap_i64 (by omega) (by omega)]; first | rfl | omega)))); rw [cnG_all (by omega)])
def fCm (k : Int) (_ : Cm) : Cm := ⟨k, k + 1, ⟨k + 1 + 1, k + 1 + 1 + 1, k + 1 + 1 + 1 + 1⟩⟩
theorem r_markCmdS (xs : List Cm) (q : Int) (h0 : 0 ≤ q) (h1 : q + cnG (cK 5) xs ≤ 4611686018427387904) : Ret Tryz.prog 108 [.rw 0, aI q] [(0, .row .cm xs)] (aI (q + cnG (cK 5) xs)) [(0, .row .cm (mkG fCm (cK 5) q xs))] := by
  refine ret_vc hT hM Tryz.func108 rfl rfl (m := 1) (nx := 1) rfl (Nat.le_of_ble_eq_true rfl) ?_
  (repeat ((conv => whnf); first | (refine nx ?_; intro s) | (refine rg ?_; intro s k))); (conv => whnf)
  refine Tri.loop (fun i : Nat => ⟨[(0, .rw 0), (1, aI (q + cnG (cK 5) (xs.take i))), (5, aI i)], [(0, .row .cm (mkR fCm (cK 5) q xs i))], 1⟩) (fun i => i ≤ xs.length) (fun i => xs.length - i) 0 (Nat.zero_le _) ?_ ?_
  · (refine WkF.au ?_; (conv => whnf); ((repeat' (first | exact trivial | refine ⟨?_, ?_⟩ | exact rfl | exact Or.inr rfl | exact Or.inl (Nat.le_of_ble_eq_true rfl))) <;> (try (conv => whnf)) <;> (try (first | refine congrArg C.bool ?_ | refine congrArg (C.int .i64) ?_ | refine congrArg C.str ?_ | refine congrArg (fun l => some (Ob.row _ l)) ?_ | refine congrArg (fun l => some (Ob.dp _ l)) ?_ | refine congrArg (C.sl _) ?_)) <;> (try (rw [wrap_i64 (by omega) (by omega)]; first | rfl | omega))))
    all_goals first | (simp [cnG]; done) | exact (mkR_zero _ _).symm
  · intro i hi
    have hp := cnG_pos (c := cK (α := Cm) 5) (cK_pos (by decide)) (xs.take i)
    have hq2 := cnG_take (c := cK (α := Cm) 5) (cK_pos (by decide)) xs i
    have hq3 := cnG_take (c := cK (α := Cm) 5) (cK_pos (by decide)) xs (i + 1)
    have hn : i < xs.length → cnG (cK 5) (xs.take (i + 1)) = cnG (cK 5) (xs.take i) + 5 := fun h => cnG_succ xs i (dflt .cm) h
    refine vc_sound hT hM _ _ _ ?_
    (repeat' ((conv => whnf); first | (refine nx ?_; intro s) | (refine rg ?_; intro s k) | ((refine cas (fun h => ?_) (fun h => ?_)) <;> (try simp [-List.getD_eq_getElem?_getD, t3] at h)) | ((refine may (fun h => ?_) ?_) <;> (try simp [-List.getD_eq_getElem?_getD, t3] at h)) | (refine giv fun hg => ?_; (try simp only [byE] at hg)) | (refine need (by kernel_rfl) ?_) | (refine need ⟨by omega, by omega⟩ ?_) | (refine need (by omega) ?_) | (refine need (by first | (simp; done) | (simp; omega)) ?_) | (refine ⟨(i + 1 : Nat), ?_, ?_, ?_⟩) | (refine fin_au rfl ?_; (conv => whnf); ((repeat' (first | exact trivial | refine ⟨?_, ?_⟩ | exact rfl | exact Or.inr rfl | exact Or.inl (Nat.le_of_ble_eq_true rfl))) <;> (try (conv => whnf)) <;> (try (first | refine congrArg C.bool ?_ | refine congrArg (C.int .i64) ?_ | refine congrArg C.str ?_ | refine congrArg (fun l => some (Ob.row _ l)) ?_ | refine congrArg (fun l => some (Ob.dp _ l)) ?_ | refine congrArg (C.sl _) ?_)) <;> (try (rw [wrap_i64 (by omega) (by omega)]; first | rfl | omega)))) | (refine WkF.au ?_; (conv => whnf); ((repeat' (first | exact trivial | refine ⟨?_, ?_⟩ | exact rfl | exact Or.inr rfl | exact Or.inl (Nat.le_of_ble_eq_true rfl))) <;> (try (conv => whnf)) <;> (try (first | refine congrArg C.bool ?_ | refine congrArg (C.int .i64) ?_ | refine congrArg C.str ?_ | refine congrArg (fun l => some (Ob.row _ l)) ?_ | refine congrArg (fun l => some (Ob.dp _ l)) ?_ | refine congrArg (C.sl _) ?_)) <;> (try (rw [wrap_i64 (by omega) (by omega)]; first | rfl | omega)))) | (refine altl ?_) | fail))
    all_goals (try simp only [mkR_len, mkG_len, List.length_set] at hg)
    all_goals first
      | omega
      | exact mkR_all q (by omega)
      | (rw [cnG_all (by omega)]; done)
      | ((simp (disch := omega) only [wrap_i64]); omega)
      | (have hl : i < xs.length := by omega
         simp (disch := (first | omega | (simp; omega))) only [Int.toNat_natCast, set_getD, List.set_set, wrap_i64, mkR_len, List.length_set]
         rw [← mkR_set xs q i (dflt .cm) hl]
         first | rfl | (refine congrArg (fun y => (mkR fCm (cK 5) q xs i).set i y) ?_; simp [t3, fCm, mkE, C.n, C.b, spl, cells]))
theorem r_heldCmdS (xs : List Cm) (q : Int) (h0 : 0 ≤ q) (h1 : q + cnG (cK 5) xs ≤ 4611686018427387904) : Ret Tryz.prog 114 [aL .cm (mkG fCm (cK 5) q xs), aI q] [] (aI (q + cnG (cK 5) xs)) [] := by
  refine ret_vc hT hM Tryz.func114 rfl rfl (m := 0) (nx := 0) rfl (Nat.le_of_ble_eq_true rfl) ?_
  (repeat ((conv => whnf); first | (refine nx ?_; intro s) | (refine rg ?_; intro s k))); (conv => whnf)
  refine Tri.loop (fun i : Nat => ⟨[(0, aL .cm (mkG fCm (cK 5) q xs)), (1, aI (q + cnG (cK 5) (xs.take i))), (5, aI i)], [], 0⟩) (fun i => i ≤ xs.length) (fun i => xs.length - i) 0 (Nat.zero_le _) ?_ ?_
  · (refine WkF.au ?_; (conv => whnf); ((repeat' (first | exact trivial | refine ⟨?_, ?_⟩ | exact rfl | exact Or.inr rfl | exact Or.inl (Nat.le_of_ble_eq_true rfl))) <;> (try (conv => whnf)) <;> (try (first | refine congrArg C.bool ?_ | refine congrArg (C.int .i64) ?_ | refine congrArg C.str ?_ | refine congrArg (fun l => some (Ob.row _ l)) ?_ | refine congrArg (fun l => some (Ob.dp _ l)) ?_ | refine congrArg (C.sl _) ?_)) <;> (try (rw [wrap_i64 (by omega) (by omega)]; first | rfl | omega))))
    all_goals (simp [cnG]; done)
  · intro i hi
    have hp := cnG_pos (c := cK (α := Cm) 5) (cK_pos (by decide)) (xs.take i)
    have hq2 := cnG_take (c := cK (α := Cm) 5) (cK_pos (by decide)) xs i
    have hq3 := cnG_take (c := cK (α := Cm) 5) (cK_pos (by decide)) xs (i + 1)
    have hn : i < xs.length → cnG (cK 5) (xs.take (i + 1)) = cnG (cK 5) (xs.take i) + 5 := fun h => cnG_succ xs i (dflt .cm) h
    rcases Nat.lt_or_ge i xs.length with hl | hl
    · have he := mkG_getD (f := fCm) (c := cK 5) xs q i (dflt .cm) hl
      refine vc_sound hT hM _ _ _ ?_
      (repeat' ((conv => whnf); first | (refine nx ?_; intro s) | (refine rg ?_; intro s k) | ((refine cas (fun h => ?_) (fun h => ?_)) <;> (try simp [-List.getD_eq_getElem?_getD, he, fCm, t3] at h)) | ((refine may (fun h => ?_) ?_) <;> (try simp [-List.getD_eq_getElem?_getD, he, fCm, t3] at h)) | (refine giv fun hg => ?_; (try simp only [byE] at hg)) | (refine need (by kernel_rfl) ?_) | (refine need ⟨by omega, by omega⟩ ?_) | (refine need (by omega) ?_) | (refine need (by first | (simp; done) | (simp; omega)) ?_) | (refine ⟨(i + 1 : Nat), ?_, ?_, ?_⟩) | (refine fin_au rfl ?_; (conv => whnf); ((repeat' (first | exact trivial | refine ⟨?_, ?_⟩ | exact rfl | exact Or.inr rfl | exact Or.inl (Nat.le_of_ble_eq_true rfl))) <;> (try (conv => whnf)) <;> (try (first | refine congrArg C.bool ?_ | refine congrArg (C.int .i64) ?_ | refine congrArg C.str ?_ | refine congrArg (fun l => some (Ob.row _ l)) ?_ | refine congrArg (fun l => some (Ob.dp _ l)) ?_ | refine congrArg (C.sl _) ?_)) <;> (try (rw [wrap_i64 (by omega) (by omega)]; first | rfl | omega)))) | (refine WkF.au ?_; (conv => whnf); ((repeat' (first | exact trivial | refine ⟨?_, ?_⟩ | exact rfl | exact Or.inr rfl | exact Or.inl (Nat.le_of_ble_eq_true rfl))) <;> (try (conv => whnf)) <;> (try (first | refine congrArg C.bool ?_ | refine congrArg (C.int .i64) ?_ | refine congrArg C.str ?_ | refine congrArg (fun l => some (Ob.row _ l)) ?_ | refine congrArg (fun l => some (Ob.dp _ l)) ?_ | refine congrArg (C.sl _) ?_)) <;> (try (rw [wrap_i64 (by omega) (by omega)]; first | rfl | omega)))) | (refine altl ?_) | fail))
      all_goals (try simp only [mkR_len, mkG_len, List.length_set] at hg)
      all_goals first
        | omega
        | (exfalso; revert h; simp (disch := omega) only [wrap_i64]; simp; done)
        | (rw [hn hl]; (try simp (disch := omega) only [wrap_i64]); omega)
        | ((simp (disch := omega) only [wrap_i64]); omega)
    · refine vc_sound hT hM _ _ _ ?_
      (repeat' ((conv => whnf); first | (refine nx ?_; intro s) | (refine rg ?_; intro s k) | ((refine cas (fun h => ?_) (fun h => ?_)) <;> (try simp [-List.getD_eq_getElem?_getD] at h)) | ((refine may (fun h => ?_) ?_) <;> (try simp [-List.getD_eq_getElem?_getD] at h)) | (refine giv fun hg => ?_; (try simp only [byE] at hg)) | (refine need (by kernel_rfl) ?_) | (refine need ⟨by omega, by omega⟩ ?_) | (refine need (by omega) ?_) | (refine need (by first | (simp; done) | (simp; omega)) ?_) | (refine WkF.au ?_; (conv => whnf); ((repeat' (first | exact trivial | refine ⟨?_, ?_⟩ | exact rfl | exact Or.inr rfl | exact Or.inl (Nat.le_of_ble_eq_true rfl))) <;> (try (conv => whnf)) <;> (try (first | refine congrArg C.bool ?_ | refine congrArg (C.int .i64) ?_ | refine congrArg C.str ?_ | refine congrArg (fun l => some (Ob.row _ l)) ?_ | refine congrArg (fun l => some (Ob.dp _ l)) ?_ | refine congrArg (C.sl _) ?_)) <;> (try (rw [wrap_i64 (by omega) (by omega)]; first | rfl | omega)))) | (refine altl ?_) | fail))
      all_goals first | (exfalso; omega) | ((refine fin_au rfl ?_; (conv => whnf); ((repeat' (first | exact trivial | refine ⟨?_, ?_⟩ | exact rfl | exact Or.inr rfl | exact Or.inl (Nat.le_of_ble_eq_true rfl))) <;> (try (conv => whnf)) <;> (try (first | refine congrArg C.bool ?_ | refine congrArg (C.int .i64) ?_ | refine congrArg C.str ?_ | refine congrArg (fun l => some (Ob.row _ l)) ?_ | refine congrArg (fun l => some (Ob.dp _ l)) ?_ | refine congrArg (C.sl _) ?_)) <;> (try (rw [wrap_i64 (by omega) (by omega)]; first | rfl | omega)))); rw [cnG_all (by omega)])
def fDn (k : Int) (_ : Dn) : Dn := ⟨k, k + 1, k + 1 + 1, t3 (k + 1 + 1 + 1)⟩
theorem r_markDoneS (xs : List Dn) (q : Int) (h0 : 0 ≤ q) (h1 : q + cnG (cK 4) xs ≤ 4611686018427387904) : Ret Tryz.prog 109 [.rw 0, aI q] [(0, .row .dn xs)] (aI (q + cnG (cK 4) xs)) [(0, .row .dn (mkG fDn (cK 4) q xs))] := by
  refine ret_vc hT hM Tryz.func109 rfl rfl (m := 1) (nx := 1) rfl (Nat.le_of_ble_eq_true rfl) ?_
  (repeat ((conv => whnf); first | (refine nx ?_; intro s) | (refine rg ?_; intro s k))); (conv => whnf)
  refine Tri.loop (fun i : Nat => ⟨[(0, .rw 0), (1, aI (q + cnG (cK 4) (xs.take i))), (5, aI i)], [(0, .row .dn (mkR fDn (cK 4) q xs i))], 1⟩) (fun i => i ≤ xs.length) (fun i => xs.length - i) 0 (Nat.zero_le _) ?_ ?_
  · (refine WkF.au ?_; (conv => whnf); ((repeat' (first | exact trivial | refine ⟨?_, ?_⟩ | exact rfl | exact Or.inr rfl | exact Or.inl (Nat.le_of_ble_eq_true rfl))) <;> (try (conv => whnf)) <;> (try (first | refine congrArg C.bool ?_ | refine congrArg (C.int .i64) ?_ | refine congrArg C.str ?_ | refine congrArg (fun l => some (Ob.row _ l)) ?_ | refine congrArg (fun l => some (Ob.dp _ l)) ?_ | refine congrArg (C.sl _) ?_)) <;> (try (rw [wrap_i64 (by omega) (by omega)]; first | rfl | omega))))
    all_goals first | (simp [cnG]; done) | exact (mkR_zero _ _).symm
  · intro i hi
    have hp := cnG_pos (c := cK (α := Dn) 4) (cK_pos (by decide)) (xs.take i)
    have hq2 := cnG_take (c := cK (α := Dn) 4) (cK_pos (by decide)) xs i
    have hq3 := cnG_take (c := cK (α := Dn) 4) (cK_pos (by decide)) xs (i + 1)
    have hn : i < xs.length → cnG (cK 4) (xs.take (i + 1)) = cnG (cK 4) (xs.take i) + 4 := fun h => cnG_succ xs i (dflt .dn) h
    refine vc_sound hT hM _ _ _ ?_
    (repeat' ((conv => whnf); first | (refine nx ?_; intro s) | (refine rg ?_; intro s k) | ((refine cas (fun h => ?_) (fun h => ?_)) <;> (try simp [-List.getD_eq_getElem?_getD, t3] at h)) | ((refine may (fun h => ?_) ?_) <;> (try simp [-List.getD_eq_getElem?_getD, t3] at h)) | (refine giv fun hg => ?_; (try simp only [byE] at hg)) | (refine need (by kernel_rfl) ?_) | (refine need ⟨by omega, by omega⟩ ?_) | (refine need (by omega) ?_) | (refine need (by first | (simp; done) | (simp; omega)) ?_) | (refine ⟨(i + 1 : Nat), ?_, ?_, ?_⟩) | (refine fin_au rfl ?_; (conv => whnf); ((repeat' (first | exact trivial | refine ⟨?_, ?_⟩ | exact rfl | exact Or.inr rfl | exact Or.inl (Nat.le_of_ble_eq_true rfl))) <;> (try (conv => whnf)) <;> (try (first | refine congrArg C.bool ?_ | refine congrArg (C.int .i64) ?_ | refine congrArg C.str ?_ | refine congrArg (fun l => some (Ob.row _ l)) ?_ | refine congrArg (fun l => some (Ob.dp _ l)) ?_ | refine congrArg (C.sl _) ?_)) <;> (try (rw [wrap_i64 (by omega) (by omega)]; first | rfl | omega)))) | (refine WkF.au ?_; (conv => whnf); ((repeat' (first | exact trivial | refine ⟨?_, ?_⟩ | exact rfl | exact Or.inr rfl | exact Or.inl (Nat.le_of_ble_eq_true rfl))) <;> (try (conv => whnf)) <;> (try (first | refine congrArg C.bool ?_ | refine congrArg (C.int .i64) ?_ | refine congrArg C.str ?_ | refine congrArg (fun l => some (Ob.row _ l)) ?_ | refine congrArg (fun l => some (Ob.dp _ l)) ?_ | refine congrArg (C.sl _) ?_)) <;> (try (rw [wrap_i64 (by omega) (by omega)]; first | rfl | omega)))) | (refine altl ?_) | fail))
    all_goals (try simp only [mkR_len, mkG_len, List.length_set] at hg)
    all_goals first
      | omega
      | exact mkR_all q (by omega)
      | (rw [cnG_all (by omega)]; done)
      | ((simp (disch := omega) only [wrap_i64]); omega)
      | (have hl : i < xs.length := by omega
         simp (disch := (first | omega | (simp; omega))) only [Int.toNat_natCast, set_getD, List.set_set, wrap_i64, mkR_len, List.length_set]
         rw [← mkR_set xs q i (dflt .dn) hl]
         first | rfl | (refine congrArg (fun y => (mkR fDn (cK 4) q xs i).set i y) ?_; simp [t3, fDn, mkE, C.n, C.b, spl, cells]))
theorem r_heldDoneS (xs : List Dn) (q : Int) (h0 : 0 ≤ q) (h1 : q + cnG (cK 4) xs ≤ 4611686018427387904) : Ret Tryz.prog 115 [aL .dn (mkG fDn (cK 4) q xs), aI q] [] (aI (q + cnG (cK 4) xs)) [] := by
  refine ret_vc hT hM Tryz.func115 rfl rfl (m := 0) (nx := 0) rfl (Nat.le_of_ble_eq_true rfl) ?_
  (repeat ((conv => whnf); first | (refine nx ?_; intro s) | (refine rg ?_; intro s k))); (conv => whnf)
  refine Tri.loop (fun i : Nat => ⟨[(0, aL .dn (mkG fDn (cK 4) q xs)), (1, aI (q + cnG (cK 4) (xs.take i))), (5, aI i)], [], 0⟩) (fun i => i ≤ xs.length) (fun i => xs.length - i) 0 (Nat.zero_le _) ?_ ?_
  · (refine WkF.au ?_; (conv => whnf); ((repeat' (first | exact trivial | refine ⟨?_, ?_⟩ | exact rfl | exact Or.inr rfl | exact Or.inl (Nat.le_of_ble_eq_true rfl))) <;> (try (conv => whnf)) <;> (try (first | refine congrArg C.bool ?_ | refine congrArg (C.int .i64) ?_ | refine congrArg C.str ?_ | refine congrArg (fun l => some (Ob.row _ l)) ?_ | refine congrArg (fun l => some (Ob.dp _ l)) ?_ | refine congrArg (C.sl _) ?_)) <;> (try (rw [wrap_i64 (by omega) (by omega)]; first | rfl | omega))))
    all_goals (simp [cnG]; done)
  · intro i hi
    have hp := cnG_pos (c := cK (α := Dn) 4) (cK_pos (by decide)) (xs.take i)
    have hq2 := cnG_take (c := cK (α := Dn) 4) (cK_pos (by decide)) xs i
    have hq3 := cnG_take (c := cK (α := Dn) 4) (cK_pos (by decide)) xs (i + 1)
    have hn : i < xs.length → cnG (cK 4) (xs.take (i + 1)) = cnG (cK 4) (xs.take i) + 4 := fun h => cnG_succ xs i (dflt .dn) h
    rcases Nat.lt_or_ge i xs.length with hl | hl
    · have he := mkG_getD (f := fDn) (c := cK 4) xs q i (dflt .dn) hl
      refine vc_sound hT hM _ _ _ ?_
      (repeat' ((conv => whnf); first | (refine nx ?_; intro s) | (refine rg ?_; intro s k) | ((refine cas (fun h => ?_) (fun h => ?_)) <;> (try simp [-List.getD_eq_getElem?_getD, he, fDn, t3] at h)) | ((refine may (fun h => ?_) ?_) <;> (try simp [-List.getD_eq_getElem?_getD, he, fDn, t3] at h)) | (refine giv fun hg => ?_; (try simp only [byE] at hg)) | (refine need (by kernel_rfl) ?_) | (refine need ⟨by omega, by omega⟩ ?_) | (refine need (by omega) ?_) | (refine need (by first | (simp; done) | (simp; omega)) ?_) | (refine ⟨(i + 1 : Nat), ?_, ?_, ?_⟩) | (refine fin_au rfl ?_; (conv => whnf); ((repeat' (first | exact trivial | refine ⟨?_, ?_⟩ | exact rfl | exact Or.inr rfl | exact Or.inl (Nat.le_of_ble_eq_true rfl))) <;> (try (conv => whnf)) <;> (try (first | refine congrArg C.bool ?_ | refine congrArg (C.int .i64) ?_ | refine congrArg C.str ?_ | refine congrArg (fun l => some (Ob.row _ l)) ?_ | refine congrArg (fun l => some (Ob.dp _ l)) ?_ | refine congrArg (C.sl _) ?_)) <;> (try (rw [wrap_i64 (by omega) (by omega)]; first | rfl | omega)))) | (refine WkF.au ?_; (conv => whnf); ((repeat' (first | exact trivial | refine ⟨?_, ?_⟩ | exact rfl | exact Or.inr rfl | exact Or.inl (Nat.le_of_ble_eq_true rfl))) <;> (try (conv => whnf)) <;> (try (first | refine congrArg C.bool ?_ | refine congrArg (C.int .i64) ?_ | refine congrArg C.str ?_ | refine congrArg (fun l => some (Ob.row _ l)) ?_ | refine congrArg (fun l => some (Ob.dp _ l)) ?_ | refine congrArg (C.sl _) ?_)) <;> (try (rw [wrap_i64 (by omega) (by omega)]; first | rfl | omega)))) | (refine altl ?_) | fail))
      all_goals (try simp only [mkR_len, mkG_len, List.length_set] at hg)
      all_goals first
        | omega
        | (exfalso; revert h; simp (disch := omega) only [wrap_i64]; simp; done)
        | (rw [hn hl]; (try simp (disch := omega) only [wrap_i64]); omega)
        | ((simp (disch := omega) only [wrap_i64]); omega)
    · refine vc_sound hT hM _ _ _ ?_
      (repeat' ((conv => whnf); first | (refine nx ?_; intro s) | (refine rg ?_; intro s k) | ((refine cas (fun h => ?_) (fun h => ?_)) <;> (try simp [-List.getD_eq_getElem?_getD] at h)) | ((refine may (fun h => ?_) ?_) <;> (try simp [-List.getD_eq_getElem?_getD] at h)) | (refine giv fun hg => ?_; (try simp only [byE] at hg)) | (refine need (by kernel_rfl) ?_) | (refine need ⟨by omega, by omega⟩ ?_) | (refine need (by omega) ?_) | (refine need (by first | (simp; done) | (simp; omega)) ?_) | (refine WkF.au ?_; (conv => whnf); ((repeat' (first | exact trivial | refine ⟨?_, ?_⟩ | exact rfl | exact Or.inr rfl | exact Or.inl (Nat.le_of_ble_eq_true rfl))) <;> (try (conv => whnf)) <;> (try (first | refine congrArg C.bool ?_ | refine congrArg (C.int .i64) ?_ | refine congrArg C.str ?_ | refine congrArg (fun l => some (Ob.row _ l)) ?_ | refine congrArg (fun l => some (Ob.dp _ l)) ?_ | refine congrArg (C.sl _) ?_)) <;> (try (rw [wrap_i64 (by omega) (by omega)]; first | rfl | omega)))) | (refine altl ?_) | fail))
      all_goals first | (exfalso; omega) | ((refine fin_au rfl ?_; (conv => whnf); ((repeat' (first | exact trivial | refine ⟨?_, ?_⟩ | exact rfl | exact Or.inr rfl | exact Or.inl (Nat.le_of_ble_eq_true rfl))) <;> (try (conv => whnf)) <;> (try (first | refine congrArg C.bool ?_ | refine congrArg (C.int .i64) ?_ | refine congrArg C.str ?_ | refine congrArg (fun l => some (Ob.row _ l)) ?_ | refine congrArg (fun l => some (Ob.dp _ l)) ?_ | refine congrArg (C.sl _) ?_)) <;> (try (rw [wrap_i64 (by omega) (by omega)]; first | rfl | omega)))); rw [cnG_all (by omega)])
def fLd (k : Int) (_ : Ld) : Ld := ⟨k, k + 1⟩
theorem r_markLeadS (xs : List Ld) (q : Int) (h0 : 0 ≤ q) (h1 : q + cnG (cK 2) xs ≤ 4611686018427387904) : Ret Tryz.prog 110 [.rw 0, aI q] [(0, .row .ld xs)] (aI (q + cnG (cK 2) xs)) [(0, .row .ld (mkG fLd (cK 2) q xs))] := by
  refine ret_vc hT hM Tryz.func110 rfl rfl (m := 1) (nx := 1) rfl (Nat.le_of_ble_eq_true rfl) ?_
  (repeat ((conv => whnf); first | (refine nx ?_; intro s) | (refine rg ?_; intro s k))); (conv => whnf)
  refine Tri.loop (fun i : Nat => ⟨[(0, .rw 0), (1, aI (q + cnG (cK 2) (xs.take i))), (5, aI i)], [(0, .row .ld (mkR fLd (cK 2) q xs i))], 1⟩) (fun i => i ≤ xs.length) (fun i => xs.length - i) 0 (Nat.zero_le _) ?_ ?_
  · (refine WkF.au ?_; (conv => whnf); ((repeat' (first | exact trivial | refine ⟨?_, ?_⟩ | exact rfl | exact Or.inr rfl | exact Or.inl (Nat.le_of_ble_eq_true rfl))) <;> (try (conv => whnf)) <;> (try (first | refine congrArg C.bool ?_ | refine congrArg (C.int .i64) ?_ | refine congrArg C.str ?_ | refine congrArg (fun l => some (Ob.row _ l)) ?_ | refine congrArg (fun l => some (Ob.dp _ l)) ?_ | refine congrArg (C.sl _) ?_)) <;> (try (rw [wrap_i64 (by omega) (by omega)]; first | rfl | omega))))
    all_goals first | (simp [cnG]; done) | exact (mkR_zero _ _).symm
  · intro i hi
    have hp := cnG_pos (c := cK (α := Ld) 2) (cK_pos (by decide)) (xs.take i)
    have hq2 := cnG_take (c := cK (α := Ld) 2) (cK_pos (by decide)) xs i
    have hq3 := cnG_take (c := cK (α := Ld) 2) (cK_pos (by decide)) xs (i + 1)
    have hn : i < xs.length → cnG (cK 2) (xs.take (i + 1)) = cnG (cK 2) (xs.take i) + 2 := fun h => cnG_succ xs i (dflt .ld) h
    refine vc_sound hT hM _ _ _ ?_
    (repeat' ((conv => whnf); first | (refine nx ?_; intro s) | (refine rg ?_; intro s k) | ((refine cas (fun h => ?_) (fun h => ?_)) <;> (try simp [-List.getD_eq_getElem?_getD, t3] at h)) | ((refine may (fun h => ?_) ?_) <;> (try simp [-List.getD_eq_getElem?_getD, t3] at h)) | (refine giv fun hg => ?_; (try simp only [byE] at hg)) | (refine need (by kernel_rfl) ?_) | (refine need ⟨by omega, by omega⟩ ?_) | (refine need (by omega) ?_) | (refine need (by first | (simp; done) | (simp; omega)) ?_) | (refine ⟨(i + 1 : Nat), ?_, ?_, ?_⟩) | (refine fin_au rfl ?_; (conv => whnf); ((repeat' (first | exact trivial | refine ⟨?_, ?_⟩ | exact rfl | exact Or.inr rfl | exact Or.inl (Nat.le_of_ble_eq_true rfl))) <;> (try (conv => whnf)) <;> (try (first | refine congrArg C.bool ?_ | refine congrArg (C.int .i64) ?_ | refine congrArg C.str ?_ | refine congrArg (fun l => some (Ob.row _ l)) ?_ | refine congrArg (fun l => some (Ob.dp _ l)) ?_ | refine congrArg (C.sl _) ?_)) <;> (try (rw [wrap_i64 (by omega) (by omega)]; first | rfl | omega)))) | (refine WkF.au ?_; (conv => whnf); ((repeat' (first | exact trivial | refine ⟨?_, ?_⟩ | exact rfl | exact Or.inr rfl | exact Or.inl (Nat.le_of_ble_eq_true rfl))) <;> (try (conv => whnf)) <;> (try (first | refine congrArg C.bool ?_ | refine congrArg (C.int .i64) ?_ | refine congrArg C.str ?_ | refine congrArg (fun l => some (Ob.row _ l)) ?_ | refine congrArg (fun l => some (Ob.dp _ l)) ?_ | refine congrArg (C.sl _) ?_)) <;> (try (rw [wrap_i64 (by omega) (by omega)]; first | rfl | omega)))) | (refine altl ?_) | fail))
    all_goals (try simp only [mkR_len, mkG_len, List.length_set] at hg)
    all_goals first
      | omega
      | exact mkR_all q (by omega)
      | (rw [cnG_all (by omega)]; done)
      | ((simp (disch := omega) only [wrap_i64]); omega)
      | (have hl : i < xs.length := by omega
         simp (disch := (first | omega | (simp; omega))) only [Int.toNat_natCast, set_getD, List.set_set, wrap_i64, mkR_len, List.length_set]
         rw [← mkR_set xs q i (dflt .ld) hl]
         first | rfl | (refine congrArg (fun y => (mkR fLd (cK 2) q xs i).set i y) ?_; simp [t3, fLd, mkE, C.n, C.b, spl, cells]))
theorem r_heldLeadS (xs : List Ld) (q : Int) (h0 : 0 ≤ q) (h1 : q + cnG (cK 2) xs ≤ 4611686018427387904) : Ret Tryz.prog 116 [aL .ld (mkG fLd (cK 2) q xs), aI q] [] (aI (q + cnG (cK 2) xs)) [] := by
  refine ret_vc hT hM Tryz.func116 rfl rfl (m := 0) (nx := 0) rfl (Nat.le_of_ble_eq_true rfl) ?_
  (repeat ((conv => whnf); first | (refine nx ?_; intro s) | (refine rg ?_; intro s k))); (conv => whnf)
  refine Tri.loop (fun i : Nat => ⟨[(0, aL .ld (mkG fLd (cK 2) q xs)), (1, aI (q + cnG (cK 2) (xs.take i))), (5, aI i)], [], 0⟩) (fun i => i ≤ xs.length) (fun i => xs.length - i) 0 (Nat.zero_le _) ?_ ?_
  · (refine WkF.au ?_; (conv => whnf); ((repeat' (first | exact trivial | refine ⟨?_, ?_⟩ | exact rfl | exact Or.inr rfl | exact Or.inl (Nat.le_of_ble_eq_true rfl))) <;> (try (conv => whnf)) <;> (try (first | refine congrArg C.bool ?_ | refine congrArg (C.int .i64) ?_ | refine congrArg C.str ?_ | refine congrArg (fun l => some (Ob.row _ l)) ?_ | refine congrArg (fun l => some (Ob.dp _ l)) ?_ | refine congrArg (C.sl _) ?_)) <;> (try (rw [wrap_i64 (by omega) (by omega)]; first | rfl | omega))))
    all_goals (simp [cnG]; done)
  · intro i hi
    have hp := cnG_pos (c := cK (α := Ld) 2) (cK_pos (by decide)) (xs.take i)
    have hq2 := cnG_take (c := cK (α := Ld) 2) (cK_pos (by decide)) xs i
    have hq3 := cnG_take (c := cK (α := Ld) 2) (cK_pos (by decide)) xs (i + 1)
    have hn : i < xs.length → cnG (cK 2) (xs.take (i + 1)) = cnG (cK 2) (xs.take i) + 2 := fun h => cnG_succ xs i (dflt .ld) h
    rcases Nat.lt_or_ge i xs.length with hl | hl
    · have he := mkG_getD (f := fLd) (c := cK 2) xs q i (dflt .ld) hl
      refine vc_sound hT hM _ _ _ ?_
      (repeat' ((conv => whnf); first | (refine nx ?_; intro s) | (refine rg ?_; intro s k) | ((refine cas (fun h => ?_) (fun h => ?_)) <;> (try simp [-List.getD_eq_getElem?_getD, he, fLd, t3] at h)) | ((refine may (fun h => ?_) ?_) <;> (try simp [-List.getD_eq_getElem?_getD, he, fLd, t3] at h)) | (refine giv fun hg => ?_; (try simp only [byE] at hg)) | (refine need (by kernel_rfl) ?_) | (refine need ⟨by omega, by omega⟩ ?_) | (refine need (by omega) ?_) | (refine need (by first | (simp; done) | (simp; omega)) ?_) | (refine ⟨(i + 1 : Nat), ?_, ?_, ?_⟩) | (refine fin_au rfl ?_; (conv => whnf); ((repeat' (first | exact trivial | refine ⟨?_, ?_⟩ | exact rfl | exact Or.inr rfl | exact Or.inl (Nat.le_of_ble_eq_true rfl))) <;> (try (conv => whnf)) <;> (try (first | refine congrArg C.bool ?_ | refine congrArg (C.int .i64) ?_ | refine congrArg C.str ?_ | refine congrArg (fun l => some (Ob.row _ l)) ?_ | refine congrArg (fun l => some (Ob.dp _ l)) ?_ | refine congrArg (C.sl _) ?_)) <;> (try (rw [wrap_i64 (by omega) (by omega)]; first | rfl | omega)))) | (refine WkF.au ?_; (conv => whnf); ((repeat' (first | exact trivial | refine ⟨?_, ?_⟩ | exact rfl | exact Or.inr rfl | exact Or.inl (Nat.le_of_ble_eq_true rfl))) <;> (try (conv => whnf)) <;> (try (first | refine congrArg C.bool ?_ | refine congrArg (C.int .i64) ?_ | refine congrArg C.str ?_ | refine congrArg (fun l => some (Ob.row _ l)) ?_ | refine congrArg (fun l => some (Ob.dp _ l)) ?_ | refine congrArg (C.sl _) ?_)) <;> (try (rw [wrap_i64 (by omega) (by omega)]; first | rfl | omega)))) | (refine altl ?_) | fail))
      all_goals (try simp only [mkR_len, mkG_len, List.length_set] at hg)
      all_goals first
        | omega
        | (exfalso; revert h; simp (disch := omega) only [wrap_i64]; simp; done)
        | (rw [hn hl]; (try simp (disch := omega) only [wrap_i64]); omega)
        | ((simp (disch := omega) only [wrap_i64]); omega)
    · refine vc_sound hT hM _ _ _ ?_
      (repeat' ((conv => whnf); first | (refine nx ?_; intro s) | (refine rg ?_; intro s k) | ((refine cas (fun h => ?_) (fun h => ?_)) <;> (try simp [-List.getD_eq_getElem?_getD] at h)) | ((refine may (fun h => ?_) ?_) <;> (try simp [-List.getD_eq_getElem?_getD] at h)) | (refine giv fun hg => ?_; (try simp only [byE] at hg)) | (refine need (by kernel_rfl) ?_) | (refine need ⟨by omega, by omega⟩ ?_) | (refine need (by omega) ?_) | (refine need (by first | (simp; done) | (simp; omega)) ?_) | (refine WkF.au ?_; (conv => whnf); ((repeat' (first | exact trivial | refine ⟨?_, ?_⟩ | exact rfl | exact Or.inr rfl | exact Or.inl (Nat.le_of_ble_eq_true rfl))) <;> (try (conv => whnf)) <;> (try (first | refine congrArg C.bool ?_ | refine congrArg (C.int .i64) ?_ | refine congrArg C.str ?_ | refine congrArg (fun l => some (Ob.row _ l)) ?_ | refine congrArg (fun l => some (Ob.dp _ l)) ?_ | refine congrArg (C.sl _) ?_)) <;> (try (rw [wrap_i64 (by omega) (by omega)]; first | rfl | omega)))) | (refine altl ?_) | fail))
      all_goals first | (exfalso; omega) | ((refine fin_au rfl ?_; (conv => whnf); ((repeat' (first | exact trivial | refine ⟨?_, ?_⟩ | exact rfl | exact Or.inr rfl | exact Or.inl (Nat.le_of_ble_eq_true rfl))) <;> (try (conv => whnf)) <;> (try (first | refine congrArg C.bool ?_ | refine congrArg (C.int .i64) ?_ | refine congrArg C.str ?_ | refine congrArg (fun l => some (Ob.row _ l)) ?_ | refine congrArg (fun l => some (Ob.dp _ l)) ?_ | refine congrArg (C.sl _) ?_)) <;> (try (rw [wrap_i64 (by omega) (by omega)]; first | rfl | omega)))); rw [cnG_all (by omega)])
def fEn (k : Int) (_ : En) : En := ⟨k, ⟨k + 1, k + 1 + 1, ⟨k + 1 + 1 + 1, k + 1 + 1 + 1 + 1, k + 1 + 1 + 1 + 1 + 1⟩⟩⟩
theorem r_markEntryS (xs : List En) (q : Int) (h0 : 0 ≤ q) (h1 : q + cnG (cK 6) xs ≤ 4611686018427387904) : Ret Tryz.prog 111 [.rw 0, aI q] [(0, .row .en xs)] (aI (q + cnG (cK 6) xs)) [(0, .row .en (mkG fEn (cK 6) q xs))] := by
  refine ret_vc hT hM Tryz.func111 rfl rfl (m := 1) (nx := 1) rfl (Nat.le_of_ble_eq_true rfl) ?_
  (repeat ((conv => whnf); first | (refine nx ?_; intro s) | (refine rg ?_; intro s k))); (conv => whnf)
  refine Tri.loop (fun i : Nat => ⟨[(0, .rw 0), (1, aI (q + cnG (cK 6) (xs.take i))), (5, aI i)], [(0, .row .en (mkR fEn (cK 6) q xs i))], 1⟩) (fun i => i ≤ xs.length) (fun i => xs.length - i) 0 (Nat.zero_le _) ?_ ?_
  · (refine WkF.au ?_; (conv => whnf); ((repeat' (first | exact trivial | refine ⟨?_, ?_⟩ | exact rfl | exact Or.inr rfl | exact Or.inl (Nat.le_of_ble_eq_true rfl))) <;> (try (conv => whnf)) <;> (try (first | refine congrArg C.bool ?_ | refine congrArg (C.int .i64) ?_ | refine congrArg C.str ?_ | refine congrArg (fun l => some (Ob.row _ l)) ?_ | refine congrArg (fun l => some (Ob.dp _ l)) ?_ | refine congrArg (C.sl _) ?_)) <;> (try (rw [wrap_i64 (by omega) (by omega)]; first | rfl | omega))))
    all_goals first | (simp [cnG]; done) | exact (mkR_zero _ _).symm
  · intro i hi
    have hp := cnG_pos (c := cK (α := En) 6) (cK_pos (by decide)) (xs.take i)
    have hq2 := cnG_take (c := cK (α := En) 6) (cK_pos (by decide)) xs i
    have hq3 := cnG_take (c := cK (α := En) 6) (cK_pos (by decide)) xs (i + 1)
    have hn : i < xs.length → cnG (cK 6) (xs.take (i + 1)) = cnG (cK 6) (xs.take i) + 6 := fun h => cnG_succ xs i (dflt .en) h
    refine vc_sound hT hM _ _ _ ?_
    (repeat' ((conv => whnf); first | (refine nx ?_; intro s) | (refine rg ?_; intro s k) | ((refine cas (fun h => ?_) (fun h => ?_)) <;> (try simp [-List.getD_eq_getElem?_getD, t3] at h)) | ((refine may (fun h => ?_) ?_) <;> (try simp [-List.getD_eq_getElem?_getD, t3] at h)) | (refine giv fun hg => ?_; (try simp only [byE] at hg)) | (refine need (by kernel_rfl) ?_) | (refine need ⟨by omega, by omega⟩ ?_) | (refine need (by omega) ?_) | (refine need (by first | (simp; done) | (simp; omega)) ?_) | (refine ⟨(i + 1 : Nat), ?_, ?_, ?_⟩) | (refine fin_au rfl ?_; (conv => whnf); ((repeat' (first | exact trivial | refine ⟨?_, ?_⟩ | exact rfl | exact Or.inr rfl | exact Or.inl (Nat.le_of_ble_eq_true rfl))) <;> (try (conv => whnf)) <;> (try (first | refine congrArg C.bool ?_ | refine congrArg (C.int .i64) ?_ | refine congrArg C.str ?_ | refine congrArg (fun l => some (Ob.row _ l)) ?_ | refine congrArg (fun l => some (Ob.dp _ l)) ?_ | refine congrArg (C.sl _) ?_)) <;> (try (rw [wrap_i64 (by omega) (by omega)]; first | rfl | omega)))) | (refine WkF.au ?_; (conv => whnf); ((repeat' (first | exact trivial | refine ⟨?_, ?_⟩ | exact rfl | exact Or.inr rfl | exact Or.inl (Nat.le_of_ble_eq_true rfl))) <;> (try (conv => whnf)) <;> (try (first | refine congrArg C.bool ?_ | refine congrArg (C.int .i64) ?_ | refine congrArg C.str ?_ | refine congrArg (fun l => some (Ob.row _ l)) ?_ | refine congrArg (fun l => some (Ob.dp _ l)) ?_ | refine congrArg (C.sl _) ?_)) <;> (try (rw [wrap_i64 (by omega) (by omega)]; first | rfl | omega)))) | (refine altl ?_) | fail))
    all_goals (try simp only [mkR_len, mkG_len, List.length_set] at hg)
    all_goals first
      | omega
      | exact mkR_all q (by omega)
      | (rw [cnG_all (by omega)]; done)
      | ((simp (disch := omega) only [wrap_i64]); omega)
      | (have hl : i < xs.length := by omega
         simp (disch := (first | omega | (simp; omega))) only [Int.toNat_natCast, set_getD, List.set_set, wrap_i64, mkR_len, List.length_set]
         rw [← mkR_set xs q i (dflt .en) hl]
         first | rfl | (refine congrArg (fun y => (mkR fEn (cK 6) q xs i).set i y) ?_; simp [t3, fEn, mkE, C.n, C.b, spl, cells]))
theorem r_heldEntryS (xs : List En) (q : Int) (h0 : 0 ≤ q) (h1 : q + cnG (cK 6) xs ≤ 4611686018427387904) : Ret Tryz.prog 192 [aL .en (mkG fEn (cK 6) q xs), aI q] [] (aI (q + cnG (cK 6) xs)) [] := by
  refine ret_vc hT hM Tryz.func192 rfl rfl (m := 0) (nx := 0) rfl (Nat.le_of_ble_eq_true rfl) ?_
  (repeat ((conv => whnf); first | (refine nx ?_; intro s) | (refine rg ?_; intro s k))); (conv => whnf)
  refine Tri.loop (fun i : Nat => ⟨[(0, aL .en (mkG fEn (cK 6) q xs)), (1, aI (q + cnG (cK 6) (xs.take i))), (5, aI i)], [], 0⟩) (fun i => i ≤ xs.length) (fun i => xs.length - i) 0 (Nat.zero_le _) ?_ ?_
  · (refine WkF.au ?_; (conv => whnf); ((repeat' (first | exact trivial | refine ⟨?_, ?_⟩ | exact rfl | exact Or.inr rfl | exact Or.inl (Nat.le_of_ble_eq_true rfl))) <;> (try (conv => whnf)) <;> (try (first | refine congrArg C.bool ?_ | refine congrArg (C.int .i64) ?_ | refine congrArg C.str ?_ | refine congrArg (fun l => some (Ob.row _ l)) ?_ | refine congrArg (fun l => some (Ob.dp _ l)) ?_ | refine congrArg (C.sl _) ?_)) <;> (try (rw [wrap_i64 (by omega) (by omega)]; first | rfl | omega))))
    all_goals (simp [cnG]; done)
  · intro i hi
    have hp := cnG_pos (c := cK (α := En) 6) (cK_pos (by decide)) (xs.take i)
    have hq2 := cnG_take (c := cK (α := En) 6) (cK_pos (by decide)) xs i
    have hq3 := cnG_take (c := cK (α := En) 6) (cK_pos (by decide)) xs (i + 1)
    have hn : i < xs.length → cnG (cK 6) (xs.take (i + 1)) = cnG (cK 6) (xs.take i) + 6 := fun h => cnG_succ xs i (dflt .en) h
    rcases Nat.lt_or_ge i xs.length with hl | hl
    · have he := mkG_getD (f := fEn) (c := cK 6) xs q i (dflt .en) hl
      refine vc_sound hT hM _ _ _ ?_
      (repeat' ((conv => whnf); first | (refine nx ?_; intro s) | (refine rg ?_; intro s k) | ((refine cas (fun h => ?_) (fun h => ?_)) <;> (try simp [-List.getD_eq_getElem?_getD, he, fEn, t3] at h)) | ((refine may (fun h => ?_) ?_) <;> (try simp [-List.getD_eq_getElem?_getD, he, fEn, t3] at h)) | (refine giv fun hg => ?_; (try simp only [byE] at hg)) | (refine need (by kernel_rfl) ?_) | (refine need ⟨by omega, by omega⟩ ?_) | (refine need (by omega) ?_) | (refine need (by first | (simp; done) | (simp; omega)) ?_) | (refine ⟨(i + 1 : Nat), ?_, ?_, ?_⟩) | (refine fin_au rfl ?_; (conv => whnf); ((repeat' (first | exact trivial | refine ⟨?_, ?_⟩ | exact rfl | exact Or.inr rfl | exact Or.inl (Nat.le_of_ble_eq_true rfl))) <;> (try (conv => whnf)) <;> (try (first | refine congrArg C.bool ?_ | refine congrArg (C.int .i64) ?_ | refine congrArg C.str ?_ | refine congrArg (fun l => some (Ob.row _ l)) ?_ | refine congrArg (fun l => some (Ob.dp _ l)) ?_ | refine congrArg (C.sl _) ?_)) <;> (try (rw [wrap_i64 (by omega) (by omega)]; first | rfl | omega)))) | (refine WkF.au ?_; (conv => whnf); ((repeat' (first | exact trivial | refine ⟨?_, ?_⟩ | exact rfl | exact Or.inr rfl | exact Or.inl (Nat.le_of_ble_eq_true rfl))) <;> (try (conv => whnf)) <;> (try (first | refine congrArg C.bool ?_ | refine congrArg (C.int .i64) ?_ | refine congrArg C.str ?_ | refine congrArg (fun l => some (Ob.row _ l)) ?_ | refine congrArg (fun l => some (Ob.dp _ l)) ?_ | refine congrArg (C.sl _) ?_)) <;> (try (rw [wrap_i64 (by omega) (by omega)]; first | rfl | omega)))) | (refine altl ?_) | fail))
      all_goals (try simp only [mkR_len, mkG_len, List.length_set] at hg)
      all_goals first
        | omega
        | (exfalso; revert h; simp (disch := omega) only [wrap_i64]; simp; done)
        | (rw [hn hl]; (try simp (disch := omega) only [wrap_i64]); omega)
        | ((simp (disch := omega) only [wrap_i64]); omega)
    · refine vc_sound hT hM _ _ _ ?_
      (repeat' ((conv => whnf); first | (refine nx ?_; intro s) | (refine rg ?_; intro s k) | ((refine cas (fun h => ?_) (fun h => ?_)) <;> (try simp [-List.getD_eq_getElem?_getD] at h)) | ((refine may (fun h => ?_) ?_) <;> (try simp [-List.getD_eq_getElem?_getD] at h)) | (refine giv fun hg => ?_; (try simp only [byE] at hg)) | (refine need (by kernel_rfl) ?_) | (refine need ⟨by omega, by omega⟩ ?_) | (refine need (by omega) ?_) | (refine need (by first | (simp; done) | (simp; omega)) ?_) | (refine WkF.au ?_; (conv => whnf); ((repeat' (first | exact trivial | refine ⟨?_, ?_⟩ | exact rfl | exact Or.inr rfl | exact Or.inl (Nat.le_of_ble_eq_true rfl))) <;> (try (conv => whnf)) <;> (try (first | refine congrArg C.bool ?_ | refine congrArg (C.int .i64) ?_ | refine congrArg C.str ?_ | refine congrArg (fun l => some (Ob.row _ l)) ?_ | refine congrArg (fun l => some (Ob.dp _ l)) ?_ | refine congrArg (C.sl _) ?_)) <;> (try (rw [wrap_i64 (by omega) (by omega)]; first | rfl | omega)))) | (refine altl ?_) | fail))
      all_goals first | (exfalso; omega) | ((refine fin_au rfl ?_; (conv => whnf); ((repeat' (first | exact trivial | refine ⟨?_, ?_⟩ | exact rfl | exact Or.inr rfl | exact Or.inl (Nat.le_of_ble_eq_true rfl))) <;> (try (conv => whnf)) <;> (try (first | refine congrArg C.bool ?_ | refine congrArg (C.int .i64) ?_ | refine congrArg C.str ?_ | refine congrArg (fun l => some (Ob.row _ l)) ?_ | refine congrArg (fun l => some (Ob.dp _ l)) ?_ | refine congrArg (C.sl _) ?_)) <;> (try (rw [wrap_i64 (by omega) (by omega)]; first | rfl | omega)))); rw [cnG_all (by omega)])
end Go.Proofs.YthbpdhppelaihaaGreat
