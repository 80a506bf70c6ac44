/- How deep a tree is: the program's side. Conditions: none. -/
import Derived.Test.YthbpdhppelaihaaGreatP7
set_option linter.unusedVariables false
set_option linter.unusedSimpArgs false
namespace Go.Proofs.YthbpdhppelaihaaGreat
open Go.RowKit
attribute [local irreducible] Tri Weak
set_option maxRecDepth 4000
set_option maxHeartbeats 4000000
theorem any_all {lo hi : Int} {l : List Ms} : (l.any fun x => !msgOk x || decide (x.op = 4) || !inB x.k lo (hi - 1)) = !l.all (bufM lo hi) := by
  induction l with
  | nil => rfl
  | cons x l ih =>
    rw [List.any_cons, List.all_cons, ih]
    unfold bufM
    cases msgOk x <;> cases inB x.k lo (hi - 1) <;> by_cases hx : x.op = 4 <;> simp [hx]
theorem r_implDepth : ∀ (n : Nat), n ≤ 7 → ∀ (t : Tr) (lo hi : Int), 0 ≤ lo ∧ lo ≤ 1000 → 0 ≤ hi ∧ hi ≤ 1000 → Ret Tryz.prog 217 [agE .tr t, aI lo, aI hi, aI n] [] (aI (depF n t lo hi)) [] := by
  intro n
  induction n with
  | zero =>
    intro _ t lo hi hlo hhi
    refine ret_vc hT hM Tryz.func217 rfl rfl (m := 0) (nx := 0) rfl (Nat.le_of_ble_eq_true rfl) ?_
    (repeat' ((conv => whnf); first | (refine nx ?_; intro s) | (refine rg ?_; intro s k) | ((refine cas (fun h => ?_) (fun h => ?_)) <;> (try simp [-List.getD_eq_getElem?_getD] at h)) | ((refine may (fun h => ?_) ?_) <;> (try simp [-List.getD_eq_getElem?_getD] at h)) | (refine giv fun hg => ?_; (try simp only [byE] at hg)) | (refine need (by kernel_rfl) ?_) | (refine need ⟨by omega, by omega⟩ ?_) | (refine need (by omega) ?_) | (refine need (by first | (simp; done) | (simp; omega)) ?_) | (refine fin_au rfl ?_; (conv => whnf); ((repeat' (first | exact trivial | refine ⟨?_, ?_⟩ | exact rfl | exact Or.inr rfl | exact Or.inl (Nat.le_of_ble_eq_true rfl))) <;> (try (conv => whnf)) <;> (try (first | refine congrArg C.bool ?_ | refine congrArg (C.int .i64) ?_ | refine congrArg C.str ?_ | refine congrArg (fun l => some (Ob.row _ l)) ?_ | refine congrArg (fun l => some (Ob.dp _ l)) ?_ | refine congrArg (C.sl _) ?_)) <;> (try (rw [wrap_i64 (by omega) (by omega)]; first | rfl | omega)))) | (refine WkF.au ?_; (conv => whnf); ((repeat' (first | exact trivial | refine ⟨?_, ?_⟩ | exact rfl | exact Or.inr rfl | exact Or.inl (Nat.le_of_ble_eq_true rfl))) <;> (try (conv => whnf)) <;> (try (first | refine congrArg C.bool ?_ | refine congrArg (C.int .i64) ?_ | refine congrArg C.str ?_ | refine congrArg (fun l => some (Ob.row _ l)) ?_ | refine congrArg (fun l => some (Ob.dp _ l)) ?_ | refine congrArg (C.sl _) ?_)) <;> (try (rw [wrap_i64 (by omega) (by omega)]; first | rfl | omega)))) | (refine altl ?_) | fail))
  | succ n ih =>
    intro hn t lo hi hlo hhi
    have hw : IntKind.i64.wrap (((n + 1 : Nat) : Int) - 1) = n := by rw [wrap_i64 (by omega) (by omega)]; omega
    have hwh : IntKind.i64.wrap (hi - 1) = hi - 1 := wrap_i64 (by omega) (by omega)
    have hcall : ∀ k a b, 0 ≤ a ∧ a ≤ 1000 → 0 ≤ b ∧ b ≤ 1000 → Ret Tryz.prog 217 [agE .tr k, aI a, aI b, aI (IntKind.i64.wrap (((n + 1 : Nat) : Int) - 1))] [] (aI (depF n k a b)) [] := fun k a b h1 h2 => by rw [hw]; exact ih (by omega) k a b h1 h2
    have hlt := depF_le n
    refine ret_vc hT hM Tryz.func217 rfl rfl (m := 0) (nx := 0) rfl (Nat.le_of_ble_eq_true rfl) ?_
    (repeat' ((conv => whnf); first | (refine nx ?_; intro s) | (refine rg ?_; intro s k) | ((refine cas (fun h => ?_) (fun h => ?_)) <;> (try simp [-List.getD_eq_getElem?_getD, inB_iff, inB_niff, -List.any_eq_true, -List.any_eq_false] at h)) | ((refine may (fun h => ?_) ?_) <;> (try simp [-List.getD_eq_getElem?_getD, inB_iff, inB_niff, -List.any_eq_true, -List.any_eq_false] at h)) | (refine giv fun hg => ?_; (try simp only [byE] at hg)) | (refine need (by kernel_rfl) ?_) | (refine need ⟨by omega, by omega⟩ ?_) | (refine need (by omega) ?_) | (refine need (by first | (simp; done) | (simp; omega)) ?_) | (refine call_p (r_implLeaf t lo hi hhi) rfl (by (repeat' (first | exact trivial | refine ⟨?_, ?_⟩ | exact rfl | exact Or.inr rfl | exact Or.inl (Nat.le_of_ble_eq_true rfl)))) ?_) | (refine call_p (r_within t.kids.length 2 4) rfl (by (repeat' (first | exact trivial | refine ⟨?_, ?_⟩ | exact rfl | exact Or.inr rfl | exact Or.inl (Nat.le_of_ble_eq_true rfl)))) ?_) | (refine call_g [1,2] (cf_depthOf (fun x => !(msgOk x && decide (x.op ≠ 4) && inB x.k lo (hi - 1))) lo hi (r_depthOfF lo hi hhi) t.buf) rfl rfl rfl (by (repeat' (first | exact trivial | refine ⟨?_, ?_⟩ | exact rfl | exact Or.inr rfl | exact Or.inl (Nat.le_of_ble_eq_true rfl)))) (by (repeat' (first | exact trivial | refine ⟨?_, ?_⟩ | exact rfl | exact Or.inr rfl | exact Or.inl (Nat.le_of_ble_eq_true rfl)))) (by (repeat' (first | exact trivial | refine ⟨?_, ?_⟩ | exact rfl | exact Or.inr rfl | exact Or.inl (Nat.le_of_ble_eq_true rfl)))) (by (repeat' (first | exact trivial | refine ⟨?_, ?_⟩ | exact rfl | exact Or.inr rfl | exact Or.inl (Nat.le_of_ble_eq_true rfl)))) ?_) | (refine fin_au rfl ?_; (conv => whnf); ((repeat' (first | exact trivial | refine ⟨?_, ?_⟩ | exact rfl | exact Or.inr rfl | exact Or.inl (Nat.le_of_ble_eq_true rfl))) <;> (try (conv => whnf)) <;> (try (first | refine congrArg C.bool ?_ | refine congrArg (C.int .i64) ?_ | refine congrArg C.str ?_ | refine congrArg (fun l => some (Ob.row _ l)) ?_ | refine congrArg (fun l => some (Ob.dp _ l)) ?_ | refine congrArg (C.sl _) ?_)) <;> (try (rw [wrap_i64 (by omega) (by omega)]; first | rfl | omega)))) | (refine WkF.au ?_; (conv => whnf); ((repeat' (first | exact trivial | refine ⟨?_, ?_⟩ | exact rfl | exact Or.inr rfl | exact Or.inl (Nat.le_of_ble_eq_true rfl))) <;> (try (conv => whnf)) <;> (try (first | refine congrArg C.bool ?_ | refine congrArg (C.int .i64) ?_ | refine congrArg C.str ?_ | refine congrArg (fun l => some (Ob.row _ l)) ?_ | refine congrArg (fun l => some (Ob.dp _ l)) ?_ | refine congrArg (C.sl _) ?_)) <;> (try (rw [wrap_i64 (by omega) (by omega)]; first | rfl | omega)))) | (refine altl ?_) | fail))
    · omega
    · simp_all [depF]
    · simp_all [depF]
    · exact (depF_shape (by assumption) (by omega)).symm
    · have hwk := wrap_i64 (n := (t.kids.length : Int) - 1) (by omega) (by omega)
      exact (depF_shape (by assumption) (by omega)).symm
    · exact (depF_shape (by assumption) (by omega)).symm
    · exact (depF_shape (by assumption) (by omega)).symm
    · rw [any_all] at h
      exact (depF_bad (by assumption) fun h1 => by simp [h1.2] at h).symm
    · rw [any_all] at h
      have hwk := wrap_i64 (n := (t.kids.length : Int) - 1) (by omega) (by omega)
      have hck : t.cuts.length + 1 = t.kids.length := by omega
      have hk4 : 2 ≤ t.kids.length ∧ t.kids.length ≤ 4 := by omega
      have hp0 : t.pairs.length = 0 := by simp_all
      have hleaf : t.leaf = false := by assumption
      have hshape : shapeB t = true := shapeB_iff.2 ⟨hk4, hck, by omega, hp0⟩
      have hall : t.buf.all (bufM lo hi) = true := by simpa using h
      have hgood : depF (n + 1) t lo hi = kidsF (depF n) t.cuts hi t.kids 0 0 lo := depF_good hleaf hshape fun j hj => List.all_eq_true.1 hall _ (List.mem_of_getElem? (getD_some hj (dflt .ms)))
      clear h
      (repeat ((conv => whnf); first | (refine nx ?_; intro s) | (refine rg ?_; intro s k))); (conv => whnf)
      refine Tri.loop (fun p : Nat × Int × Int => ⟨[(3, aI (n + 1 : Nat)), (4, .pt 0 0), (5, .pt 1 0), (6, .pt 2 0), (9, aI p.2.1), (10, aI p.2.2), (57, aL .tr t.kids), (58, aI t.kids.length), (59, aI p.1)], [(0, .box ((cells .tr t).map .c)), (1, .box [aI lo]), (2, .box [aI hi])], 3⟩) (fun p => p.1 ≤ t.kids.length ∧ (0 ≤ p.2.1 ∧ p.2.1 ≤ 7) ∧ (0 ≤ p.2.2 ∧ p.2.2 ≤ 1000) ∧ depF (n + 1) t lo hi = kidsF (depF n) t.cuts hi (t.kids.drop p.1) p.1 p.2.1 p.2.2) (fun p => t.kids.length - p.1) (0, 0, lo) ⟨by simp, by simp, hlo, by simpa using hgood⟩ ?_ ?_
      · (refine WkF.au ?_; (conv => whnf); ((repeat' (first | exact trivial | refine ⟨?_, ?_⟩ | exact rfl | exact Or.inr rfl | exact Or.inl (Nat.le_of_ble_eq_true rfl))) <;> (try (conv => whnf)) <;> (try (first | refine congrArg C.bool ?_ | refine congrArg (C.int .i64) ?_ | refine congrArg C.str ?_ | refine congrArg (fun l => some (Ob.row _ l)) ?_ | refine congrArg (fun l => some (Ob.dp _ l)) ?_ | refine congrArg (C.sl _) ?_)) <;> (try (rw [wrap_i64 (by omega) (by omega)]; first | rfl | omega))))
      · intro ⟨j, d, a⟩ ⟨hj, hd, ha, hinv⟩
        simp only at hj hd ha hinv
        refine vc_sound hT hM _ _ _ ?_
        (repeat' ((conv => whnf); first | (refine nx ?_; intro s) | (refine rg ?_; intro s k) | ((refine cas (fun h => ?_) (fun h => ?_)) <;> (try simp [-List.getD_eq_getElem?_getD, hwk, hwh, inB_iff, inB_niff] at h)) | ((refine may (fun h => ?_) ?_) <;> (try simp [-List.getD_eq_getElem?_getD, hwk, hwh, inB_iff, inB_niff] at h)) | (refine giv fun hg => ?_; (try simp only [byE] at hg)) | (refine need (by kernel_rfl) ?_) | (refine need ⟨by omega, by omega⟩ ?_) | (refine need (by omega) ?_) | (refine need (by first | (simp; done) | (simp; omega)) ?_) | (refine call_p (r_within (t.cuts.getD j (dflt .int)) 1 999) rfl (by (repeat' (first | exact trivial | refine ⟨?_, ?_⟩ | exact rfl | exact Or.inr rfl | exact Or.inl (Nat.le_of_ble_eq_true rfl)))) ?_) | (refine call_p (hcall (t.kids.getD j (dflt .tr)) a (t.cuts.getD j (dflt .int)) ha (by omega)) rfl (by (repeat' (first | exact trivial | refine ⟨?_, ?_⟩ | exact rfl | exact Or.inr rfl | exact Or.inl (Nat.le_of_ble_eq_true rfl)))) ?_) | (refine call_p (hcall (t.kids.getD j (dflt .tr)) a hi ha hhi) rfl (by (repeat' (first | exact trivial | refine ⟨?_, ?_⟩ | exact rfl | exact Or.inr rfl | exact Or.inl (Nat.le_of_ble_eq_true rfl)))) ?_) | (refine ⟨(j + 1, depF n (t.kids.getD j (dflt .tr)) a (t.cuts.getD j (dflt .int)), t.cuts.getD j (dflt .int)), ?_, (by have hgd : j < t.cuts.length := (by omega); show t.kids.length - (j + 1) < t.kids.length - j; omega), ?_⟩) | (refine ⟨(j + 1, depF n (t.kids.getD j (dflt .tr)) a hi, hi), ?_, (by show t.kids.length - (j + 1) < t.kids.length - j; omega), ?_⟩) | (refine fin_au rfl ?_; (conv => whnf); ((repeat' (first | exact trivial | refine ⟨?_, ?_⟩ | exact rfl | exact Or.inr rfl | exact Or.inl (Nat.le_of_ble_eq_true rfl))) <;> (try (conv => whnf)) <;> (try (first | refine congrArg C.bool ?_ | refine congrArg (C.int .i64) ?_ | refine congrArg C.str ?_ | refine congrArg (fun l => some (Ob.row _ l)) ?_ | refine congrArg (fun l => some (Ob.dp _ l)) ?_ | refine congrArg (C.sl _) ?_)) <;> (try (rw [wrap_i64 (by omega) (by omega)]; first | rfl | omega)))) | (refine WkF.au ?_; (conv => whnf); ((repeat' (first | exact trivial | refine ⟨?_, ?_⟩ | exact rfl | exact Or.inr rfl | exact Or.inl (Nat.le_of_ble_eq_true rfl))) <;> (try (conv => whnf)) <;> (try (first | refine congrArg C.bool ?_ | refine congrArg (C.int .i64) ?_ | refine congrArg C.str ?_ | refine congrArg (fun l => some (Ob.row _ l)) ?_ | refine congrArg (fun l => some (Ob.dp _ l)) ?_ | refine congrArg (C.sl _) ?_)) <;> (try (rw [wrap_i64 (by omega) (by omega)]; first | rfl | omega)))) | (refine altl ?_) | fail))
        all_goals
          try dsimp only
          first
          | (exfalso; omega)
          | (rw [List.drop_eq_nil_of_le (by omega)] at hinv; simp only [kidsF] at hinv; rw [hinv, wrap_i64 (by omega) (by omega)]; done)
          | (have hb1 := hlt (t.kids.getD j (dflt .tr)) a (t.cuts.getD j (dflt .int))
             have hb2 := hlt (t.kids.getD j (dflt .tr)) a hi
             rw [kidsF_step (by omega)] at hinv
             first
             | (rw [hinv]
                (repeat' split) <;> first | rfl | omega | (exfalso; simp only [inB_niff] at *; omega))
             | (refine ⟨by omega, by omega, by omega, ?_⟩
                rw [hinv]
                (repeat' split) <;> first | rfl | (exfalso; simp only [inB_niff] at *; omega)))
end Go.Proofs.YthbpdhppelaihaaGreat
