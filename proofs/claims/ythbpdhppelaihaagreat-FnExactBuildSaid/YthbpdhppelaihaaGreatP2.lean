/- Trees: sizes, copies, comparisons, by induction over the tree. Conditions: none. -/
import Derived.Test.YthbpdhppelaihaaGreatP1
set_option linter.unusedVariables false
set_option linter.unusedSimpArgs false
namespace Go.Proofs.YthbpdhppelaihaaGreat
open Go.RowKit
attribute [local irreducible] Tri
set_option maxRecDepth 4000
set_option maxHeartbeats 4000000
theorem kid_lt {t x : Tr} (h : x ∈ t.kids) : SizeOf.sizeOf x < SizeOf.sizeOf t := by
  have h1 := List.sizeOf_lt_of_mem h
  have h2 : SizeOf.sizeOf t.kids < SizeOf.sizeOf t := by cases t; simp; omega
  omega
theorem toTree' : ∀ (n : Nat) (t : Tr), SizeOf.sizeOf t < n → Ret Tryz.prog 20 [agE .tr t] [] (ownA .tr t) (ownH .tr t) := by
  intro n
  induction n with
  | zero => intro t h; omega
  | succ n ih =>
    intro t hn
    refine ret_vc hT hM Tryz.func20 rfl rfl (m := 0) (nx := 0) rfl (Nat.le_of_ble_eq_true rfl) ?_
    (repeat' ((conv => whnf); first | (refine nx ?_; intro s) | (refine rg ?_; intro s k) | ((refine cas (fun h => ?_) (fun h => ?_)) <;> (try simp [-List.getD_eq_getElem?_getD] at h)) | ((refine may (fun h => ?_) ?_) <;> (try simp [-List.getD_eq_getElem?_getD] at h)) | (refine giv fun hg => ?_; (try simp only [byE] at hg)) | (refine need (by kernel_rfl) ?_) | (refine need ⟨by omega, by omega⟩ ?_) | (refine need (by omega) ?_) | (refine need (by first | (simp; done) | (simp; omega)) ?_) | (refine call_n (r_toPairS t.pairs) rfl (by (repeat' (first | exact trivial | refine ⟨?_, ?_⟩ | exact rfl | exact Or.inr rfl | exact Or.inl (Nat.le_of_ble_eq_true rfl)))) (by (repeat' (first | exact trivial | refine ⟨?_, ?_⟩ | exact rfl | exact Or.inr rfl | exact Or.inl (Nat.le_of_ble_eq_true rfl)))) ?_) | (refine call_n (r_toIntS t.cuts) rfl (by (repeat' (first | exact trivial | refine ⟨?_, ?_⟩ | exact rfl | exact Or.inr rfl | exact Or.inl (Nat.le_of_ble_eq_true rfl)))) (by (repeat' (first | exact trivial | refine ⟨?_, ?_⟩ | exact rfl | exact Or.inr rfl | exact Or.inl (Nat.le_of_ble_eq_true rfl)))) ?_) | (refine call_n (r_toTreeS t.kids (fun x hx => ih x (by have := kid_lt hx; omega))) rfl (by (repeat' (first | exact trivial | refine ⟨?_, ?_⟩ | exact rfl | exact Or.inr rfl | exact Or.inl (Nat.le_of_ble_eq_true rfl)))) (by (repeat' (first | exact trivial | refine ⟨?_, ?_⟩ | exact rfl | exact Or.inr rfl | exact Or.inl (Nat.le_of_ble_eq_true rfl)))) ?_) | (refine call_n (r_toMsgS t.buf) rfl (by (repeat' (first | exact trivial | refine ⟨?_, ?_⟩ | exact rfl | exact Or.inr rfl | exact Or.inl (Nat.le_of_ble_eq_true rfl)))) (by (repeat' (first | exact trivial | refine ⟨?_, ?_⟩ | exact rfl | exact Or.inr rfl | exact Or.inl (Nat.le_of_ble_eq_true rfl)))) ?_) | (refine fin_au rfl ?_; (conv => whnf); ((repeat' (first | exact trivial | refine ⟨?_, ?_⟩ | exact rfl | exact Or.inr rfl | exact Or.inl (Nat.le_of_ble_eq_true rfl))) <;> (try (conv => whnf)) <;> (try (first | refine congrArg C.bool ?_ | refine congrArg (C.int .i64) ?_ | refine congrArg C.str ?_ | refine congrArg (fun l => some (Ob.row _ l)) ?_ | refine congrArg (fun l => some (Ob.dp _ l)) ?_ | refine congrArg (C.sl _) ?_)) <;> (try (rw [wrap_i64 (by omega) (by omega)]; first | rfl | omega)))) | (refine WkF.au ?_; (conv => whnf); ((repeat' (first | exact trivial | refine ⟨?_, ?_⟩ | exact rfl | exact Or.inr rfl | exact Or.inl (Nat.le_of_ble_eq_true rfl))) <;> (try (conv => whnf)) <;> (try (first | refine congrArg C.bool ?_ | refine congrArg (C.int .i64) ?_ | refine congrArg C.str ?_ | refine congrArg (fun l => some (Ob.row _ l)) ?_ | refine congrArg (fun l => some (Ob.dp _ l)) ?_ | refine congrArg (C.sl _) ?_)) <;> (try (rw [wrap_i64 (by omega) (by omega)]; first | rfl | omega)))) | (refine altl ?_) | fail))
theorem r_toTree (t : Tr) : Ret Tryz.prog 20 [agE .tr t] [] (ownA .tr t) (ownH .tr t) := toTree' _ t (Nat.lt_succ_self _)
theorem eqTree' : ∀ (n : Nat) (x y : Tr), SizeOf.sizeOf x < n → Ret Tryz.prog 13 [agE .tr x, agE .tr y] [] (.c (.bool (eqB x y))) [] := by
  intro n
  induction n with
  | zero => intro t _ h; omega
  | succ n ih =>
    intro x y hn
    refine ret_vc hT hM Tryz.func13 rfl rfl (m := 0) (nx := 0) rfl (Nat.le_of_ble_eq_true rfl) ?_
    (repeat ((conv => whnf); first | (refine nx ?_; intro s) | (refine rg ?_; intro s k))); (conv => whnf)
    refine cas (fun h0 => ?_) (fun h0 => ?_)
    · refine ⟨_, rfl, [], [], rfl, trivial, ⟨?_, trivial⟩, trivial, ⟨trivial, trivial⟩, trivial⟩
      show C.bool _ = C.bool _
      rw [eqB_no]
      rintro rfl
      simp at h0
    · (repeat ((conv => whnf); first | (refine nx ?_; intro s) | (refine rg ?_; intro s k))); (conv => whnf)
      refine call_p (r_eqPairS x.pairs y.pairs) rfl ⟨trivial, trivial, trivial⟩ ?_
      (repeat ((conv => whnf); first | (refine nx ?_; intro s) | (refine rg ?_; intro s k))); (conv => whnf)
      refine cas (fun h1 => ?_) (fun h1 => ?_)
      · refine ⟨_, rfl, [], [], rfl, trivial, ⟨?_, trivial⟩, trivial, ⟨trivial, trivial⟩, trivial⟩
        show C.bool _ = C.bool _
        rw [eqB_no]
        rintro rfl
        rw [eqB_yes rfl] at h1
        cases h1
      · have e1 : x.pairs = y.pairs := by
          apply Classical.byContradiction
          intro hn
          rw [eqB_no hn] at h1
          cases h1
        (repeat ((conv => whnf); first | (refine nx ?_; intro s) | (refine rg ?_; intro s k))); (conv => whnf)
        refine call_p (r_eqIntS x.cuts y.cuts) rfl ⟨trivial, trivial, trivial⟩ ?_
        (repeat ((conv => whnf); first | (refine nx ?_; intro s) | (refine rg ?_; intro s k))); (conv => whnf)
        refine cas (fun h2 => ?_) (fun h2 => ?_)
        · refine ⟨_, rfl, [], [], rfl, trivial, ⟨?_, trivial⟩, trivial, ⟨trivial, trivial⟩, trivial⟩
          show C.bool _ = C.bool _
          rw [eqB_no]
          rintro rfl
          rw [eqB_yes rfl] at h2
          cases h2
        · have e2 : x.cuts = y.cuts := by
            apply Classical.byContradiction
            intro hn
            rw [eqB_no hn] at h2
            cases h2
          (repeat ((conv => whnf); first | (refine nx ?_; intro s) | (refine rg ?_; intro s k))); (conv => whnf)
          refine call_p (r_eqTreeS x.kids y.kids (fun z hz w => ih z w (by have := kid_lt hz; omega))) rfl ⟨trivial, trivial, trivial⟩ ?_
          (repeat ((conv => whnf); first | (refine nx ?_; intro s) | (refine rg ?_; intro s k))); (conv => whnf)
          refine cas (fun h3 => ?_) (fun h3 => ?_)
          · refine ⟨_, rfl, [], [], rfl, trivial, ⟨?_, trivial⟩, trivial, ⟨trivial, trivial⟩, trivial⟩
            show C.bool _ = C.bool _
            rw [eqB_no]
            rintro rfl
            rw [eqB_yes rfl] at h3
            cases h3
          · have e3 : x.kids = y.kids := by
              apply Classical.byContradiction
              intro hn
              rw [eqB_no hn] at h3
              cases h3
            (repeat ((conv => whnf); first | (refine nx ?_; intro s) | (refine rg ?_; intro s k))); (conv => whnf)
            refine call_p (r_eqMsgS x.buf y.buf) rfl ⟨trivial, trivial, trivial⟩ ?_
            (repeat ((conv => whnf); first | (refine nx ?_; intro s) | (refine rg ?_; intro s k))); (conv => whnf)
            refine cas (fun h4 => ?_) (fun h4 => ?_)
            · refine ⟨_, rfl, [], [], rfl, trivial, ⟨?_, trivial⟩, trivial, ⟨trivial, trivial⟩, trivial⟩
              show C.bool _ = C.bool _
              rw [eqB_no]
              rintro rfl
              rw [eqB_yes rfl] at h4
              cases h4
            · have e4 : x.buf = y.buf := by
                apply Classical.byContradiction
                intro hn
                rw [eqB_no hn] at h4
                cases h4
              (repeat ((conv => whnf); first | (refine nx ?_; intro s) | (refine rg ?_; intro s k))); (conv => whnf)
              refine ⟨_, rfl, [], [], rfl, trivial, ⟨?_, trivial⟩, trivial, ⟨trivial, trivial⟩, trivial⟩
              show C.bool _ = C.bool _
              rw [eqB_yes]
              cases x; cases y
              simp at h0
              simp only at e1 e2 e3 e4
              rw [h0, e1, e2, e3, e4]
theorem r_eqTree (x y : Tr) : Ret Tryz.prog 13 [agE .tr x, agE .tr y] [] (.c (.bool (eqB x y))) [] := eqTree' _ x y (Nat.lt_succ_self _)
end Go.Proofs.YthbpdhppelaihaaGreat
