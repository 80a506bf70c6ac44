/- How deep a tree is, on either side. Conditions: none. -/
import Derived.Test.YthbpdhppelaihaaGreatP6
set_option linter.unusedVariables false
set_option linter.unusedSimpArgs false
namespace Go.Proofs.YthbpdhppelaihaaGreat
open Go.RowKit
attribute [local irreducible] Tri Weak
set_option maxRecDepth 4000
set_option maxHeartbeats 4000000
def bufM (lo hi : Int) (m : Ms) : Bool := msgOk m && decide (m.op ≠ 4) && inB m.k lo (hi - 1)
def shapeB (t : Tr) : Bool := decide (2 ≤ t.kids.length ∧ t.kids.length ≤ 4) && decide (t.cuts.length + 1 = t.kids.length) && decide (t.buf.length ≤ 6) && decide (t.pairs.length = 0)
def kidsF (f : Tr → Int → Int → Int) (cuts : List Int) (hi : Int) : List Tr → Nat → Int → Int → Int
  | [], _, depth, _ => depth + 1
  | k :: ks, i, depth, frm =>
    if i < cuts.length then
      if inB (cuts.getD i (dflt .int)) (frm + 1) (hi - 1) = false then 0
      else if f k frm (cuts.getD i (dflt .int)) = 0 ∨ (0 < i ∧ f k frm (cuts.getD i (dflt .int)) ≠ depth) then 0 else kidsF f cuts hi ks (i + 1) (f k frm (cuts.getD i (dflt .int))) (cuts.getD i (dflt .int))
    else if f k frm hi = 0 ∨ (0 < i ∧ f k frm hi ≠ depth) then 0 else kidsF f cuts hi ks (i + 1) (f k frm hi) hi
def depF : Nat → Tr → Int → Int → Int
  | 0, _, _, _ => 0
  | n + 1, t, lo, hi => if t.leaf then (if leafB t lo hi then 1 else 0) else if shapeB t && t.buf.all (bufM lo hi) then kidsF (depF n) t.cuts hi t.kids 0 0 lo else 0
theorem kidsF_le {f : Tr → Int → Int → Int} {n : Int} (hf : ∀ t a b, 0 ≤ f t a b ∧ f t a b ≤ n) (cuts : List Int) (hi : Int) : ∀ (ks : List Tr) (i : Nat) (d a : Int), 0 ≤ d ∧ d ≤ n → 0 ≤ kidsF f cuts hi ks i d a ∧ kidsF f cuts hi ks i d a ≤ n + 1
  | [], i, d, a, hd => by simp only [kidsF]; omega
  | k :: ks, i, d, a, hd => by
    have h0 := hf k a (cuts.getD i (dflt .int))
    have h1 := hf k a hi
    simp only [kidsF]
    split
    · split
      · omega
      · split
        · omega
        · exact kidsF_le hf cuts hi ks _ _ _ h0
    · split
      · omega
      · exact kidsF_le hf cuts hi ks _ _ _ h1
theorem depF_le : ∀ (n : Nat) (t : Tr) (lo hi : Int), 0 ≤ depF n t lo hi ∧ depF n t lo hi ≤ n
  | 0, _, _, _ => by simp [depF]
  | n + 1, t, lo, hi => by
    have := kidsF_le (n := n) (fun t a b => depF_le n t a b) t.cuts hi t.kids 0 0 lo (by omega)
    simp only [depF]
    split
    · split <;> omega
    · split
      · omega
      · omega
theorem inB_iff {x lo hi : Int} : inB x lo hi = true ↔ lo ≤ x ∧ x ≤ hi := by simp [inB]
theorem inB_niff {x lo hi : Int} : inB x lo hi = false ↔ ¬ (lo ≤ x ∧ x ≤ hi) := by rw [← inB_iff]; simp
theorem drop_getD {α : Type} {xs : List α} {i : Nat} (h : i < xs.length) (d : α) : xs.drop i = xs.getD i d :: xs.drop (i + 1) := by
  rw [List.drop_eq_getElem_cons h, List.getD_eq_getElem?_getD, List.getElem?_eq_getElem h]; rfl
theorem shapeB_iff {t : Tr} : shapeB t = true ↔ (2 ≤ t.kids.length ∧ t.kids.length ≤ 4) ∧ t.cuts.length + 1 = t.kids.length ∧ t.buf.length ≤ 6 ∧ t.pairs.length = 0 := by
  unfold shapeB
  rw [Bool.and_eq_true, Bool.and_eq_true, Bool.and_eq_true, decide_eq_true_eq, decide_eq_true_eq, decide_eq_true_eq, decide_eq_true_eq]
  constructor <;> intro h <;> omega
theorem depF_bad {n : Nat} {t : Tr} {lo hi : Int} (hl : t.leaf = false) (h : ¬ (shapeB t = true ∧ t.buf.all (bufM lo hi) = true)) : depF (n + 1) t lo hi = 0 := by
  simp only [depF]
  rw [if_neg (by simp [hl]), if_neg (by simpa using h)]
theorem depF_shape {n : Nat} {t : Tr} {lo hi : Int} (hl : t.leaf = false) (h : ¬ ((2 ≤ t.kids.length ∧ t.kids.length ≤ 4) ∧ t.cuts.length + 1 = t.kids.length ∧ t.buf.length ≤ 6 ∧ t.pairs.length = 0)) : depF (n + 1) t lo hi = 0 := depF_bad hl fun h1 => h (shapeB_iff.1 h1.1)
theorem depF_buf {n : Nat} {t : Tr} {lo hi : Int} {i : Nat} (hl : t.leaf = false) (hi' : i < t.buf.length) (h : bufM lo hi (t.buf.getD i (dflt .ms)) = false) : depF (n + 1) t lo hi = 0 := depF_bad hl fun h1 => by
  have := List.all_eq_true.1 h1.2 _ (List.mem_of_getElem? (getD_some hi' (dflt .ms)))
  rw [h] at this
  cases this
theorem depF_good {n : Nat} {t : Tr} {lo hi : Int} (hl : t.leaf = false) (h1 : shapeB t = true) (h2 : ∀ j, j < t.buf.length → bufM lo hi (t.buf.getD j (dflt .ms)) = true) : depF (n + 1) t lo hi = kidsF (depF n) t.cuts hi t.kids 0 0 lo := by
  simp only [depF]
  rw [if_neg (by simp [hl]), if_pos]
  rw [Bool.and_eq_true]
  refine ⟨h1, List.all_eq_true.2 fun x hx => ?_⟩
  obtain ⟨j, hj, rfl⟩ := List.mem_iff_getElem.1 hx
  have := h2 j hj
  rwa [List.getD_eq_getElem?_getD, List.getElem?_eq_getElem hj] at this
/-- One kid's turn. -/
theorem kidsF_step {f : Tr → Int → Int → Int} {cuts : List Int} {hi : Int} {kids : List Tr} {i : Nat} {d a : Int} (hk : i < kids.length) : kidsF f cuts hi (kids.drop i) i d a =
    if i < cuts.length then
      if inB (cuts.getD i (dflt .int)) (a + 1) (hi - 1) = false then 0
      else if f (kids.getD i (dflt .tr)) a (cuts.getD i (dflt .int)) = 0 ∨ (0 < i ∧ f (kids.getD i (dflt .tr)) a (cuts.getD i (dflt .int)) ≠ d) then 0 else kidsF f cuts hi (kids.drop (i + 1)) (i + 1) (f (kids.getD i (dflt .tr)) a (cuts.getD i (dflt .int))) (cuts.getD i (dflt .int))
    else if f (kids.getD i (dflt .tr)) a hi = 0 ∨ (0 < i ∧ f (kids.getD i (dflt .tr)) a hi ≠ d) then 0 else kidsF f cuts hi (kids.drop (i + 1)) (i + 1) (f (kids.getD i (dflt .tr)) a hi) hi := by
  rw [drop_getD hk (dflt .tr)]
  rfl
theorem r_specDepth : ∀ (n : Nat), n ≤ 7 → ∀ (t : Tr) (lo hi : Int), 0 ≤ lo ∧ lo ≤ 1000 → 0 ≤ hi ∧ hi ≤ 1000 → Ret Tryz.prog 211 [agE .tr t, aI lo, aI hi, aI n] [] (aI (depF n t lo hi)) [] := by
  intro n
  induction n with
  | zero =>
    intro _ t lo hi hlo hhi
    refine ret_vc hT hM Tryz.func211 rfl rfl (m := 0) (nx := 0) rfl (Nat.le_of_ble_eq_true rfl) ?_
    (repeat' ((conv => whnf); first | (refine nx ?_; intro s) | (refine rg ?_; intro s k) | ((refine cas (fun h => ?_) (fun h => ?_)) <;> (try simp [-List.getD_eq_getElem?_getD] at h)) | ((refine may (fun h => ?_) ?_) <;> (try simp [-List.getD_eq_getElem?_getD] at h)) | (refine giv fun hg => ?_; (try simp only [byE] at hg)) | (refine need (by kernel_rfl) ?_) | (refine need ⟨by omega, by omega⟩ ?_) | (refine need (by omega) ?_) | (refine need (by first | (simp; done) | (simp; omega)) ?_) | (refine fin_au rfl ?_; (conv => whnf); ((repeat' (first | exact trivial | refine ⟨?_, ?_⟩ | exact rfl | exact Or.inr rfl | exact Or.inl (Nat.le_of_ble_eq_true rfl))) <;> (try (conv => whnf)) <;> (try (first | refine congrArg C.bool ?_ | refine congrArg (C.int .i64) ?_ | refine congrArg C.str ?_ | refine congrArg (fun l => some (Ob.row _ l)) ?_ | refine congrArg (fun l => some (Ob.dp _ l)) ?_ | refine congrArg (C.sl _) ?_)) <;> (try (rw [wrap_i64 (by omega) (by omega)]; first | rfl | omega)))) | (refine WkF.au ?_; (conv => whnf); ((repeat' (first | exact trivial | refine ⟨?_, ?_⟩ | exact rfl | exact Or.inr rfl | exact Or.inl (Nat.le_of_ble_eq_true rfl))) <;> (try (conv => whnf)) <;> (try (first | refine congrArg C.bool ?_ | refine congrArg (C.int .i64) ?_ | refine congrArg C.str ?_ | refine congrArg (fun l => some (Ob.row _ l)) ?_ | refine congrArg (fun l => some (Ob.dp _ l)) ?_ | refine congrArg (C.sl _) ?_)) <;> (try (rw [wrap_i64 (by omega) (by omega)]; first | rfl | omega)))) | (refine altl ?_) | fail))
  | succ n ih =>
    intro hn t lo hi hlo hhi
    have hw : IntKind.i64.wrap (((n + 1 : Nat) : Int) - 1) = n := by rw [wrap_i64 (by omega) (by omega)]; omega
    have hwh : IntKind.i64.wrap (hi - 1) = hi - 1 := wrap_i64 (by omega) (by omega)
    have hcall : ∀ k a b, 0 ≤ a ∧ a ≤ 1000 → 0 ≤ b ∧ b ≤ 1000 → Ret Tryz.prog 211 [agE .tr k, aI a, aI b, aI (IntKind.i64.wrap (((n + 1 : Nat) : Int) - 1))] [] (aI (depF n k a b)) [] := fun k a b h1 h2 => by rw [hw]; exact ih (by omega) k a b h1 h2
    have hlt := depF_le n
    refine ret_vc hT hM Tryz.func211 rfl rfl (m := 0) (nx := 0) rfl (Nat.le_of_ble_eq_true rfl) ?_
    (repeat' ((conv => whnf); first | (refine nx ?_; intro s) | (refine rg ?_; intro s k) | ((refine cas (fun h => ?_) (fun h => ?_)) <;> (try simp [-List.getD_eq_getElem?_getD, inB_iff, inB_niff] at h)) | ((refine may (fun h => ?_) ?_) <;> (try simp [-List.getD_eq_getElem?_getD, inB_iff, inB_niff] at h)) | (refine giv fun hg => ?_; (try simp only [byE] at hg)) | (refine need (by kernel_rfl) ?_) | (refine need ⟨by omega, by omega⟩ ?_) | (refine need (by omega) ?_) | (refine need (by first | (simp; done) | (simp; omega)) ?_) | (refine call_p (r_specLeaf t lo hi hhi) rfl (by (repeat' (first | exact trivial | refine ⟨?_, ?_⟩ | exact rfl | exact Or.inr rfl | exact Or.inl (Nat.le_of_ble_eq_true rfl)))) ?_) | (refine call_p (r_l1In t.kids.length 2 4) rfl (by (repeat' (first | exact trivial | refine ⟨?_, ?_⟩ | exact rfl | exact Or.inr rfl | exact Or.inl (Nat.le_of_ble_eq_true rfl)))) ?_) | (refine fin_au rfl ?_; (conv => whnf); ((repeat' (first | exact trivial | refine ⟨?_, ?_⟩ | exact rfl | exact Or.inr rfl | exact Or.inl (Nat.le_of_ble_eq_true rfl))) <;> (try (conv => whnf)) <;> (try (first | refine congrArg C.bool ?_ | refine congrArg (C.int .i64) ?_ | refine congrArg C.str ?_ | refine congrArg (fun l => some (Ob.row _ l)) ?_ | refine congrArg (fun l => some (Ob.dp _ l)) ?_ | refine congrArg (C.sl _) ?_)) <;> (try (rw [wrap_i64 (by omega) (by omega)]; first | rfl | omega)))) | (refine WkF.au ?_; (conv => whnf); ((repeat' (first | exact trivial | refine ⟨?_, ?_⟩ | exact rfl | exact Or.inr rfl | exact Or.inl (Nat.le_of_ble_eq_true rfl))) <;> (try (conv => whnf)) <;> (try (first | refine congrArg C.bool ?_ | refine congrArg (C.int .i64) ?_ | refine congrArg C.str ?_ | refine congrArg (fun l => some (Ob.row _ l)) ?_ | refine congrArg (fun l => some (Ob.dp _ l)) ?_ | refine congrArg (C.sl _) ?_)) <;> (try (rw [wrap_i64 (by omega) (by omega)]; first | rfl | omega)))) | (refine altl ?_) | fail))
    · omega
    · simp [depF, h]
    · exact (depF_shape (by assumption) (by omega)).symm
    · exact (depF_shape (by assumption) (by omega)).symm
    · have hwk := wrap_i64 (n := (t.kids.length : Int) - 1) (by omega) (by omega)
      exact (depF_shape (by assumption) (by omega)).symm
    · exact (depF_shape (by assumption) (by omega)).symm
    · have hwk := wrap_i64 (n := (t.kids.length : Int) - 1) (by omega) (by omega)
      have hck : t.cuts.length + 1 = t.kids.length := by omega
      have hk4 : 2 ≤ t.kids.length ∧ t.kids.length ≤ 4 := by omega
      have hp0 : t.pairs.length = 0 := by simp_all
      have hleaf : t.leaf = false := by assumption
      have hshape : shapeB t = true := shapeB_iff.2 ⟨hk4, hck, by omega, hp0⟩
      (repeat ((conv => whnf); first | (refine nx ?_; intro s) | (refine rg ?_; intro s k))); (conv => whnf)
      refine Tri.loop (fun i : Nat => ⟨[(1, aI lo), (2, aI hi), (3, aI (n + 1 : Nat)), (4, .pt 0 0), (9, aI t.kids.length), (10, aI i)], [(0, .box ((cells .tr t).map .c))], 1⟩) (fun i => i ≤ t.buf.length ∧ ∀ j, j < i → bufM lo hi (t.buf.getD j (dflt .ms)) = true) (fun i => t.buf.length - i) 0 ⟨by omega, fun j hj => by omega⟩ ?_ ?_
      · (refine WkF.au ?_; (conv => whnf); ((repeat' (first | exact trivial | refine ⟨?_, ?_⟩ | exact rfl | exact Or.inr rfl | exact Or.inl (Nat.le_of_ble_eq_true rfl))) <;> (try (conv => whnf)) <;> (try (first | refine congrArg C.bool ?_ | refine congrArg (C.int .i64) ?_ | refine congrArg C.str ?_ | refine congrArg (fun l => some (Ob.row _ l)) ?_ | refine congrArg (fun l => some (Ob.dp _ l)) ?_ | refine congrArg (C.sl _) ?_)) <;> (try (rw [wrap_i64 (by omega) (by omega)]; first | rfl | omega))))
      · intro i ⟨hi', hpre⟩
        refine vc_sound hT hM _ _ _ ?_
        (repeat' ((conv => whnf); first | (refine nx ?_; intro s) | (refine rg ?_; intro s k) | ((refine cas (fun h => ?_) (fun h => ?_)) <;> (try simp [-List.getD_eq_getElem?_getD, inB_iff, inB_niff] at h)) | ((refine may (fun h => ?_) ?_) <;> (try simp [-List.getD_eq_getElem?_getD, inB_iff, inB_niff] at h)) | (refine giv fun hg => ?_; (try simp only [byE] at hg)) | (refine need (by kernel_rfl) ?_) | (refine need ⟨by omega, by omega⟩ ?_) | (refine need (by omega) ?_) | (refine need (by first | (simp; done) | (simp; omega)) ?_) | (refine call_p (r_specMsgOk (t.buf.getD i (dflt .ms))) rfl (by (repeat' (first | exact trivial | refine ⟨?_, ?_⟩ | exact rfl | exact Or.inr rfl | exact Or.inl (Nat.le_of_ble_eq_true rfl)))) ?_) | (refine call_p (r_l1In (t.buf.getD i (dflt .ms)).k lo (IntKind.i64.wrap (hi - 1))) rfl (by (repeat' (first | exact trivial | refine ⟨?_, ?_⟩ | exact rfl | exact Or.inr rfl | exact Or.inl (Nat.le_of_ble_eq_true rfl)))) ?_) | (refine ⟨i + 1, ?_, by omega, ?_⟩) | (refine fin_au rfl ?_; (conv => whnf); ((repeat' (first | exact trivial | refine ⟨?_, ?_⟩ | exact rfl | exact Or.inr rfl | exact Or.inl (Nat.le_of_ble_eq_true rfl))) <;> (try (conv => whnf)) <;> (try (first | refine congrArg C.bool ?_ | refine congrArg (C.int .i64) ?_ | refine congrArg C.str ?_ | refine congrArg (fun l => some (Ob.row _ l)) ?_ | refine congrArg (fun l => some (Ob.dp _ l)) ?_ | refine congrArg (C.sl _) ?_)) <;> (try (rw [wrap_i64 (by omega) (by omega)]; first | rfl | omega)))) | (refine WkF.au ?_; (conv => whnf); ((repeat' (first | exact trivial | refine ⟨?_, ?_⟩ | exact rfl | exact Or.inr rfl | exact Or.inl (Nat.le_of_ble_eq_true rfl))) <;> (try (conv => whnf)) <;> (try (first | refine congrArg C.bool ?_ | refine congrArg (C.int .i64) ?_ | refine congrArg C.str ?_ | refine congrArg (fun l => some (Ob.row _ l)) ?_ | refine congrArg (fun l => some (Ob.dp _ l)) ?_ | refine congrArg (C.sl _) ?_)) <;> (try (rw [wrap_i64 (by omega) (by omega)]; first | rfl | omega)))) | (refine altl ?_) | fail))
        · exact (depF_buf (i := i) hleaf (by omega) (by simp_all [bufM])).symm
        · exact (depF_buf (i := i) hleaf (by omega) (by simp_all [bufM])).symm
        · exact (depF_buf (i := i) hleaf (by omega) (by simp_all [bufM, inB_niff])).symm
        · exact ⟨by omega, fun j hj => (Nat.lt_succ_iff_lt_or_eq.1 hj).elim (hpre j) fun e => by subst e; simp_all [bufM, inB_iff]⟩
        · have hgood := depF_good (n := n) (lo := lo) (hi := hi) hleaf hshape fun j hj => hpre j (by omega)
          (repeat ((conv => whnf); first | (refine nx ?_; intro s) | (refine rg ?_; intro s k))); (conv => whnf)
          refine Tri.loop (fun p : Nat × Int × Int => ⟨[(1, aI lo), (2, aI hi), (3, aI (n + 1 : Nat)), (4, .pt 0 0), (9, aI t.kids.length), (11, aI p.2.1), (12, aI p.2.2), (13, aI p.1)], [(0, .box ((cells .tr t).map .c))], 1⟩) (fun p => p.1 ≤ t.kids.length ∧ (0 ≤ p.2.1 ∧ p.2.1 ≤ 7) ∧ (0 ≤ p.2.2 ∧ p.2.2 ≤ 1000) ∧ depF (n + 1) t lo hi = kidsF (depF n) t.cuts hi (t.kids.drop p.1) p.1 p.2.1 p.2.2) (fun p => t.kids.length - p.1) (0, 0, lo) ⟨by simp, by simp, hlo, by simpa using hgood⟩ ?_ ?_
          · (refine WkF.au ?_; (conv => whnf); ((repeat' (first | exact trivial | refine ⟨?_, ?_⟩ | exact rfl | exact Or.inr rfl | exact Or.inl (Nat.le_of_ble_eq_true rfl))) <;> (try (conv => whnf)) <;> (try (first | refine congrArg C.bool ?_ | refine congrArg (C.int .i64) ?_ | refine congrArg C.str ?_ | refine congrArg (fun l => some (Ob.row _ l)) ?_ | refine congrArg (fun l => some (Ob.dp _ l)) ?_ | refine congrArg (C.sl _) ?_)) <;> (try (rw [wrap_i64 (by omega) (by omega)]; first | rfl | omega))))
          · intro ⟨j, d, a⟩ ⟨hj, hd, ha, hinv⟩
            simp only at hj hd ha hinv
            have hwa : IntKind.i64.wrap (a + 1) = a + 1 := wrap_i64 (by omega) (by omega)
            refine vc_sound hT hM _ _ _ ?_
            (repeat' ((conv => whnf); first | (refine nx ?_; intro s) | (refine rg ?_; intro s k) | ((refine cas (fun h => ?_) (fun h => ?_)) <;> (try simp [-List.getD_eq_getElem?_getD, hwk, hwa, hwh, inB_iff, inB_niff] at h)) | ((refine may (fun h => ?_) ?_) <;> (try simp [-List.getD_eq_getElem?_getD, hwk, hwa, hwh, inB_iff, inB_niff] at h)) | (refine giv fun hg => ?_; (try simp only [byE] at hg)) | (refine need (by kernel_rfl) ?_) | (refine need ⟨by omega, by omega⟩ ?_) | (refine need (by omega) ?_) | (refine need (by first | (simp; done) | (simp; omega)) ?_) | (refine call_p (r_l1In (t.cuts.getD j (dflt .int)) (IntKind.i64.wrap (a + 1)) (IntKind.i64.wrap (hi - 1))) rfl (by (repeat' (first | exact trivial | refine ⟨?_, ?_⟩ | exact rfl | exact Or.inr rfl | exact Or.inl (Nat.le_of_ble_eq_true rfl)))) ?_) | (refine call_p (hcall (t.kids.getD j (dflt .tr)) a (t.cuts.getD j (dflt .int)) ha (by omega)) rfl (by (repeat' (first | exact trivial | refine ⟨?_, ?_⟩ | exact rfl | exact Or.inr rfl | exact Or.inl (Nat.le_of_ble_eq_true rfl)))) ?_) | (refine call_p (hcall (t.kids.getD j (dflt .tr)) a hi ha hhi) rfl (by (repeat' (first | exact trivial | refine ⟨?_, ?_⟩ | exact rfl | exact Or.inr rfl | exact Or.inl (Nat.le_of_ble_eq_true rfl)))) ?_) | (refine ⟨(j + 1, depF n (t.kids.getD j (dflt .tr)) a (t.cuts.getD j (dflt .int)), t.cuts.getD j (dflt .int)), ?_, (by have hgd : j < t.cuts.length := (by omega); show t.kids.length - (j + 1) < t.kids.length - j; omega), ?_⟩) | (refine ⟨(j + 1, depF n (t.kids.getD j (dflt .tr)) a hi, hi), ?_, (by show t.kids.length - (j + 1) < t.kids.length - j; omega), ?_⟩) | (refine fin_au rfl ?_; (conv => whnf); ((repeat' (first | exact trivial | refine ⟨?_, ?_⟩ | exact rfl | exact Or.inr rfl | exact Or.inl (Nat.le_of_ble_eq_true rfl))) <;> (try (conv => whnf)) <;> (try (first | refine congrArg C.bool ?_ | refine congrArg (C.int .i64) ?_ | refine congrArg C.str ?_ | refine congrArg (fun l => some (Ob.row _ l)) ?_ | refine congrArg (fun l => some (Ob.dp _ l)) ?_ | refine congrArg (C.sl _) ?_)) <;> (try (rw [wrap_i64 (by omega) (by omega)]; first | rfl | omega)))) | (refine WkF.au ?_; (conv => whnf); ((repeat' (first | exact trivial | refine ⟨?_, ?_⟩ | exact rfl | exact Or.inr rfl | exact Or.inl (Nat.le_of_ble_eq_true rfl))) <;> (try (conv => whnf)) <;> (try (first | refine congrArg C.bool ?_ | refine congrArg (C.int .i64) ?_ | refine congrArg C.str ?_ | refine congrArg (fun l => some (Ob.row _ l)) ?_ | refine congrArg (fun l => some (Ob.dp _ l)) ?_ | refine congrArg (C.sl _) ?_)) <;> (try (rw [wrap_i64 (by omega) (by omega)]; first | rfl | omega)))) | (refine altl ?_) | fail))
            all_goals
              try dsimp only
              first
              | (exfalso; omega)
              | (rw [List.drop_eq_nil_of_le (by omega)] at hinv; simp only [kidsF] at hinv; rw [hinv, wrap_i64 (by omega) (by omega)]; done)
              | (have hb1 := hlt (t.kids.getD j (dflt .tr)) a (t.cuts.getD j (dflt .int))
                 have hb2 := hlt (t.kids.getD j (dflt .tr)) a hi
                 rw [kidsF_step (by omega)] at hinv
                 first
                 | (rw [hinv]
                    (repeat' split) <;> first | rfl | omega | (exfalso; simp only [inB_niff] at *; omega))
                 | (refine ⟨by omega, by omega, by omega, ?_⟩
                    rw [hinv]
                    (repeat' split) <;> first | rfl | (exfalso; simp only [inB_niff] at *; omega)))
end Go.Proofs.YthbpdhppelaihaaGreat
