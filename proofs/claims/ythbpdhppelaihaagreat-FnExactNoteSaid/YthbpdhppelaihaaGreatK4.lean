/- What holds the marks of trees. Conditions: none. -/
import Derived.Test.YthbpdhppelaihaaGreatK3
set_option linter.unusedVariables false
set_option linter.unusedSimpArgs false
namespace Go.Proofs.YthbpdhppelaihaaGreat
open Go.RowKit
attribute [local irreducible] Tri Weak
set_option maxRecDepth 4000
set_option maxHeartbeats 4000000
theorem h_Pr {ys xs : List Pr} {q k : Int} (hy : ys = mkG fPr (cK 2) q xs) (hq : k = q) (h0 : 0 ≤ q) (h1 : q + cnG (cK 2) xs ≤ 4611686018427387904) : Ret Tryz.prog 66 [aL .pr ys, aI k] [] (aI (q + cnG (cK 2) xs)) [] := by
  subst hy; subst hq; exact r_heldPairS xs k h0 h1
theorem h_In {ys xs : List Int} {q k : Int} (hy : ys = mkG fInt (cK 1) q xs) (hq : k = q) (h0 : 0 ≤ q) (h1 : q + cnG (cK 1) xs ≤ 4611686018427387904) : Ret Tryz.prog 67 [aL .int ys, aI k] [] (aI (q + cnG (cK 1) xs)) [] := by
  subst hy; subst hq; exact r_heldIntS xs k h0 h1
theorem h_Ms {ys xs : List Ms} {q k : Int} (hy : ys = mkG fMs (cK 3) q xs) (hq : k = q) (h0 : 0 ≤ q) (h1 : q + cnG (cK 3) xs ≤ 4611686018427387904) : Ret Tryz.prog 69 [aL .ms ys, aI k] [] (aI (q + cnG (cK 3) xs)) [] := by
  subst hy; subst hq; exact r_heldMsgS xs k h0 h1
theorem r_heldTreeS' : ∀ (n : Nat) (xs ys : List Tr) (q k : Int), SizeOf.sizeOf xs < n → ys = mkG fTr cTr q xs → k = q → 0 ≤ q → q + cnG cTr xs ≤ 4611686018427387904 → Ret Tryz.prog 68 [aL .tr ys, aI k] [] (aI (q + cnG cTr xs)) [] := by
  intro n
  induction n with
  | zero => intro xs ys q k h; omega
  | succ n ih =>
    intro xs ys q q1 hn hy hk h0 h1
    subst hy
    have hk := hk.symm
    subst hk
    refine ret_vc hT hM Tryz.func68 rfl rfl (m := 0) (nx := 0) rfl (Nat.le_of_ble_eq_true rfl) ?_
    (repeat ((conv => whnf); first | (refine nx ?_; intro s) | (refine rg ?_; intro s k))); (conv => whnf)
    refine Tri.loop (fun i : Nat => ⟨[(0, aL .tr (mkG fTr cTr q xs)), (1, aI (q + cnG cTr (xs.take i))), (5, aI i)], [], 0⟩) (fun i => i ≤ xs.length) (fun i => xs.length - i) 0 (Nat.zero_le _) ?_ ?_
    · (refine WkF.au ?_; (conv => whnf); ((repeat' (first | exact trivial | refine ⟨?_, ?_⟩ | exact rfl | exact Or.inr rfl | exact Or.inl (Nat.le_of_ble_eq_true rfl) | exact Or.inl rfl)) <;> (try (conv => whnf)) <;> (try (first | refine congrArg C.bool ?_ | refine congrArg (C.int .i64) ?_ | refine congrArg C.str ?_ | refine congrArg (fun l => some (Ob.row _ l)) ?_ | refine congrArg (fun l => some (Ob.dp _ l)) ?_ | refine congrArg (C.sl _) ?_)) <;> (try (rw [wrap_i64 (by omega) (by omega)]; first | rfl | omega))))
      all_goals (simp [cnG]; done)
    · intro i hi
      rcases Nat.lt_or_ge i xs.length with hl | hl
      · have hp := cnG_pos cTr_pos (xs.take i)
        have hq3 := cnG_take cTr_pos xs (i + 1)
        have hsu := cnG_succ (c := cTr) xs i (dflt .tr) hl
        have hpt := cT_parts (xs.getD i (dflt .tr))
        have he := (mkG_getD (f := fTr) (c := cTr) xs q i (dflt .tr) hl).trans (fTr_eq _ _)
        have hkd : SizeOf.sizeOf (xs.getD i (dflt .tr)).kids < n := by
          have h2 : SizeOf.sizeOf (xs.getD i (dflt .tr)) < SizeOf.sizeOf xs := List.sizeOf_lt_of_mem (List.mem_of_getElem? (getD_some hl (dflt .tr)))
          have h3 : SizeOf.sizeOf (xs.getD i (dflt .tr)).kids < SizeOf.sizeOf (xs.getD i (dflt .tr)) := by
            cases xs.getD i (dflt .tr); simp; omega
          omega
        generalize hx : xs.getD i (dflt .tr) = x at *
        generalize hc0 : q + cnG cTr (xs.take i) = c0 at *
        have hw := wrap_i64 (n := c0 + 1) (by omega) (by omega)
        refine vc_sound hT hM _ _ _ ?_
        (repeat' ((conv => whnf); first | (refine nx ?_; intro s) | (refine rg ?_; intro s k) | ((refine cas (fun h => ?_) (fun h => ?_)) <;> (try simp [-List.getD_eq_getElem?_getD, he, t3] at h)) | ((refine may (fun h => ?_) ?_) <;> (try simp [-List.getD_eq_getElem?_getD, he, t3] at h)) | (refine giv fun hg => ?_; (try simp only [byE] at hg)) | (refine need (by kernel_rfl) ?_) | (refine need ⟨by omega, by omega⟩ ?_) | (refine need (by omega) ?_) | (refine need (by first | (simp; done) | (simp; omega)) ?_) | (refine call_p (h_Pr (xs := x.pairs) (congrArg Tr.pairs he) hw (by omega) (by omega)) rfl (by (repeat' (first | exact trivial | refine ⟨?_, ?_⟩ | exact rfl | exact Or.inr rfl | exact Or.inl (Nat.le_of_ble_eq_true rfl) | exact Or.inl rfl)); (first | done | fail)) ?_) | (refine call_p (h_In (xs := x.cuts) (congrArg Tr.cuts he) rfl (by omega) (by omega)) rfl (by (repeat' (first | exact trivial | refine ⟨?_, ?_⟩ | exact rfl | exact Or.inr rfl | exact Or.inl (Nat.le_of_ble_eq_true rfl) | exact Or.inl rfl)); (first | done | fail)) ?_) | (refine call_p (ih x.kids _ _ _ hkd (congrArg Tr.kids he) rfl (by omega) (by omega)) rfl (by (repeat' (first | exact trivial | refine ⟨?_, ?_⟩ | exact rfl | exact Or.inr rfl | exact Or.inl (Nat.le_of_ble_eq_true rfl) | exact Or.inl rfl)); (first | done | fail)) ?_) | (refine call_p (h_Ms (xs := x.buf) (congrArg Tr.buf he) rfl (by omega) (by omega)) rfl (by (repeat' (first | exact trivial | refine ⟨?_, ?_⟩ | exact rfl | exact Or.inr rfl | exact Or.inl (Nat.le_of_ble_eq_true rfl) | exact Or.inl rfl)); (first | done | fail)) ?_) | (refine ⟨(i + 1 : Nat), ?_, ?_, ?_⟩) | (exfalso; omega) | (refine fin_au rfl ?_; (conv => whnf); ((repeat' (first | exact trivial | refine ⟨?_, ?_⟩ | exact rfl | exact Or.inr rfl | exact Or.inl (Nat.le_of_ble_eq_true rfl) | exact Or.inl rfl)) <;> (try (conv => whnf)) <;> (try (first | refine congrArg C.bool ?_ | refine congrArg (C.int .i64) ?_ | refine congrArg C.str ?_ | refine congrArg (fun l => some (Ob.row _ l)) ?_ | refine congrArg (fun l => some (Ob.dp _ l)) ?_ | refine congrArg (C.sl _) ?_)) <;> (try (rw [wrap_i64 (by omega) (by omega)]; first | rfl | omega)))) | (refine WkF.au ?_; (conv => whnf); ((repeat' (first | exact trivial | refine ⟨?_, ?_⟩ | exact rfl | exact Or.inr rfl | exact Or.inl (Nat.le_of_ble_eq_true rfl) | exact Or.inl rfl)) <;> (try (conv => whnf)) <;> (try (first | refine congrArg C.bool ?_ | refine congrArg (C.int .i64) ?_ | refine congrArg C.str ?_ | refine congrArg (fun l => some (Ob.row _ l)) ?_ | refine congrArg (fun l => some (Ob.dp _ l)) ?_ | refine congrArg (C.sl _) ?_)) <;> (try (rw [wrap_i64 (by omega) (by omega)]; first | rfl | omega)))) | (refine altl ?_) | fail))
        all_goals (try simp only [mkG_len] at hg)
        all_goals first
          | omega
          | (rw [wrap_i64 (by omega) (by omega)]; rfl)
      · refine vc_sound hT hM _ _ _ ?_
        (repeat' ((conv => whnf); first | (refine nx ?_; intro s) | (refine rg ?_; intro s k) | ((refine cas (fun h => ?_) (fun h => ?_)) <;> (try simp [-List.getD_eq_getElem?_getD] at h)) | ((refine may (fun h => ?_) ?_) <;> (try simp [-List.getD_eq_getElem?_getD] at h)) | (refine giv fun hg => ?_; (try simp only [byE] at hg)) | (refine need (by kernel_rfl) ?_) | (refine need ⟨by omega, by omega⟩ ?_) | (refine need (by omega) ?_) | (refine need (by first | (simp; done) | (simp; omega)) ?_) | (exfalso; omega) | (refine WkF.au ?_; (conv => whnf); ((repeat' (first | exact trivial | refine ⟨?_, ?_⟩ | exact rfl | exact Or.inr rfl | exact Or.inl (Nat.le_of_ble_eq_true rfl) | exact Or.inl rfl)) <;> (try (conv => whnf)) <;> (try (first | refine congrArg C.bool ?_ | refine congrArg (C.int .i64) ?_ | refine congrArg C.str ?_ | refine congrArg (fun l => some (Ob.row _ l)) ?_ | refine congrArg (fun l => some (Ob.dp _ l)) ?_ | refine congrArg (C.sl _) ?_)) <;> (try (rw [wrap_i64 (by omega) (by omega)]; first | rfl | omega)))) | (refine altl ?_) | fail))
        all_goals first | (exfalso; omega) | skip
        (refine fin_au rfl ?_; (conv => whnf); ((repeat' (first | exact trivial | refine ⟨?_, ?_⟩ | exact rfl | exact Or.inr rfl | exact Or.inl (Nat.le_of_ble_eq_true rfl) | exact Or.inl rfl)) <;> (try (conv => whnf)) <;> (try (first | refine congrArg C.bool ?_ | refine congrArg (C.int .i64) ?_ | refine congrArg C.str ?_ | refine congrArg (fun l => some (Ob.row _ l)) ?_ | refine congrArg (fun l => some (Ob.dp _ l)) ?_ | refine congrArg (C.sl _) ?_)) <;> (try (rw [wrap_i64 (by omega) (by omega)]; first | rfl | omega))))
        all_goals first
          | (rw [cnG_all (by omega)]; done)
theorem r_heldTreeS (xs : List Tr) (q : Int) (h0 : 0 ≤ q) (h1 : q + cnG cTr xs ≤ 4611686018427387904) : Ret Tryz.prog 68 [aL .tr (mkG fTr cTr q xs), aI q] [] (aI (q + cnG cTr xs)) [] := r_heldTreeS' _ xs _ q q (Nat.lt_succ_self _) rfl rfl h0 h1
theorem r_heldTree (x : Tr) (q : Int) (h0 : 0 ≤ q) (h1 : q + cnT x ≤ 4611686018427387904) : Ret Tryz.prog 17 [agE .tr (mkT q x), aI q] [] (aI (q + cnT x)) [] := by
  have hpt := cT_parts x
  have he := cnT_eq x
  rw [mkT_eq]
  refine ret_vc hT hM Tryz.func17 rfl rfl (m := 0) (nx := 0) rfl (Nat.le_of_ble_eq_true rfl) ?_
  (repeat' ((conv => whnf); first | (refine nx ?_; intro s) | (refine rg ?_; intro s k) | ((refine cas (fun h => ?_) (fun h => ?_)) <;> (try simp [-List.getD_eq_getElem?_getD] at h)) | ((refine may (fun h => ?_) ?_) <;> (try simp [-List.getD_eq_getElem?_getD] at h)) | (refine giv fun hg => ?_; (try simp only [byE] at hg)) | (refine need (by kernel_rfl) ?_) | (refine need ⟨by omega, by omega⟩ ?_) | (refine need (by omega) ?_) | (refine need (by first | (simp; done) | (simp; omega)) ?_) | (refine call_p (r_heldPairS x.pairs _ (by omega) (by omega)) rfl (by (repeat' (first | exact trivial | refine ⟨?_, ?_⟩ | exact rfl | exact Or.inr rfl | exact Or.inl (Nat.le_of_ble_eq_true rfl) | exact Or.inl rfl)); (first | done | fail)) ?_) | (refine call_p (r_heldIntS x.cuts _ (by omega) (by omega)) rfl (by (repeat' (first | exact trivial | refine ⟨?_, ?_⟩ | exact rfl | exact Or.inr rfl | exact Or.inl (Nat.le_of_ble_eq_true rfl) | exact Or.inl rfl)); (first | done | fail)) ?_) | (refine call_p (r_heldTreeS x.kids _ (by omega) (by omega)) rfl (by (repeat' (first | exact trivial | refine ⟨?_, ?_⟩ | exact rfl | exact Or.inr rfl | exact Or.inl (Nat.le_of_ble_eq_true rfl) | exact Or.inl rfl)); (first | done | fail)) ?_) | (refine call_p (r_heldMsgS x.buf _ (by omega) (by omega)) rfl (by (repeat' (first | exact trivial | refine ⟨?_, ?_⟩ | exact rfl | exact Or.inr rfl | exact Or.inl (Nat.le_of_ble_eq_true rfl) | exact Or.inl rfl)); (first | done | fail)) ?_) | (exfalso; omega) | (refine fin_au rfl ?_; (conv => whnf); ((repeat' (first | exact trivial | refine ⟨?_, ?_⟩ | exact rfl | exact Or.inr rfl | exact Or.inl (Nat.le_of_ble_eq_true rfl) | exact Or.inl rfl)) <;> (try (conv => whnf)) <;> (try (first | refine congrArg C.bool ?_ | refine congrArg (C.int .i64) ?_ | refine congrArg C.str ?_ | refine congrArg (fun l => some (Ob.row _ l)) ?_ | refine congrArg (fun l => some (Ob.dp _ l)) ?_ | refine congrArg (C.sl _) ?_)) <;> (try (rw [wrap_i64 (by omega) (by omega)]; first | rfl | omega)))) | (refine WkF.au ?_; (conv => whnf); ((repeat' (first | exact trivial | refine ⟨?_, ?_⟩ | exact rfl | exact Or.inr rfl | exact Or.inl (Nat.le_of_ble_eq_true rfl) | exact Or.inl rfl)) <;> (try (conv => whnf)) <;> (try (first | refine congrArg C.bool ?_ | refine congrArg (C.int .i64) ?_ | refine congrArg C.str ?_ | refine congrArg (fun l => some (Ob.row _ l)) ?_ | refine congrArg (fun l => some (Ob.dp _ l)) ?_ | refine congrArg (C.sl _) ?_)) <;> (try (rw [wrap_i64 (by omega) (by omega)]; first | rfl | omega)))) | (refine altl ?_) | fail))
  all_goals (rw [he]; omega)
end Go.Proofs.YthbpdhppelaihaaGreat
