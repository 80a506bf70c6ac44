/- laws.FnExactInject and laws.FnExactDrain whatever their input. Conditions: none. -/
import Derived.Test.YthbpdhppelaihaaGreatZJ
set_option linter.unusedVariables false
set_option linter.unusedSimpArgs false
namespace Go.Proofs.YthbpdhppelaihaaGreat
open Go.RowKit
attribute [local irreducible] Tri Weak
set_option maxRecDepth 4000
set_option maxHeartbeats 4000000
theorem eqB_t {α : Type} {x y : α} : eqB x y = true ↔ x = y := ⟨fun h => Classical.byContradiction fun hn => (by rw [eqB_no hn] at h; cases h), eqB_yes⟩
theorem eqB_f {α : Type} {x y : α} : eqB x y = false ↔ ¬ x = y := ⟨fun h e => (by rw [eqB_yes e] at h; cases h), eqB_no⟩
def cnB : Nat → Int
  | 0 => 0
  | n + 1 => 4 * cnB n + 40
theorem row_cn {P : Int → Int → Tr → Prop} {B : Int} (h0 : 0 ≤ B) (hP : ∀ a b k, P a b k → cTr k ≤ B) : ∀ {ks : List Tr} {cs : List Int} {lo hi : Int}, RowI P lo hi ks cs → cnG cTr ks ≤ ks.length * B
  | k :: ks, c :: cs, lo, hi, h => by
    simp only [RowI] at h
    have h1 := hP _ _ _ h.2.2.1
    have h2 := row_cn h0 hP h.2.2.2
    simp only [cnG, List.length_cons]
    rw [Int.natCast_add, Int.add_mul]
    omega
  | [k], [], lo, hi, h => by
    simp only [RowI] at h
    have h1 := hP _ _ _ h
    simp only [cnG, List.length_cons, List.length_nil]; omega
  | k :: k' :: ks, [], lo, hi, h => by simp only [RowI] at h
  | [], c :: cs, lo, hi, h => by simp only [RowI] at h
  | [], [], lo, hi, h => by simp only [RowI] at h
theorem cnB_pos : ∀ n, 0 ≤ cnB n
  | 0 => Int.le_refl _
  | n + 1 => by have := cnB_pos n; simp only [cnB]; omega
theorem dep_cn : ∀ (n : Nat) (t : Tr) (lo hi : Int), depF n t lo hi ≠ 0 → cnT t ≤ cnB n
  | 0, t, lo, hi, h => absurd rfl h
  | n + 1, t, lo, hi, h => by
    have hB := cnB_pos n
    rw [cnT_eq, cnG_cK, cnG_cK, cnG_cK]
    by_cases hl : t.leaf = true
    · simp only [depF] at h
      rw [if_pos hl] at h
      split at h
      · rename_i hb
        unfold leafB at hb
        simp only [Bool.and_eq_true, decide_eq_true_eq, List.length_eq_zero_iff] at hb
        obtain ⟨⟨⟨⟨⟨h1, h2⟩, h3⟩, h4⟩, h5⟩, h6⟩ := hb
        rw [h3, h4, h5]
        simp only [cnG, List.length_nil, cnB]
        omega
      · exact absurd rfl h
    · have hl' : t.leaf = false := by simpa using hl
      by_cases hs : shapeB t = true ∧ t.buf.all (bufM lo hi) = true
      · have e : depF (n + 1) t lo hi = kidsF (depF n) t.cuts hi t.kids 0 0 lo := by
          simp only [depF]; rw [if_neg hl, hs.1, hs.2]; rfl
        rw [e] at h
        obtain ⟨h1, h2, h3, h4⟩ := shapeB_iff.1 hs.1
        obtain ⟨D, hD0, hD1, _, hD3⟩ := kids_row t.kids 0 0 lo (by intro e; rw [e] at h1; simp at h1) (by omega) h
        rw [List.drop_zero] at hD3
        have hk := row_cn (B := cnB n + 1) (by omega) (fun a b k hk => by
          have := dep_cn n k a b (by rw [hk]; exact hD0)
          unfold cTr; omega) hD3
        have h5 : (t.kids.length : Int) * (cnB n + 1) ≤ 4 * (cnB n + 1) := Int.mul_le_mul_of_nonneg_right (by omega) (by omega)
        simp only [cnB]
        omega
      · exact absurd (depF_bad hl' hs) h
theorem okT_cn {t : Tr} (h : okT t = true) : cnT t ≤ 4000000 := by
  have h' : 0 < depF 7 t 0 1000 := by unfold okT at h; exact of_decide_eq_true h
  exact Int.le_trans (dep_cn 7 t 0 1000 (by omega)) (by decide)
theorem cn_inj (t : Tr) (m : Ms) : cnT (injF t m) ≤ 4000000 ∨ injF t m = t := by
  unfold injF
  split
  · exact .inl (okT_cn (by rename_i h; exact h.2.2.2))
  · exact .inr rfl
theorem cn_drn (t : Tr) : cnT (drnF t) ≤ 4000000 ∨ drnF t = t := by
  unfold drnF
  split
  · exact .inl (okT_cn (by rename_i h; exact h.2))
  · exact .inr rfl
theorem r_heldT (o : Tr) (h : cnT o ≤ 9437184) : Ret Tryz.prog 17 [.ag [.c (.bool o.leaf), aL .pr (mkT 1 o).pairs, aL .int (mkT 1 o).cuts, aL .tr (mkT 1 o).kids, aL .ms (mkT 1 o).buf], aI 1] [] (aI (1 + cnT o)) [] := by
  rw [show o.leaf = (mkT 1 o).leaf by rw [mkT_eq]]
  exact r_heldTree o 1 (by decide) (by omega)
theorem r_lawInject (t : Tr) (m : Ms) : Ret Tryz.prog 4 [agE .tr t, agE .ms m] [] (.c (.bool true)) [] := by
  refine ret_bnd 0 ⟨_, Tryz.func4, rfl, rfl⟩ rfl fun hb => ?_
  have hA := good_T t hb 1048576 (by decide) (by decide)
  have hcn := cn_inj t m
  have hp1 := cnT_pos t
  have hp2 := cnT_pos (injF t m)
  have hor : 0 ≤ szT t 1048576 → cnT (injF t m) ≤ 9437184 := fun h => by
    rcases hcn with h1 | h1
    · omega
    · rw [h1]; have := hA (by omega); omega
  clear hb hcn
  have hsp := r_specInject t m
  have him := r_implInject t m
  generalize injF t m = o at *
  refine ret_vc hT hM Tryz.func4 rfl rfl (m := 0) (nx := 0) rfl (Nat.le_of_ble_eq_true rfl) ?_
  (repeat' ((conv => whnf); first | (refine nx ?_; intro s) | (refine rg ?_; intro s k) | ((refine cas (fun h => ?_) (fun h => ?_)) <;> (try simp [-List.getD_eq_getElem?_getD, eqB_t, eqB_f] at h)) | ((refine may (fun h => ?_) ?_) <;> (try simp [-List.getD_eq_getElem?_getD, eqB_t, eqB_f] at h)) | (refine giv fun hg => ?_; (try simp only [byE] at hg)) | (refine need (by kernel_rfl) ?_) | (refine need ⟨by omega, by omega⟩ ?_) | (refine need (by omega) ?_) | (refine need (by first | (simp; done) | (simp; omega)) ?_) | (refine call_p (r_szTree t 1048576) rfl (by (repeat' (first | exact trivial | refine ⟨?_, ?_⟩ | exact rfl | exact Or.inr rfl | exact Or.inl (Nat.le_of_ble_eq_true rfl) | exact Or.inl rfl)); (first | done | fail)) ?_) | (refine call_n (r_toTree t) rfl (by (repeat' (first | exact trivial | refine ⟨?_, ?_⟩ | exact rfl | exact Or.inr rfl | exact Or.inl (Nat.le_of_ble_eq_true rfl) | exact Or.inl rfl)); (first | done | fail)) (by (repeat' (first | exact trivial | refine ⟨?_, ?_⟩ | exact rfl | exact Or.inr rfl | exact Or.inl (Nat.le_of_ble_eq_true rfl) | exact Or.inl rfl)); (first | done | fail)) ?_) | (refine call_p (r_toMsg m) rfl (by (repeat' (first | exact trivial | refine ⟨?_, ?_⟩ | exact rfl | exact Or.inr rfl | exact Or.inl (Nat.le_of_ble_eq_true rfl) | exact Or.inl rfl)); (first | done | fail)) ?_) | (refine call_b (hsp) (by (repeat' (first | exact trivial | refine ⟨?_, ?_⟩ | exact rfl | exact Or.inr rfl | exact Or.inl (Nat.le_of_ble_eq_true rfl) | exact Or.inl rfl)); (first | done | fail)) (by (repeat' (first | exact trivial | refine ⟨?_, ?_⟩ | exact rfl | exact Or.inr rfl | exact Or.inl (Nat.le_of_ble_eq_true rfl) | exact Or.inl rfl)); (first | done | fail)) (by (repeat' (first | exact trivial | refine ⟨?_, ?_⟩ | exact rfl | exact Or.inr rfl | exact Or.inl (Nat.le_of_ble_eq_true rfl) | exact Or.inl rfl)); (first | done | fail)) (by (repeat' (first | exact trivial | refine ⟨?_, ?_⟩ | exact rfl | exact Or.inr rfl | exact Or.inl (Nat.le_of_ble_eq_true rfl) | exact Or.inl rfl)); (first | done | fail)) (by (repeat' (first | exact trivial | refine ⟨?_, ?_⟩ | exact rfl | exact Or.inr rfl | exact Or.inl (Nat.le_of_ble_eq_true rfl) | exact Or.inl rfl)); (first | done | fail)) ?_) | (refine call_b (him) (by (repeat' (first | exact trivial | refine ⟨?_, ?_⟩ | exact rfl | exact Or.inr rfl | exact Or.inl (Nat.le_of_ble_eq_true rfl) | exact Or.inl rfl)); (first | done | fail)) (by (repeat' (first | exact trivial | refine ⟨?_, ?_⟩ | exact rfl | exact Or.inr rfl | exact Or.inl (Nat.le_of_ble_eq_true rfl) | exact Or.inl rfl)); (first | done | fail)) (by (repeat' (first | exact trivial | refine ⟨?_, ?_⟩ | exact rfl | exact Or.inr rfl | exact Or.inl (Nat.le_of_ble_eq_true rfl) | exact Or.inl rfl)); (first | done | fail)) (by (repeat' (first | exact trivial | refine ⟨?_, ?_⟩ | exact rfl | exact Or.inr rfl | exact Or.inl (Nat.le_of_ble_eq_true rfl) | exact Or.inl rfl)); (first | done | fail)) (by (repeat' (first | exact trivial | refine ⟨?_, ?_⟩ | exact rfl | exact Or.inr rfl | exact Or.inl (Nat.le_of_ble_eq_true rfl) | exact Or.inl rfl)); (first | done | fail)) ?_) | (refine call_b (r_eqTree o o) (by (repeat' (first | exact trivial | refine ⟨?_, ?_⟩ | exact rfl | exact Or.inr rfl | exact Or.inl (Nat.le_of_ble_eq_true rfl) | exact Or.inl rfl)); (first | done | fail)) (by (repeat' (first | exact trivial | refine ⟨?_, ?_⟩ | exact rfl | exact Or.inr rfl | exact Or.inl (Nat.le_of_ble_eq_true rfl) | exact Or.inl rfl)); (first | done | fail)) (by (repeat' (first | exact trivial | refine ⟨?_, ?_⟩ | exact rfl | exact Or.inr rfl | exact Or.inl (Nat.le_of_ble_eq_true rfl) | exact Or.inl rfl)); (first | done | fail)) (by (repeat' (first | exact trivial | refine ⟨?_, ?_⟩ | exact rfl | exact Or.inr rfl | exact Or.inl (Nat.le_of_ble_eq_true rfl) | exact Or.inl rfl)); (first | done | fail)) (by (repeat' (first | exact trivial | refine ⟨?_, ?_⟩ | exact rfl | exact Or.inr rfl | exact Or.inl (Nat.le_of_ble_eq_true rfl) | exact Or.inl rfl)); (first | done | fail)) ?_) | (refine call_b (r_eqTree t t) (by (repeat' (first | exact trivial | refine ⟨?_, ?_⟩ | exact rfl | exact Or.inr rfl | exact Or.inl (Nat.le_of_ble_eq_true rfl) | exact Or.inl rfl)); (first | done | fail)) (by (repeat' (first | exact trivial | refine ⟨?_, ?_⟩ | exact rfl | exact Or.inr rfl | exact Or.inl (Nat.le_of_ble_eq_true rfl) | exact Or.inl rfl)); (first | done | fail)) (by (repeat' (first | exact trivial | refine ⟨?_, ?_⟩ | exact rfl | exact Or.inr rfl | exact Or.inl (Nat.le_of_ble_eq_true rfl) | exact Or.inl rfl)); (first | done | fail)) (by (repeat' (first | exact trivial | refine ⟨?_, ?_⟩ | exact rfl | exact Or.inr rfl | exact Or.inl (Nat.le_of_ble_eq_true rfl) | exact Or.inl rfl)); (first | done | fail)) (by (repeat' (first | exact trivial | refine ⟨?_, ?_⟩ | exact rfl | exact Or.inr rfl | exact Or.inl (Nat.le_of_ble_eq_true rfl) | exact Or.inl rfl)); (first | done | fail)) ?_) | (refine call_g [12,13,14,15] (r_markTree t 1 (by decide) (by omega)) rfl rfl rfl (by (repeat' (first | exact trivial | refine ⟨?_, ?_⟩ | exact rfl | exact Or.inr rfl | exact Or.inl (Nat.le_of_ble_eq_true rfl) | exact Or.inl rfl)); (first | done | fail)) (by (repeat' (first | exact trivial | refine ⟨?_, ?_⟩ | exact rfl | exact Or.inr rfl | exact Or.inl (Nat.le_of_ble_eq_true rfl) | exact Or.inl rfl)); (first | done | fail)) (by (repeat' (first | exact trivial | refine ⟨?_, ?_⟩ | exact rfl | exact Or.inr rfl | exact Or.inl (Nat.le_of_ble_eq_true rfl) | exact Or.inl rfl)); (first | done | fail)) (by (repeat' (first | exact trivial | refine ⟨?_, ?_⟩ | exact rfl | exact Or.inr rfl | exact Or.inl (Nat.le_of_ble_eq_true rfl) | exact Or.inl rfl)); (first | done | fail)) ?_) | (refine call_g [18,19,20,21] (r_markTree o 1 (by decide) (by omega)) rfl rfl rfl (by (repeat' (first | exact trivial | refine ⟨?_, ?_⟩ | exact rfl | exact Or.inr rfl | exact Or.inl (Nat.le_of_ble_eq_true rfl) | exact Or.inl rfl)); (first | done | fail)) (by (repeat' (first | exact trivial | refine ⟨?_, ?_⟩ | exact rfl | exact Or.inr rfl | exact Or.inl (Nat.le_of_ble_eq_true rfl) | exact Or.inl rfl)); (first | done | fail)) (by (repeat' (first | exact trivial | refine ⟨?_, ?_⟩ | exact rfl | exact Or.inr rfl | exact Or.inl (Nat.le_of_ble_eq_true rfl) | exact Or.inl rfl)); (first | done | fail)) (by (repeat' (first | exact trivial | refine ⟨?_, ?_⟩ | exact rfl | exact Or.inr rfl | exact Or.inl (Nat.le_of_ble_eq_true rfl) | exact Or.inl rfl)); (first | done | fail)) ?_) | (refine call_b (r_heldT o (by omega)) (by (repeat' (first | exact trivial | refine ⟨?_, ?_⟩ | exact rfl | exact Or.inr rfl | exact Or.inl (Nat.le_of_ble_eq_true rfl) | exact Or.inl rfl)); (first | done | fail)) (by (repeat' (first | exact trivial | refine ⟨?_, ?_⟩ | exact rfl | exact Or.inr rfl | exact Or.inl (Nat.le_of_ble_eq_true rfl) | exact Or.inl rfl)); (first | done | fail)) (by (repeat' (first | exact trivial | refine ⟨?_, ?_⟩ | exact rfl | exact Or.inr rfl | exact Or.inl (Nat.le_of_ble_eq_true rfl) | exact Or.inl rfl)); (first | done | fail)) (by (repeat' (first | exact trivial | refine ⟨?_, ?_⟩ | exact rfl | exact Or.inr rfl | exact Or.inl (Nat.le_of_ble_eq_true rfl) | exact Or.inl rfl)); (first | done | fail)) (by (repeat' (first | exact trivial | refine ⟨?_, ?_⟩ | exact rfl | exact Or.inr rfl | exact Or.inl (Nat.le_of_ble_eq_true rfl) | exact Or.inl rfl)); (first | done | fail)) ?_) | (exfalso; omega) | (refine fin_au rfl ?_; (conv => whnf); ((repeat' (first | exact trivial | refine ⟨?_, ?_⟩ | exact rfl | exact Or.inr rfl | exact Or.inl (Nat.le_of_ble_eq_true rfl) | exact Or.inl rfl)) <;> (try (conv => whnf)) <;> (try (first | refine congrArg C.bool ?_ | refine congrArg (C.int .i64) ?_ | refine congrArg C.str ?_ | refine congrArg (fun l => some (Ob.row _ l)) ?_ | refine congrArg (fun l => some (Ob.dp _ l)) ?_ | refine congrArg (C.sl _) ?_)) <;> (try (rw [wrap_i64 (by omega) (by omega)]; first | rfl | omega)))) | (refine WkF.au ?_; (conv => whnf); ((repeat' (first | exact trivial | refine ⟨?_, ?_⟩ | exact rfl | exact Or.inr rfl | exact Or.inl (Nat.le_of_ble_eq_true rfl) | exact Or.inl rfl)) <;> (try (conv => whnf)) <;> (try (first | refine congrArg C.bool ?_ | refine congrArg (C.int .i64) ?_ | refine congrArg C.str ?_ | refine congrArg (fun l => some (Ob.row _ l)) ?_ | refine congrArg (fun l => some (Ob.dp _ l)) ?_ | refine congrArg (C.sl _) ?_)) <;> (try (rw [wrap_i64 (by omega) (by omega)]; first | rfl | omega)))) | (refine altl ?_) | fail))
theorem r_lawDrain (t : Tr) : Ret Tryz.prog 5 [agE .tr t] [] (.c (.bool true)) [] := by
  refine ret_bnd 0 ⟨_, Tryz.func5, rfl, rfl⟩ rfl fun hb => ?_
  have hA := good_T t hb 1048576 (by decide) (by decide)
  have hcn := cn_drn t
  have hp1 := cnT_pos t
  have hp2 := cnT_pos (drnF t)
  have hor : 0 ≤ szT t 1048576 → cnT (drnF t) ≤ 9437184 := fun h => by
    rcases hcn with h1 | h1
    · omega
    · rw [h1]; have := hA (by omega); omega
  clear hb hcn
  have hsp := r_specDrain t
  have him := r_implDrain t
  generalize drnF t = o at *
  refine ret_vc hT hM Tryz.func5 rfl rfl (m := 0) (nx := 0) rfl (Nat.le_of_ble_eq_true rfl) ?_
  (repeat' ((conv => whnf); first | (refine nx ?_; intro s) | (refine rg ?_; intro s k) | ((refine cas (fun h => ?_) (fun h => ?_)) <;> (try simp [-List.getD_eq_getElem?_getD, eqB_t, eqB_f] at h)) | ((refine may (fun h => ?_) ?_) <;> (try simp [-List.getD_eq_getElem?_getD, eqB_t, eqB_f] at h)) | (refine giv fun hg => ?_; (try simp only [byE] at hg)) | (refine need (by kernel_rfl) ?_) | (refine need ⟨by omega, by omega⟩ ?_) | (refine need (by omega) ?_) | (refine need (by first | (simp; done) | (simp; omega)) ?_) | (refine call_p (r_szTree t 1048576) rfl (by (repeat' (first | exact trivial | refine ⟨?_, ?_⟩ | exact rfl | exact Or.inr rfl | exact Or.inl (Nat.le_of_ble_eq_true rfl) | exact Or.inl rfl)); (first | done | fail)) ?_) | (refine call_n (r_toTree t) rfl (by (repeat' (first | exact trivial | refine ⟨?_, ?_⟩ | exact rfl | exact Or.inr rfl | exact Or.inl (Nat.le_of_ble_eq_true rfl) | exact Or.inl rfl)); (first | done | fail)) (by (repeat' (first | exact trivial | refine ⟨?_, ?_⟩ | exact rfl | exact Or.inr rfl | exact Or.inl (Nat.le_of_ble_eq_true rfl) | exact Or.inl rfl)); (first | done | fail)) ?_) | (refine call_b (hsp) (by (repeat' (first | exact trivial | refine ⟨?_, ?_⟩ | exact rfl | exact Or.inr rfl | exact Or.inl (Nat.le_of_ble_eq_true rfl) | exact Or.inl rfl)); (first | done | fail)) (by (repeat' (first | exact trivial | refine ⟨?_, ?_⟩ | exact rfl | exact Or.inr rfl | exact Or.inl (Nat.le_of_ble_eq_true rfl) | exact Or.inl rfl)); (first | done | fail)) (by (repeat' (first | exact trivial | refine ⟨?_, ?_⟩ | exact rfl | exact Or.inr rfl | exact Or.inl (Nat.le_of_ble_eq_true rfl) | exact Or.inl rfl)); (first | done | fail)) (by (repeat' (first | exact trivial | refine ⟨?_, ?_⟩ | exact rfl | exact Or.inr rfl | exact Or.inl (Nat.le_of_ble_eq_true rfl) | exact Or.inl rfl)); (first | done | fail)) (by (repeat' (first | exact trivial | refine ⟨?_, ?_⟩ | exact rfl | exact Or.inr rfl | exact Or.inl (Nat.le_of_ble_eq_true rfl) | exact Or.inl rfl)); (first | done | fail)) ?_) | (refine call_b (him) (by (repeat' (first | exact trivial | refine ⟨?_, ?_⟩ | exact rfl | exact Or.inr rfl | exact Or.inl (Nat.le_of_ble_eq_true rfl) | exact Or.inl rfl)); (first | done | fail)) (by (repeat' (first | exact trivial | refine ⟨?_, ?_⟩ | exact rfl | exact Or.inr rfl | exact Or.inl (Nat.le_of_ble_eq_true rfl) | exact Or.inl rfl)); (first | done | fail)) (by (repeat' (first | exact trivial | refine ⟨?_, ?_⟩ | exact rfl | exact Or.inr rfl | exact Or.inl (Nat.le_of_ble_eq_true rfl) | exact Or.inl rfl)); (first | done | fail)) (by (repeat' (first | exact trivial | refine ⟨?_, ?_⟩ | exact rfl | exact Or.inr rfl | exact Or.inl (Nat.le_of_ble_eq_true rfl) | exact Or.inl rfl)); (first | done | fail)) (by (repeat' (first | exact trivial | refine ⟨?_, ?_⟩ | exact rfl | exact Or.inr rfl | exact Or.inl (Nat.le_of_ble_eq_true rfl) | exact Or.inl rfl)); (first | done | fail)) ?_) | (refine call_b (r_eqTree o o) (by (repeat' (first | exact trivial | refine ⟨?_, ?_⟩ | exact rfl | exact Or.inr rfl | exact Or.inl (Nat.le_of_ble_eq_true rfl) | exact Or.inl rfl)); (first | done | fail)) (by (repeat' (first | exact trivial | refine ⟨?_, ?_⟩ | exact rfl | exact Or.inr rfl | exact Or.inl (Nat.le_of_ble_eq_true rfl) | exact Or.inl rfl)); (first | done | fail)) (by (repeat' (first | exact trivial | refine ⟨?_, ?_⟩ | exact rfl | exact Or.inr rfl | exact Or.inl (Nat.le_of_ble_eq_true rfl) | exact Or.inl rfl)); (first | done | fail)) (by (repeat' (first | exact trivial | refine ⟨?_, ?_⟩ | exact rfl | exact Or.inr rfl | exact Or.inl (Nat.le_of_ble_eq_true rfl) | exact Or.inl rfl)); (first | done | fail)) (by (repeat' (first | exact trivial | refine ⟨?_, ?_⟩ | exact rfl | exact Or.inr rfl | exact Or.inl (Nat.le_of_ble_eq_true rfl) | exact Or.inl rfl)); (first | done | fail)) ?_) | (refine call_b (r_eqTree t t) (by (repeat' (first | exact trivial | refine ⟨?_, ?_⟩ | exact rfl | exact Or.inr rfl | exact Or.inl (Nat.le_of_ble_eq_true rfl) | exact Or.inl rfl)); (first | done | fail)) (by (repeat' (first | exact trivial | refine ⟨?_, ?_⟩ | exact rfl | exact Or.inr rfl | exact Or.inl (Nat.le_of_ble_eq_true rfl) | exact Or.inl rfl)); (first | done | fail)) (by (repeat' (first | exact trivial | refine ⟨?_, ?_⟩ | exact rfl | exact Or.inr rfl | exact Or.inl (Nat.le_of_ble_eq_true rfl) | exact Or.inl rfl)); (first | done | fail)) (by (repeat' (first | exact trivial | refine ⟨?_, ?_⟩ | exact rfl | exact Or.inr rfl | exact Or.inl (Nat.le_of_ble_eq_true rfl) | exact Or.inl rfl)); (first | done | fail)) (by (repeat' (first | exact trivial | refine ⟨?_, ?_⟩ | exact rfl | exact Or.inr rfl | exact Or.inl (Nat.le_of_ble_eq_true rfl) | exact Or.inl rfl)); (first | done | fail)) ?_) | (refine call_g [11,12,13,14] (r_markTree t 1 (by decide) (by omega)) rfl rfl rfl (by (repeat' (first | exact trivial | refine ⟨?_, ?_⟩ | exact rfl | exact Or.inr rfl | exact Or.inl (Nat.le_of_ble_eq_true rfl) | exact Or.inl rfl)); (first | done | fail)) (by (repeat' (first | exact trivial | refine ⟨?_, ?_⟩ | exact rfl | exact Or.inr rfl | exact Or.inl (Nat.le_of_ble_eq_true rfl) | exact Or.inl rfl)); (first | done | fail)) (by (repeat' (first | exact trivial | refine ⟨?_, ?_⟩ | exact rfl | exact Or.inr rfl | exact Or.inl (Nat.le_of_ble_eq_true rfl) | exact Or.inl rfl)); (first | done | fail)) (by (repeat' (first | exact trivial | refine ⟨?_, ?_⟩ | exact rfl | exact Or.inr rfl | exact Or.inl (Nat.le_of_ble_eq_true rfl) | exact Or.inl rfl)); (first | done | fail)) ?_) | (refine call_g [17,18,19,20] (r_markTree o 1 (by decide) (by omega)) rfl rfl rfl (by (repeat' (first | exact trivial | refine ⟨?_, ?_⟩ | exact rfl | exact Or.inr rfl | exact Or.inl (Nat.le_of_ble_eq_true rfl) | exact Or.inl rfl)); (first | done | fail)) (by (repeat' (first | exact trivial | refine ⟨?_, ?_⟩ | exact rfl | exact Or.inr rfl | exact Or.inl (Nat.le_of_ble_eq_true rfl) | exact Or.inl rfl)); (first | done | fail)) (by (repeat' (first | exact trivial | refine ⟨?_, ?_⟩ | exact rfl | exact Or.inr rfl | exact Or.inl (Nat.le_of_ble_eq_true rfl) | exact Or.inl rfl)); (first | done | fail)) (by (repeat' (first | exact trivial | refine ⟨?_, ?_⟩ | exact rfl | exact Or.inr rfl | exact Or.inl (Nat.le_of_ble_eq_true rfl) | exact Or.inl rfl)); (first | done | fail)) ?_) | (refine call_b (r_heldT o (by omega)) (by (repeat' (first | exact trivial | refine ⟨?_, ?_⟩ | exact rfl | exact Or.inr rfl | exact Or.inl (Nat.le_of_ble_eq_true rfl) | exact Or.inl rfl)); (first | done | fail)) (by (repeat' (first | exact trivial | refine ⟨?_, ?_⟩ | exact rfl | exact Or.inr rfl | exact Or.inl (Nat.le_of_ble_eq_true rfl) | exact Or.inl rfl)); (first | done | fail)) (by (repeat' (first | exact trivial | refine ⟨?_, ?_⟩ | exact rfl | exact Or.inr rfl | exact Or.inl (Nat.le_of_ble_eq_true rfl) | exact Or.inl rfl)); (first | done | fail)) (by (repeat' (first | exact trivial | refine ⟨?_, ?_⟩ | exact rfl | exact Or.inr rfl | exact Or.inl (Nat.le_of_ble_eq_true rfl) | exact Or.inl rfl)); (first | done | fail)) (by (repeat' (first | exact trivial | refine ⟨?_, ?_⟩ | exact rfl | exact Or.inr rfl | exact Or.inl (Nat.le_of_ble_eq_true rfl) | exact Or.inl rfl)); (first | done | fail)) ?_) | (exfalso; omega) | (refine fin_au rfl ?_; (conv => whnf); ((repeat' (first | exact trivial | refine ⟨?_, ?_⟩ | exact rfl | exact Or.inr rfl | exact Or.inl (Nat.le_of_ble_eq_true rfl) | exact Or.inl rfl)) <;> (try (conv => whnf)) <;> (try (first | refine congrArg C.bool ?_ | refine congrArg (C.int .i64) ?_ | refine congrArg C.str ?_ | refine congrArg (fun l => some (Ob.row _ l)) ?_ | refine congrArg (fun l => some (Ob.dp _ l)) ?_ | refine congrArg (C.sl _) ?_)) <;> (try (rw [wrap_i64 (by omega) (by omega)]; first | rfl | omega)))) | (refine WkF.au ?_; (conv => whnf); ((repeat' (first | exact trivial | refine ⟨?_, ?_⟩ | exact rfl | exact Or.inr rfl | exact Or.inl (Nat.le_of_ble_eq_true rfl) | exact Or.inl rfl)) <;> (try (conv => whnf)) <;> (try (first | refine congrArg C.bool ?_ | refine congrArg (C.int .i64) ?_ | refine congrArg C.str ?_ | refine congrArg (fun l => some (Ob.row _ l)) ?_ | refine congrArg (fun l => some (Ob.dp _ l)) ?_ | refine congrArg (C.sl _) ?_)) <;> (try (rw [wrap_i64 (by omega) (by omega)]; first | rfl | omega)))) | (refine altl ?_) | fail))
end Go.Proofs.YthbpdhppelaihaaGreat
