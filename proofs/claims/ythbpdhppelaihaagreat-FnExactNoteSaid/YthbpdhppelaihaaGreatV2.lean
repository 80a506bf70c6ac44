/- laws.FnExactNote whatever its input. Conditions: the log's base is an int's. -/
import Derived.Test.YthbpdhppelaihaaGreatV1
set_option linter.unusedVariables false
set_option linter.unusedSimpArgs false
namespace Go.Proofs.YthbpdhppelaihaaGreat
open Go.RowKit
attribute [local irreducible] Tri Weak
set_option maxRecDepth 4000
set_option maxHeartbeats 4000000
theorem cnG_set {α : Type} {c : α → Int} (h : ∀ x, 0 ≤ c x) (y : α) : ∀ (xs : List α) (i : Nat), cnG c (xs.set i y) ≤ cnG c xs + c y
  | [], i => by have := h y; simp [cnG]; omega
  | x :: xs, 0 => by have := h x; simp only [List.set_cons_zero, cnG]; omega
  | x :: xs, i + 1 => by have := cnG_set h y xs i; simp only [List.set_cons_succ, cnG]; omega
theorem chF_len (n : Nd) : ∀ (f : Nat) (c : List Cm), (chF n f c).length ≤ max c.length 2000
  | 0, c => by simp only [chF]; omega
  | f + 1, c => by
    simp only [chF]
    split
    · rename_i h
      have := chF_len n f (c ++ [(n.log.list.getD (plc n.log ((c.length : Int) + 1)).toNat (dflt .en)).c])
      simp only [List.length_append, List.length_cons, List.length_nil] at this
      omega
    · omega
theorem cn_noteF (w : Wd) (i : Int) (n : Nd) : cnWd (noteF w i n) ≤ cnWd w + cnNd n + 20000 := by
  have h0 := cnWd_parts w
  have h9 := cnNd_pos n
  unfold noteF
  split
  · omega
  · have h1 := cnG_set cNd_pos n w.nodes i.toNat
    have h2 := chF_len n (2000 - w.chosen.length) w.chosen
    have h3 := cNd_le n
    have h4 : cnG (cK 2) (ledF n (w.nodes.getD i.toNat (dflt .nd)) w.led) ≤ cnG (cK 2) w.led + 2 := by
      unfold ledF; split
      · rw [cnG_app]; simp [cnG]
      · omega
    have h5 := cnG_cK 5 (chG n w.chosen)
    have h6 := cnG_cK 5 w.chosen
    show cnG cNd (w.nodes.set i.toNat n) + cnG cRp w.net + cnG (cK 5) (chG n w.chosen) + cnG (cK 4) w.acks + cnG (cK 2) (ledF n (w.nodes.getD i.toNat (dflt .nd)) w.led) ≤ _
    have h7 : (chG n w.chosen).length = (chF n (2000 - w.chosen.length) w.chosen).length := rfl
    omega
theorem r_lawNote (w : Wd) (i : Int) (n : Nd) (hn : baseOk n.log) : Ret Tryz.prog 7 [agL (Wd.cells w), aI i, agL (Nd.cells n)] [] (.c (.bool true)) [] := by
  refine ret_bnd 0 ⟨_, Tryz.func7, rfl, rfl⟩ rfl fun hb => ?_
  refine ret_bnd 2 ⟨_, Tryz.func7, rfl, rfl⟩ rfl fun hc => ?_
  have hA := good_Wd w hb 1048576 (by decide) (by decide)
  have hB := fun h0 h1 => good_Nd n hc (szWd w 1048576) h0 h1
  have hS := cn_noteF w i n
  have hp1 := cnWd_pos w
  have hp2 := cnWd_pos (noteF w i n)
  have hp3 := cnNd_pos n
  clear hb hc
  refine ret_vc hT hM Tryz.func7 rfl rfl (m := 0) (nx := 0) rfl (Nat.le_of_ble_eq_true rfl) ?_
  (repeat' ((conv => whnf); first | (refine nx ?_; intro s) | (refine rg ?_; intro s k) | ((refine cas (fun h => ?_) (fun h => ?_)) <;> (try simp [-List.getD_eq_getElem?_getD, eqB_t, eqB_f] at h)) | ((refine may (fun h => ?_) ?_) <;> (try simp [-List.getD_eq_getElem?_getD, eqB_t, eqB_f] at h)) | (refine giv fun hg => ?_; (try simp only [byE] at hg)) | (refine need (by kernel_rfl) ?_) | (refine need ⟨by omega, by omega⟩ ?_) | (refine need (by omega) ?_) | (refine need (by first | (simp; done) | (simp; omega)) ?_) | (refine call_p (r_szWorld w 1048576) rfl (by (repeat' (first | exact trivial | refine ⟨?_, ?_⟩ | exact rfl | exact Or.inr rfl | exact Or.inl (Nat.le_of_ble_eq_true rfl) | exact Or.inl rfl)); (first | done | fail)) ?_) | (refine call_p (r_szNode n _) rfl (by (repeat' (first | exact trivial | refine ⟨?_, ?_⟩ | exact rfl | exact Or.inr rfl | exact Or.inl (Nat.le_of_ble_eq_true rfl) | exact Or.inl rfl)); (first | done | fail)) ?_) | (refine call_n (r_toWorld w) rfl (by (repeat' (first | exact trivial | refine ⟨?_, ?_⟩ | exact rfl | exact Or.inr rfl | exact Or.inl (Nat.le_of_ble_eq_true rfl) | exact Or.inl rfl)); (first | done | fail)) (by (repeat' (first | exact trivial | refine ⟨?_, ?_⟩ | exact rfl | exact Or.inr rfl | exact Or.inl (Nat.le_of_ble_eq_true rfl) | exact Or.inl rfl)); (first | done | fail)) ?_) | (refine call_n (r_toNode n) rfl (by (repeat' (first | exact trivial | refine ⟨?_, ?_⟩ | exact rfl | exact Or.inr rfl | exact Or.inl (Nat.le_of_ble_eq_true rfl) | exact Or.inl rfl)); (first | done | fail)) (by (repeat' (first | exact trivial | refine ⟨?_, ?_⟩ | exact rfl | exact Or.inr rfl | exact Or.inl (Nat.le_of_ble_eq_true rfl) | exact Or.inl rfl)); (first | done | fail)) ?_) | (refine call_b (r_specNote w i n hn) (by (repeat' (first | exact trivial | refine ⟨?_, ?_⟩ | exact rfl | exact Or.inr rfl | exact Or.inl (Nat.le_of_ble_eq_true rfl) | exact Or.inl rfl)); (first | done | fail)) (by (repeat' (first | exact trivial | refine ⟨?_, ?_⟩ | exact rfl | exact Or.inr rfl | exact Or.inl (Nat.le_of_ble_eq_true rfl) | exact Or.inl rfl)); (first | done | fail)) (by (repeat' (first | exact trivial | refine ⟨?_, ?_⟩ | exact rfl | exact Or.inr rfl | exact Or.inl (Nat.le_of_ble_eq_true rfl) | exact Or.inl rfl)); (first | done | fail)) (by (repeat' (first | exact trivial | refine ⟨?_, ?_⟩ | exact rfl | exact Or.inr rfl | exact Or.inl (Nat.le_of_ble_eq_true rfl) | exact Or.inl rfl)); (first | done | fail)) (by (repeat' (first | exact trivial | refine ⟨?_, ?_⟩ | exact rfl | exact Or.inr rfl | exact Or.inl (Nat.le_of_ble_eq_true rfl) | exact Or.inl rfl)); (first | done | fail)) ?_) | (refine call_b (r_implNote w i n hn) (by (repeat' (first | exact trivial | refine ⟨?_, ?_⟩ | exact rfl | exact Or.inr rfl | exact Or.inl (Nat.le_of_ble_eq_true rfl) | exact Or.inl rfl)); (first | done | fail)) (by (repeat' (first | exact trivial | refine ⟨?_, ?_⟩ | exact rfl | exact Or.inr rfl | exact Or.inl (Nat.le_of_ble_eq_true rfl) | exact Or.inl rfl)); (first | done | fail)) (by (repeat' (first | exact trivial | refine ⟨?_, ?_⟩ | exact rfl | exact Or.inr rfl | exact Or.inl (Nat.le_of_ble_eq_true rfl) | exact Or.inl rfl)); (first | done | fail)) (by (repeat' (first | exact trivial | refine ⟨?_, ?_⟩ | exact rfl | exact Or.inr rfl | exact Or.inl (Nat.le_of_ble_eq_true rfl) | exact Or.inl rfl)); (first | done | fail)) (by (repeat' (first | exact trivial | refine ⟨?_, ?_⟩ | exact rfl | exact Or.inr rfl | exact Or.inl (Nat.le_of_ble_eq_true rfl) | exact Or.inl rfl)); (first | done | fail)) ?_) | (refine call_b (r_eqWorld (noteF w i n) (noteF w i n)) (by (repeat' (first | exact trivial | refine ⟨?_, ?_⟩ | exact rfl | exact Or.inr rfl | exact Or.inl (Nat.le_of_ble_eq_true rfl) | exact Or.inl rfl)); (first | done | fail)) (by (repeat' (first | exact trivial | refine ⟨?_, ?_⟩ | exact rfl | exact Or.inr rfl | exact Or.inl (Nat.le_of_ble_eq_true rfl) | exact Or.inl rfl)); (first | done | fail)) (by (repeat' (first | exact trivial | refine ⟨?_, ?_⟩ | exact rfl | exact Or.inr rfl | exact Or.inl (Nat.le_of_ble_eq_true rfl) | exact Or.inl rfl)); (first | done | fail)) (by (repeat' (first | exact trivial | refine ⟨?_, ?_⟩ | exact rfl | exact Or.inr rfl | exact Or.inl (Nat.le_of_ble_eq_true rfl) | exact Or.inl rfl)); (first | done | fail)) (by (repeat' (first | exact trivial | refine ⟨?_, ?_⟩ | exact rfl | exact Or.inr rfl | exact Or.inl (Nat.le_of_ble_eq_true rfl) | exact Or.inl rfl)); (first | done | fail)) ?_) | (refine call_b (r_eqWorld w w) (by (repeat' (first | exact trivial | refine ⟨?_, ?_⟩ | exact rfl | exact Or.inr rfl | exact Or.inl (Nat.le_of_ble_eq_true rfl) | exact Or.inl rfl)); (first | done | fail)) (by (repeat' (first | exact trivial | refine ⟨?_, ?_⟩ | exact rfl | exact Or.inr rfl | exact Or.inl (Nat.le_of_ble_eq_true rfl) | exact Or.inl rfl)); (first | done | fail)) (by (repeat' (first | exact trivial | refine ⟨?_, ?_⟩ | exact rfl | exact Or.inr rfl | exact Or.inl (Nat.le_of_ble_eq_true rfl) | exact Or.inl rfl)); (first | done | fail)) (by (repeat' (first | exact trivial | refine ⟨?_, ?_⟩ | exact rfl | exact Or.inr rfl | exact Or.inl (Nat.le_of_ble_eq_true rfl) | exact Or.inl rfl)); (first | done | fail)) (by (repeat' (first | exact trivial | refine ⟨?_, ?_⟩ | exact rfl | exact Or.inr rfl | exact Or.inl (Nat.le_of_ble_eq_true rfl) | exact Or.inl rfl)); (first | done | fail)) ?_) | (refine call_b (r_eqNode n n) (by (repeat' (first | exact trivial | refine ⟨?_, ?_⟩ | exact rfl | exact Or.inr rfl | exact Or.inl (Nat.le_of_ble_eq_true rfl) | exact Or.inl rfl)); (first | done | fail)) (by (repeat' (first | exact trivial | refine ⟨?_, ?_⟩ | exact rfl | exact Or.inr rfl | exact Or.inl (Nat.le_of_ble_eq_true rfl) | exact Or.inl rfl)); (first | done | fail)) (by (repeat' (first | exact trivial | refine ⟨?_, ?_⟩ | exact rfl | exact Or.inr rfl | exact Or.inl (Nat.le_of_ble_eq_true rfl) | exact Or.inl rfl)); (first | done | fail)) (by (repeat' (first | exact trivial | refine ⟨?_, ?_⟩ | exact rfl | exact Or.inr rfl | exact Or.inl (Nat.le_of_ble_eq_true rfl) | exact Or.inl rfl)); (first | done | fail)) (by (repeat' (first | exact trivial | refine ⟨?_, ?_⟩ | exact rfl | exact Or.inr rfl | exact Or.inl (Nat.le_of_ble_eq_true rfl) | exact Or.inl rfl)); (first | done | fail)) ?_) | (refine call_g [28,29,30,31,32] (r_markWorld w 1 (by decide) (by omega)) rfl rfl rfl (by (repeat' (first | exact trivial | refine ⟨?_, ?_⟩ | exact rfl | exact Or.inr rfl | exact Or.inl (Nat.le_of_ble_eq_true rfl) | exact Or.inl rfl)); (first | done | fail)) (by (repeat' (first | exact trivial | refine ⟨?_, ?_⟩ | exact rfl | exact Or.inr rfl | exact Or.inl (Nat.le_of_ble_eq_true rfl) | exact Or.inl rfl)); (first | done | fail)) (by (repeat' (first | exact trivial | refine ⟨?_, ?_⟩ | exact rfl | exact Or.inr rfl | exact Or.inl (Nat.le_of_ble_eq_true rfl) | exact Or.inl rfl)); (first | done | fail)) (by (repeat' (first | exact trivial | refine ⟨?_, ?_⟩ | exact rfl | exact Or.inr rfl | exact Or.inl (Nat.le_of_ble_eq_true rfl) | exact Or.inl rfl)); (first | done | fail)) ?_) | (refine call_g [35,36,37,38,39,40,41,42,43,44,45,46,47,48] (r_markNode n _ (by omega) (by omega)) rfl rfl rfl (by (repeat' (first | exact trivial | refine ⟨?_, ?_⟩ | exact rfl | exact Or.inr rfl | exact Or.inl (Nat.le_of_ble_eq_true rfl) | exact Or.inl rfl)); (first | done | fail)) (by (repeat' (first | exact trivial | refine ⟨?_, ?_⟩ | exact rfl | exact Or.inr rfl | exact Or.inl (Nat.le_of_ble_eq_true rfl) | exact Or.inl rfl)); (first | done | fail)) (by (repeat' (first | exact trivial | refine ⟨?_, ?_⟩ | exact rfl | exact Or.inr rfl | exact Or.inl (Nat.le_of_ble_eq_true rfl) | exact Or.inl rfl)); (first | done | fail)) (by (repeat' (first | exact trivial | refine ⟨?_, ?_⟩ | exact rfl | exact Or.inr rfl | exact Or.inl (Nat.le_of_ble_eq_true rfl) | exact Or.inl rfl)); (first | done | fail)) ?_) | (refine call_g [51,52,53,54,55] (r_markWorld (noteF w i n) 1 (by decide) (by omega)) rfl rfl rfl (by (repeat' (first | exact trivial | refine ⟨?_, ?_⟩ | exact rfl | exact Or.inr rfl | exact Or.inl (Nat.le_of_ble_eq_true rfl) | exact Or.inl rfl)); (first | done | fail)) (by (repeat' (first | exact trivial | refine ⟨?_, ?_⟩ | exact rfl | exact Or.inr rfl | exact Or.inl (Nat.le_of_ble_eq_true rfl) | exact Or.inl rfl)); (first | done | fail)) (by (repeat' (first | exact trivial | refine ⟨?_, ?_⟩ | exact rfl | exact Or.inr rfl | exact Or.inl (Nat.le_of_ble_eq_true rfl) | exact Or.inl rfl)); (first | done | fail)) (by (repeat' (first | exact trivial | refine ⟨?_, ?_⟩ | exact rfl | exact Or.inr rfl | exact Or.inl (Nat.le_of_ble_eq_true rfl) | exact Or.inl rfl)); (first | done | fail)) ?_) | (refine call_b (r_heldWorld (noteF w i n) 1 (by decide) (by omega)) (by (repeat' (first | exact trivial | refine ⟨?_, ?_⟩ | exact rfl | exact Or.inr rfl | exact Or.inl (Nat.le_of_ble_eq_true rfl) | exact Or.inl rfl)); (first | done | fail)) (by (repeat' (first | exact trivial | refine ⟨?_, ?_⟩ | exact rfl | exact Or.inr rfl | exact Or.inl (Nat.le_of_ble_eq_true rfl) | exact Or.inl rfl)); (first | done | fail)) (by (repeat' (first | exact trivial | refine ⟨?_, ?_⟩ | exact rfl | exact Or.inr rfl | exact Or.inl (Nat.le_of_ble_eq_true rfl) | exact Or.inl rfl)); (first | done | fail)) (by (repeat' (first | exact trivial | refine ⟨?_, ?_⟩ | exact rfl | exact Or.inr rfl | exact Or.inl (Nat.le_of_ble_eq_true rfl) | exact Or.inl rfl)); (first | done | fail)) (by (repeat' (first | exact trivial | refine ⟨?_, ?_⟩ | exact rfl | exact Or.inr rfl | exact Or.inl (Nat.le_of_ble_eq_true rfl) | exact Or.inl rfl)); (first | done | fail)) ?_) | (exfalso; omega) | (refine fin_au rfl ?_; (conv => whnf); ((repeat' (first | exact trivial | refine ⟨?_, ?_⟩ | exact rfl | exact Or.inr rfl | exact Or.inl (Nat.le_of_ble_eq_true rfl) | exact Or.inl rfl)) <;> (try (conv => whnf)) <;> (try (first | refine congrArg C.bool ?_ | refine congrArg (C.int .i64) ?_ | refine congrArg C.str ?_ | refine congrArg (fun l => some (Ob.row _ l)) ?_ | refine congrArg (fun l => some (Ob.dp _ l)) ?_ | refine congrArg (C.sl _) ?_)) <;> (try (rw [wrap_i64 (by omega) (by omega)]; first | rfl | omega)))) | (refine WkF.au ?_; (conv => whnf); ((repeat' (first | exact trivial | refine ⟨?_, ?_⟩ | exact rfl | exact Or.inr rfl | exact Or.inl (Nat.le_of_ble_eq_true rfl) | exact Or.inl rfl)) <;> (try (conv => whnf)) <;> (try (first | refine congrArg C.bool ?_ | refine congrArg (C.int .i64) ?_ | refine congrArg C.str ?_ | refine congrArg (fun l => some (Ob.row _ l)) ?_ | refine congrArg (fun l => some (Ob.dp _ l)) ?_ | refine congrArg (C.sl _) ?_)) <;> (try (rw [wrap_i64 (by omega) (by omega)]; first | rfl | omega)))) | (refine altl ?_) | fail))
theorem base_of {cs : List C} (h : GoodL (ckE .nd) cs) : baseOk (mkE .nd cs).log := by
  simp only [ckE] at h
  have hl := h.length
  obtain ⟨c0, t0, rfl, g0, h⟩ := h.uncons
  obtain ⟨c1, t1, rfl, g1, h⟩ := h.uncons
  obtain ⟨c2, t2, rfl, g2, h⟩ := h.uncons
  obtain ⟨c3, t3, rfl, g3, h⟩ := h.uncons
  clear h
  have hb : ∃ b, c3 = .int .i64 b ∧ -9223372036854775808 ≤ b ∧ b ≤ 9223372036854775807 := by
    cases g3 with | int _ b hw =>
    refine ⟨b, rfl, ?_⟩
    simp [Lit.wf, IntKind.min, IntKind.max, IntKind.signed, IntKind.bits] at hw
    omega
  clear g0 g1 g2 g3
  obtain ⟨b, rfl, hb⟩ := hb
  obtain ⟨a0, a1, a2, a3, a4, a5, a6, a7, a8, a9, a10, a11, a12, a13, a14, a15, a16, a17, a18, rfl⟩ : ∃ a0 a1 a2 a3 a4 a5 a6 a7 a8 a9 a10 a11 a12 a13 a14 a15 a16 a17 a18, t3 = [a0, a1, a2, a3, a4, a5, a6, a7, a8, a9, a10, a11, a12, a13, a14, a15, a16, a17, a18] := by
    simp only [List.length_cons, List.length_nil] at hl
    match t3, hl with
    | [a0, a1, a2, a3, a4, a5, a6, a7, a8, a9, a10, a11, a12, a13, a14, a15, a16, a17, a18], _ => exact ⟨_, _, _, _, _, _, _, _, _, _, _, _, _, _, _, _, _, _, _, rfl⟩
  exact hb
end Go.Proofs.YthbpdhppelaihaaGreat
