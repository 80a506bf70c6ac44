/- Note on either side, whole. Conditions: the log's base is an int's. -/
import Derived.Test.YthbpdhppelaihaaGreatK10
set_option linter.unusedVariables false
set_option linter.unusedSimpArgs false
namespace Go.Proofs.YthbpdhppelaihaaGreat
open Go.RowKit
attribute [local irreducible] Tri Weak
set_option maxRecDepth 4000
set_option maxHeartbeats 4000000
theorem noteF_size (x : Wd) (i : Int) (n : Nd) : (noteF x i n).size = x.size ∧ (noteF x i n).net = x.net ∧ (noteF x i n).acks = x.acks := by
  unfold noteF; split <;> exact ⟨rfl, rfl, rfl⟩
theorem r_implNote (x : Wd) (i : Int) (n : Nd) (hb : baseOk n.log) : Ret Tryz.prog 39 [agL (Wd.cells x), aI i, agL (Nd.cells n)] [] (ownC (Wd.cells (noteF x i n))) (ownCH (Wd.cells (noteF x i n))) := by
  obtain ⟨h1, h2, h3⟩ := noteF_size x i n
  have hc : Wd.cells (noteF x i n) = [.int .i64 x.size, .sl .nd (noteF x i n).nodes, .sl .rp x.net, .sl .cm (noteF x i n).chosen, .sl .dn x.acks, .sl .ld (noteF x i n).led] := by
    show [C.int .i64 (noteF x i n).size, .sl .nd (noteF x i n).nodes, .sl .rp (noteF x i n).net, .sl .cm (noteF x i n).chosen, .sl .dn (noteF x i n).acks, .sl .ld (noteF x i n).led] = _
    rw [h1, h2, h3]
  rw [hc]
  refine ret_vc hT hM Tryz.func39 rfl rfl (m := 0) (nx := 0) rfl (Nat.le_of_ble_eq_true rfl) ?_
  (repeat' ((conv => whnf); first | (refine nx ?_; intro s) | (refine rg ?_; intro s k) | ((refine cas (fun h => ?_) (fun h => ?_)) <;> (try simp [-List.getD_eq_getElem?_getD] at h)) | ((refine may (fun h => ?_) ?_) <;> (try simp [-List.getD_eq_getElem?_getD] at h)) | (refine giv fun hg => ?_; (try simp only [byE] at hg)) | (refine need (by kernel_rfl) ?_) | (refine need ⟨by omega, by omega⟩ ?_) | (refine need (by omega) ?_) | (refine need (by first | (simp; done) | (simp; omega)) ?_) | (refine call_n (r_copyWorld x) rfl (by (repeat' (first | exact trivial | refine ⟨?_, ?_⟩ | exact rfl | exact Or.inr rfl | exact Or.inl (Nat.le_of_ble_eq_true rfl) | exact Or.inl rfl)); (first | done | fail)) (by (repeat' (first | exact trivial | refine ⟨?_, ?_⟩ | exact rfl | exact Or.inr rfl | exact Or.inl (Nat.le_of_ble_eq_true rfl) | exact Or.inl rfl)); (first | done | fail)) ?_) | (refine call_g [8,3,4,5,6,7] (r_note x i n hb) rfl rfl rfl (by (repeat' (first | exact trivial | refine ⟨?_, ?_⟩ | exact rfl | exact Or.inr rfl | exact Or.inl (Nat.le_of_ble_eq_true rfl) | exact Or.inl rfl)); (first | done | fail)) (by (repeat' (first | exact trivial | refine ⟨?_, ?_⟩ | exact rfl | exact Or.inr rfl | exact Or.inl (Nat.le_of_ble_eq_true rfl) | exact Or.inl rfl)); (first | done | fail)) (by (repeat' (first | exact trivial | refine ⟨?_, ?_⟩ | exact rfl | exact Or.inr rfl | exact Or.inl (Nat.le_of_ble_eq_true rfl) | exact Or.inl rfl)); (first | done | fail)) (by (repeat' (first | exact trivial | refine ⟨?_, ?_⟩ | exact rfl | exact Or.inr rfl | exact Or.inl (Nat.le_of_ble_eq_true rfl) | exact Or.inl rfl)); (first | done | fail)) ?_) | (refine fin_au rfl ?_; (conv => whnf); ((repeat' (first | exact trivial | refine ⟨?_, ?_⟩ | exact rfl | exact Or.inr rfl | exact Or.inl (Nat.le_of_ble_eq_true rfl) | exact Or.inl rfl)) <;> (try (conv => whnf)) <;> (try (first | refine congrArg C.bool ?_ | refine congrArg (C.int .i64) ?_ | refine congrArg C.str ?_ | refine congrArg (fun l => some (Ob.row _ l)) ?_ | refine congrArg (fun l => some (Ob.dp _ l)) ?_ | refine congrArg (C.sl _) ?_)) <;> (try (rw [wrap_i64 (by omega) (by omega)]; first | rfl | omega)))) | (refine WkF.au ?_; (conv => whnf); ((repeat' (first | exact trivial | refine ⟨?_, ?_⟩ | exact rfl | exact Or.inr rfl | exact Or.inl (Nat.le_of_ble_eq_true rfl) | exact Or.inl rfl)) <;> (try (conv => whnf)) <;> (try (first | refine congrArg C.bool ?_ | refine congrArg (C.int .i64) ?_ | refine congrArg C.str ?_ | refine congrArg (fun l => some (Ob.row _ l)) ?_ | refine congrArg (fun l => some (Ob.dp _ l)) ?_ | refine congrArg (C.sl _) ?_)) <;> (try (rw [wrap_i64 (by omega) (by omega)]; first | rfl | omega)))) | (refine altl ?_) | fail))
theorem at_eq (l : Lg) (p : Int) (hb : baseOk l) (hp : 0 ≤ p ∧ p ≤ 4611686018427387904) (hl : l.list.length ≤ 140737488355328) :
    (0 ≤ plc l p → IntKind.i64.wrap (IntKind.i64.wrap (p - l.base) - 1) = plc l p) ∧ (¬ (0 ≤ plc l p) ↔ ¬ (0 ≤ IntKind.i64.wrap (IntKind.i64.wrap (p - l.base) - 1) ∧ IntKind.i64.wrap (IntKind.i64.wrap (p - l.base) - 1) ≤ (l.list.length : Int) - 1)) := by
  obtain ⟨hb0, hb1⟩ := hb
  have hw : ∀ n : Int, IntKind.i64.wrap n = (n + 9223372036854775808) % 18446744073709551616 - 9223372036854775808 := fun n => by
    simp only [IntKind.wrap, IntKind.signed, IntKind.bits]; simp; omega
  rw [hw, hw]
  unfold plc
  split <;> constructor <;> omega
theorem r_specNote (x : Wd) (i : Int) (n : Nd) (hb : baseOk n.log) : Ret Tryz.prog 37 [agL (Wd.cells x), aI i, agL (Nd.cells n)] [] (ownC (Wd.cells (noteF x i n))) (ownCH (Wd.cells (noteF x i n))) := by
  obtain ⟨h1, h2, h3⟩ := noteF_size x i n
  have hcl : Wd.cells (noteF x i n) = [.int .i64 x.size, .sl .nd (noteF x i n).nodes, .sl .rp x.net, .sl .cm (noteF x i n).chosen, .sl .dn x.acks, .sl .ld (noteF x i n).led] := by
    show [C.int .i64 (noteF x i n).size, .sl .nd (noteF x i n).nodes, .sl .rp (noteF x i n).net, .sl .cm (noteF x i n).chosen, .sl .dn (noteF x i n).acks, .sl .ld (noteF x i n).led] = _
    rw [h1, h2, h3]
  rw [hcl]
  refine ret_bnd 0 ⟨_, Tryz.func37, rfl, rfl⟩ rfl fun hbn => ?_
  refine ret_bnd 2 ⟨_, Tryz.func37, rfl, rfl⟩ rfl fun hbm => ?_
  have hc := hbn.un.2.un.2.un.2.un.1.len
  have hl := hbn.un.2.un.2.un.2.un.2.un.2.un.1.len
  have hm := hbm.un.2.un.2.un.2.un.2.un.2.un.1.len
  have hnl := hbn.un.2.un.1.len
  have hwl : IntKind.i64.wrap ((x.nodes.length : Int) - 1) = x.nodes.length - 1 := wrap_i64 (by omega) (by omega)
  have hwm : IntKind.i64.wrap ((n.log.list.length : Int) - 1) = n.log.list.length - 1 := wrap_i64 (by omega) (by omega)
  clear hbn hbm hcl
  refine ret_vc hT hM Tryz.func37 rfl rfl (m := 0) (nx := 0) rfl (Nat.le_of_ble_eq_true rfl) ?_
  (repeat' ((conv => whnf); first | (refine nx ?_; intro s) | (refine rg ?_; intro s k) | ((refine cas (fun h => ?_) (fun h => ?_)) <;> (try simp [-List.getD_eq_getElem?_getD, inB_iff, inB_niff, hwl] at h)) | ((refine may (fun h => ?_) ?_) <;> (try simp [-List.getD_eq_getElem?_getD, inB_iff, inB_niff, hwl] at h)) | (refine giv fun hg => ?_; (try simp only [byE] at hg)) | (refine need (by kernel_rfl) ?_) | (refine need ⟨by omega, by omega⟩ ?_) | (refine need (by omega) ?_) | (refine need (by first | (simp; done) | (simp; omega)) ?_) | (refine call_n (r_l12Copy x) rfl (by (repeat' (first | exact trivial | refine ⟨?_, ?_⟩ | exact rfl | exact Or.inr rfl | exact Or.inl (Nat.le_of_ble_eq_true rfl) | exact Or.inl rfl)); (first | done | fail)) (by (repeat' (first | exact trivial | refine ⟨?_, ?_⟩ | exact rfl | exact Or.inr rfl | exact Or.inl (Nat.le_of_ble_eq_true rfl) | exact Or.inl rfl)); (first | done | fail)) ?_) | (refine call_p (r_l1In i 0 _) rfl (by (repeat' (first | exact trivial | refine ⟨?_, ?_⟩ | exact rfl | exact Or.inr rfl | exact Or.inl (Nat.le_of_ble_eq_true rfl) | exact Or.inl rfl)); (first | done | fail)) ?_) | (refine call_n (r_l9Copy n) rfl (by (repeat' (first | exact trivial | refine ⟨?_, ?_⟩ | exact rfl | exact Or.inr rfl | exact Or.inl (Nat.le_of_ble_eq_true rfl) | exact Or.inl rfl)); (first | done | fail)) (by (repeat' (first | exact trivial | refine ⟨?_, ?_⟩ | exact rfl | exact Or.inr rfl | exact Or.inl (Nat.le_of_ble_eq_true rfl) | exact Or.inl rfl)); (first | done | fail)) ?_) | (exfalso; omega) | (refine fin_au rfl ?_; (conv => whnf); ((repeat' (first | exact trivial | refine ⟨?_, ?_⟩ | exact rfl | exact Or.inr rfl | exact Or.inl (Nat.le_of_ble_eq_true rfl) | exact Or.inl rfl)) <;> (try (conv => whnf)) <;> (try (first | refine congrArg C.bool ?_ | refine congrArg (C.int .i64) ?_ | refine congrArg C.str ?_ | refine congrArg (fun l => some (Ob.row _ l)) ?_ | refine congrArg (fun l => some (Ob.dp _ l)) ?_ | refine congrArg (C.sl _) ?_)) <;> (try (rw [wrap_i64 (by omega) (by omega)]; first | rfl | omega)))) | (refine WkF.au ?_; (conv => whnf); ((repeat' (first | exact trivial | refine ⟨?_, ?_⟩ | exact rfl | exact Or.inr rfl | exact Or.inl (Nat.le_of_ble_eq_true rfl) | exact Or.inl rfl)) <;> (try (conv => whnf)) <;> (try (first | refine congrArg C.bool ?_ | refine congrArg (C.int .i64) ?_ | refine congrArg C.str ?_ | refine congrArg (fun l => some (Ob.row _ l)) ?_ | refine congrArg (fun l => some (Ob.dp _ l)) ?_ | refine congrArg (C.sl _) ?_)) <;> (try (rw [wrap_i64 (by omega) (by omega)]; first | rfl | omega)))) | (refine altl ?_) | fail))
  all_goals (first | (unfold noteF; rw [if_pos (by omega)]; done) | skip)
  have hn : noteF x i n = ⟨x.size, x.nodes.set i.toNat n, x.net, chG n x.chosen, x.acks, ledF n (x.nodes.getD i.toNat (dflt .nd)) x.led⟩ := by unfold noteF; rw [if_neg (by omega)]
  (repeat ((conv => whnf); first | (refine nx ?_; intro s) | (refine rg ?_; intro s k))); (conv => whnf)
  refine Tri.loop (fun c : List Cm => ⟨[(5, .pt 0 0), (6, .pt 1 0), (7, .pt 2 0), (8, .pt 3 0), (9, aI ((c.length : Int) + 1))], [(0, .box ((Nd.cells n).map .c)), (1, zW), (2, .box [aI x.size, .rw 4, .rw 5, .rw 6, .rw 7, .rw 8]), (3, .box ((Nd.cells (x.nodes.getD i.toNat (dflt .nd))).map .c)), (4, .dp .nd (x.nodes.set i.toNat n)), (5, .dp .rp x.net), (6, .row .cm c), (7, .row .dn x.acks), (8, .row .ld x.led)], 9⟩) (fun c => chG n c = chG n x.chosen ∧ c.length ≤ x.chosen.length + 2000) (fun c => 2000 - c.length) x.chosen ⟨rfl, by omega⟩ ?_ ?_
  · (refine WkF.au ?_; (conv => whnf); ((repeat' (first | exact trivial | refine ⟨?_, ?_⟩ | exact rfl | exact Or.inr rfl | exact Or.inl (Nat.le_of_ble_eq_true rfl) | exact Or.inl rfl)) <;> (try (conv => whnf)) <;> (try (first | refine congrArg C.bool ?_ | refine congrArg (C.int .i64) ?_ | refine congrArg C.str ?_ | refine congrArg (fun l => some (Ob.row _ l)) ?_ | refine congrArg (fun l => some (Ob.dp _ l)) ?_ | refine congrArg (C.sl _) ?_)) <;> (try (rw [wrap_i64 (by omega) (by omega)]; first | rfl | omega))))
    all_goals first
      | (rw [wrap_i64 (by omega) (by omega)]; done)
      | exact congrArg (x.nodes.set i.toNat) (spl_all .nd _ n)
  · intro c ⟨hc1, hc2⟩
    have hpl := plc_cases n.log ((c.length : Int) + 1)
    obtain ⟨hat1, hat2⟩ := at_eq n.log ((c.length : Int) + 1) hb (by omega) hm
    refine vc_sound hT hM _ _ _ ?_
    (repeat' ((conv => whnf); first | (refine nx ?_; intro s) | (refine rg ?_; intro s k) | ((refine cas (fun h => ?_) (fun h => ?_)) <;> (try simp [-List.getD_eq_getElem?_getD, inB_iff, inB_niff, hwm] at h)) | ((refine may (fun h => ?_) ?_) <;> (try simp [-List.getD_eq_getElem?_getD, inB_iff, inB_niff, hwm] at h)) | (refine giv fun hg => ?_; (try simp only [byE] at hg)) | (refine need (by kernel_rfl) ?_) | (refine need ⟨by omega, by omega⟩ ?_) | (refine need (by omega) ?_) | (refine need (by first | (simp; done) | (simp; omega)) ?_) | (refine call_p (r_l1In _ 0 _) rfl (by (repeat' (first | exact trivial | refine ⟨?_, ?_⟩ | exact rfl | exact Or.inr rfl | exact Or.inl (Nat.le_of_ble_eq_true rfl) | exact Or.inl rfl)); (first | done | fail)) ?_) | (refine need (by rw [hat1 (by omega)]; omega) ?_) | (refine need (by simp [byE, chunk] at *; omega) ?_) | (refine ⟨c ++ [(n.log.list.getD (plc n.log ((c.length : Int) + 1)).toNat (dflt .en)).c], ?_, ?_, ?_⟩) | (refine fin_au rfl ?_; (conv => whnf); ((repeat' (first | exact trivial | refine ⟨?_, ?_⟩ | exact rfl | exact Or.inr rfl | exact Or.inl (Nat.le_of_ble_eq_true rfl) | exact Or.inl rfl)) <;> (try (conv => whnf)) <;> (try (first | refine congrArg C.bool ?_ | refine congrArg (C.int .i64) ?_ | refine congrArg C.str ?_ | refine congrArg (fun l => some (Ob.row _ l)) ?_ | refine congrArg (fun l => some (Ob.dp _ l)) ?_ | refine congrArg (C.sl _) ?_)) <;> (try (rw [wrap_i64 (by omega) (by omega)]; first | rfl | omega)))) | (refine WkF.au ?_; (conv => whnf); ((repeat' (first | exact trivial | refine ⟨?_, ?_⟩ | exact rfl | exact Or.inr rfl | exact Or.inl (Nat.le_of_ble_eq_true rfl) | exact Or.inl rfl)) <;> (try (conv => whnf)) <;> (try (first | refine congrArg C.bool ?_ | refine congrArg (C.int .i64) ?_ | refine congrArg C.str ?_ | refine congrArg (fun l => some (Ob.row _ l)) ?_ | refine congrArg (fun l => some (Ob.dp _ l)) ?_ | refine congrArg (C.sl _) ?_)) <;> (try (rw [wrap_i64 (by omega) (by omega)]; first | rfl | omega)))) | (refine altl ?_) | fail))
    all_goals (clear hb hc hl)
    all_goals first
      | exact (congrArg Wd.nodes hn).symm
      | exact ((chG_stop n c (by omega)).symm.trans hc1).trans (congrArg Wd.chosen hn).symm
      | (refine Eq.trans ?_ (congrArg Wd.led hn).symm; refine (snoc_ch .ld x.led ⟨n.term, n.id⟩ rfl).trans ?_; show _ = ledF _ _ _; unfold ledF; rw [if_pos (by omega)])
      | (refine Eq.trans ?_ (congrArg Wd.led hn).symm; show _ = ledF _ _ _; unfold ledF; rw [if_neg (by omega)])
      | exact ⟨(chG_step n c (by omega) (by omega) (by omega)).symm.trans hc1, by simp; omega⟩
      | (simp; omega)
      | (rw [← hat1 (by omega)]; exact snoc_ch .cm c _ rfl)
      | (rw [wrap_i64 (by omega) (by omega)]; simp; done)
end Go.Proofs.YthbpdhppelaihaaGreat
