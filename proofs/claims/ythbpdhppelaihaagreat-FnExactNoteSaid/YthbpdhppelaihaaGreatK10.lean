/- Note on either side. Conditions: the log's base is an int's. -/
import Derived.Test.YthbpdhppelaihaaGreatK9
import Derived.Test.YthbpdhppelaihaaGreatP4
set_option linter.unusedVariables false
set_option linter.unusedSimpArgs false
namespace Go.Proofs.YthbpdhppelaihaaGreat
open Go.RowKit
attribute [local irreducible] Tri Weak
set_option maxRecDepth 4000
set_option maxHeartbeats 4000000
abbrev baseOk (l : Lg) : Prop := -9223372036854775808 ≤ l.base ∧ l.base ≤ 9223372036854775807
/-- Where entry number p stands; -1: there is none. -/
def plc (l : Lg) (p : Int) : Int := if p ≤ l.base ∨ l.base + l.list.length < p then -1 else p - l.base - 1
theorem plc_cases (l : Lg) (p : Int) : (plc l p = -1) ∨ (0 ≤ plc l p ∧ plc l p < l.list.length ∧ plc l p = p - l.base - 1) := by
  unfold plc; split
  · exact .inl rfl
  · exact .inr ⟨by omega, by omega, rfl⟩
theorem r_placeOf (l : Lg) (p : Int) (hb : baseOk l) (hk : 0 ≤ p ∧ p ≤ 4611686018427387904) : Ret Tryz.prog 195 [agL (Lg.cells l), aI p] [] (aI (plc l p)) [] := by
  have h64 : ∀ n : Int, IntKind.u64.wrap n = n % 18446744073709551616 := fun n => by
    simp only [IntKind.wrap, IntKind.signed, IntKind.bits]; simp
  refine ret_bnd 0 ⟨_, Tryz.func195, rfl, rfl⟩ rfl fun hbn => ?_
  have e1 := hbn.un.2.un.2.un.1.len
  obtain ⟨hb0, hb1⟩ := hb
  refine ret_vc hT hM Tryz.func195 rfl rfl (m := 0) (nx := 0) rfl (Nat.le_of_ble_eq_true rfl) ?_
  (repeat' ((conv => whnf); first | (refine nx ?_; intro s) | (refine rg ?_; intro s k) | ((refine cas (fun h => ?_) (fun h => ?_)) <;> (try simp [-List.getD_eq_getElem?_getD, h64] at h)) | ((refine may (fun h => ?_) ?_) <;> (try simp [-List.getD_eq_getElem?_getD, h64] at h)) | (refine giv fun hg => ?_; (try simp only [byE] at hg)) | (refine need (by kernel_rfl) ?_) | (refine need ⟨by omega, by omega⟩ ?_) | (refine need (by omega) ?_) | (refine need (by first | (simp; done) | (simp; omega)) ?_) | (refine fin_au rfl ?_; (conv => whnf); ((repeat' (first | exact trivial | refine ⟨?_, ?_⟩ | exact rfl | exact Or.inr rfl | exact Or.inl (Nat.le_of_ble_eq_true rfl) | exact Or.inl rfl)) <;> (try (conv => whnf)) <;> (try (first | refine congrArg C.bool ?_ | refine congrArg (C.int .i64) ?_ | refine congrArg C.str ?_ | refine congrArg (fun l => some (Ob.row _ l)) ?_ | refine congrArg (fun l => some (Ob.dp _ l)) ?_ | refine congrArg (C.sl _) ?_)) <;> (try (rw [wrap_i64 (by omega) (by omega)]; first | rfl | omega)))) | (refine WkF.au ?_; (conv => whnf); ((repeat' (first | exact trivial | refine ⟨?_, ?_⟩ | exact rfl | exact Or.inr rfl | exact Or.inl (Nat.le_of_ble_eq_true rfl) | exact Or.inl rfl)) <;> (try (conv => whnf)) <;> (try (first | refine congrArg C.bool ?_ | refine congrArg (C.int .i64) ?_ | refine congrArg C.str ?_ | refine congrArg (fun l => some (Ob.row _ l)) ?_ | refine congrArg (fun l => some (Ob.dp _ l)) ?_ | refine congrArg (C.sl _) ?_)) <;> (try (rw [wrap_i64 (by omega) (by omega)]; first | rfl | omega)))) | (refine altl ?_) | fail))
  · unfold plc; rw [if_pos (by omega)]
  · unfold plc; rw [if_pos (by omega)]
  · simp only [h64]
    unfold plc; rw [if_neg (by omega)]
    rw [wrap_i64 (n := _ % _) (by omega) (by omega), wrap_i64 (by omega) (by omega)]
    omega
/-- What is chosen, on by the node's commands, as long as there are any and there is room. -/
def chF (n : Nd) : Nat → List Cm → List Cm
  | 0, c => c
  | f + 1, c => if ((c.length : Int) + 1 ≤ n.commit ∧ c.length < 2000) ∧ 0 ≤ plc n.log ((c.length : Int) + 1) then chF n f (c ++ [(n.log.list.getD (plc n.log ((c.length : Int) + 1)).toNat (dflt .en)).c]) else c
theorem chF_stop (n : Nd) (f : Nat) (c : List Cm) (h : ¬ (((c.length : Int) + 1 ≤ n.commit ∧ c.length < 2000) ∧ 0 ≤ plc n.log ((c.length : Int) + 1))) : chF n f c = c := by
  cases f with
  | zero => rfl
  | succ f => simp only [chF]; rw [if_neg h]
def chG (n : Nd) (c : List Cm) : List Cm := chF n (2000 - c.length) c
theorem chG_stop (n : Nd) (c : List Cm) (h : ¬ (((c.length : Int) + 1 ≤ n.commit ∧ c.length < 2000) ∧ 0 ≤ plc n.log ((c.length : Int) + 1))) : chG n c = c := chF_stop n _ c h
theorem chG_step (n : Nd) (c : List Cm) (h : (c.length : Int) + 1 ≤ n.commit) (h1 : c.length < 2000) (h2 : 0 ≤ plc n.log ((c.length : Int) + 1)) : chG n c = chG n (c ++ [(n.log.list.getD (plc n.log ((c.length : Int) + 1)).toNat (dflt .en)).c]) := by
  unfold chG
  have : 2000 - c.length = (2000 - (c ++ [(n.log.list.getD (plc n.log ((c.length : Int) + 1)).toNat (dflt .en)).c]).length) + 1 := by simp; omega
  rw [this]
  conv => lhs; simp only [chF]
  rw [if_pos ⟨⟨h, h1⟩, h2⟩]
def ledF (n was : Nd) (l : List Ld) : List Ld := if (n.role = 2 ∧ (was.role ≠ 2 ∨ was.term ≠ n.term)) ∧ l.length < 2000 then l ++ [⟨n.term, n.id⟩] else l
def noteF (x : Wd) (i : Int) (n : Nd) : Wd := if i < 0 ∨ x.size ≤ i ∨ x.nodes.length ≤ i then x else
  ⟨x.size, x.nodes.set i.toNat n, x.net, chG n x.chosen, x.acks, ledF n (x.nodes.getD i.toNat (dflt .nd)) x.led⟩
theorem r_note (x : Wd) (i : Int) (n : Nd) (hb : baseOk n.log) : Ret Tryz.prog 125 [.pt 0 0, aI i, agL (Nd.cells n)] [(0, .box [aI x.size, .rw 1, .rw 2, .rw 3, .rw 4, .rw 5]), (1, .dp .nd x.nodes), (2, .dp .rp x.net), (3, .row .cm x.chosen), (4, .row .dn x.acks), (5, .row .ld x.led)]
    (.tp []) [(0, .box [aI x.size, .rw 1, .rw 2, .rw 6, .rw 4, .rw 7]), (1, .dp .nd (noteF x i n).nodes), (2, .dp .rp x.net), (3, .gone), (6, .row .cm (noteF x i n).chosen), (4, .row .dn x.acks), (5, .gone), (7, .row .ld (noteF x i n).led)] := by
  refine ret_givR 3 ⟨_, Tryz.func125, rfl, rfl⟩ rfl fun hc => ?_
  refine ret_givR 5 ⟨_, Tryz.func125, rfl, rfl⟩ rfl fun hl => ?_
  simp only [byE] at hc hl
  refine ret_vc hT hM Tryz.func125 rfl rfl (m := 6) (nx := 6) rfl (Nat.le_of_ble_eq_true rfl) ?_
  (repeat' ((conv => whnf); first | (refine nx ?_; intro s) | (refine rg ?_; intro s k) | ((refine cas (fun h => ?_) (fun h => ?_)) <;> (try simp [-List.getD_eq_getElem?_getD] at h)) | ((refine may (fun h => ?_) ?_) <;> (try simp [-List.getD_eq_getElem?_getD] at h)) | (refine giv fun hg => ?_; (try simp only [byE] at hg)) | (refine need (by kernel_rfl) ?_) | (refine need ⟨by omega, by omega⟩ ?_) | (refine need (by omega) ?_) | (refine need (by first | (simp; done) | (simp; omega)) ?_) | (exfalso; omega) | (refine fin_au rfl ?_; (conv => whnf); ((repeat' (first | exact trivial | refine ⟨?_, ?_⟩ | exact rfl | exact Or.inr rfl | exact Or.inl (Nat.le_of_ble_eq_true rfl) | exact Or.inl rfl)) <;> (try (conv => whnf)) <;> (try (first | refine congrArg C.bool ?_ | refine congrArg (C.int .i64) ?_ | refine congrArg C.str ?_ | refine congrArg (fun l => some (Ob.row _ l)) ?_ | refine congrArg (fun l => some (Ob.dp _ l)) ?_ | refine congrArg (C.sl _) ?_)) <;> (try (rw [wrap_i64 (by omega) (by omega)]; first | rfl | omega)))) | (refine WkF.au ?_; (conv => whnf); ((repeat' (first | exact trivial | refine ⟨?_, ?_⟩ | exact rfl | exact Or.inr rfl | exact Or.inl (Nat.le_of_ble_eq_true rfl) | exact Or.inl rfl)) <;> (try (conv => whnf)) <;> (try (first | refine congrArg C.bool ?_ | refine congrArg (C.int .i64) ?_ | refine congrArg C.str ?_ | refine congrArg (fun l => some (Ob.row _ l)) ?_ | refine congrArg (fun l => some (Ob.dp _ l)) ?_ | refine congrArg (C.sl _) ?_)) <;> (try (rw [wrap_i64 (by omega) (by omega)]; first | rfl | omega)))) | (refine altl ?_) | fail))
  all_goals (first | (unfold noteF; rw [if_pos (by omega)]; done) | skip)
  have hn : noteF x i n = ⟨x.size, x.nodes.set i.toNat n, x.net, chG n x.chosen, x.acks, ledF n (x.nodes.getD i.toNat (dflt .nd)) x.led⟩ := by unfold noteF; rw [if_neg (by omega)]

  (repeat ((conv => whnf); first | (refine nx ?_; intro s) | (refine rg ?_; intro s k))); (conv => whnf)
  refine Tri.loop (fun c : List Cm => ⟨[(0, .pt 0 0), (1, aI i), (5, .pt 6 0), (6, aI ((c.length : Int) + 1))], [(0, .box [aI x.size, .rw 1, .rw 2, .rw 7, .rw 4, .rw 5]), (1, .dp .nd x.nodes), (2, .dp .rp x.net), (3, .gone), (4, .row .dn x.acks), (5, .row .ld x.led), (6, .box ((Nd.cells n).map .c)), (7, .row .cm c)], 8⟩) (fun c => chG n c = chG n x.chosen ∧ c.length ≤ x.chosen.length + 2000) (fun c => 2000 - c.length) x.chosen ⟨rfl, by omega⟩ ?_ ?_
  · (refine WkF.au ?_; (conv => whnf); ((repeat' (first | exact trivial | refine ⟨?_, ?_⟩ | exact rfl | exact Or.inr rfl | exact Or.inl (Nat.le_of_ble_eq_true rfl) | exact Or.inl rfl)) <;> (try (conv => whnf)) <;> (try (first | refine congrArg C.bool ?_ | refine congrArg (C.int .i64) ?_ | refine congrArg C.str ?_ | refine congrArg (fun l => some (Ob.row _ l)) ?_ | refine congrArg (fun l => some (Ob.dp _ l)) ?_ | refine congrArg (C.sl _) ?_)) <;> (try (rw [wrap_i64 (by omega) (by omega)]; first | rfl | omega))))
    all_goals (rw [wrap_i64 (by omega) (by omega)])
  · intro c ⟨hc1, hc2⟩
    have hpl := plc_cases n.log ((c.length : Int) + 1)
    refine vc_sound hT hM _ _ _ ?_
    (repeat' ((conv => whnf); first | (refine nx ?_; intro s) | (refine rg ?_; intro s k) | ((refine cas (fun h => ?_) (fun h => ?_)) <;> (try simp [-List.getD_eq_getElem?_getD] at h)) | ((refine may (fun h => ?_) ?_) <;> (try simp [-List.getD_eq_getElem?_getD] at h)) | (refine giv fun hg => ?_; (try simp only [byE] at hg)) | (refine need (by kernel_rfl) ?_) | (refine need ⟨by omega, by omega⟩ ?_) | (refine need (by omega) ?_) | (refine need (by first | (simp; done) | (simp; omega)) ?_) | (refine call_p (r_placeOf n.log ((c.length : Int) + 1) hb (by omega)) rfl (by (repeat' (first | exact trivial | refine ⟨?_, ?_⟩ | exact rfl | exact Or.inr rfl | exact Or.inl (Nat.le_of_ble_eq_true rfl) | exact Or.inl rfl)); (first | done | fail)) ?_) | (refine need (by simp [byE, chunk] at *; omega) ?_) | (refine ⟨c ++ [(n.log.list.getD (plc n.log ((c.length : Int) + 1)).toNat (dflt .en)).c], ?_, ?_, ?_⟩) | (refine call_n (r_copyNode n) rfl (by (repeat' (first | exact trivial | refine ⟨?_, ?_⟩ | exact rfl | exact Or.inr rfl | exact Or.inl (Nat.le_of_ble_eq_true rfl) | exact Or.inl rfl)); (first | done | fail)) (by (repeat' (first | exact trivial | refine ⟨?_, ?_⟩ | exact rfl | exact Or.inr rfl | exact Or.inl (Nat.le_of_ble_eq_true rfl) | exact Or.inl rfl)); (first | done | fail)) ?_) | (refine fin_au rfl ?_; (conv => whnf); ((repeat' (first | exact trivial | refine ⟨?_, ?_⟩ | exact rfl | exact Or.inr rfl | exact Or.inl (Nat.le_of_ble_eq_true rfl) | exact Or.inl rfl)) <;> (try (conv => whnf)) <;> (try (first | refine congrArg C.bool ?_ | refine congrArg (C.int .i64) ?_ | refine congrArg C.str ?_ | refine congrArg (fun l => some (Ob.row _ l)) ?_ | refine congrArg (fun l => some (Ob.dp _ l)) ?_ | refine congrArg (C.sl _) ?_)) <;> (try (rw [wrap_i64 (by omega) (by omega)]; first | rfl | omega)))) | (refine WkF.au ?_; (conv => whnf); ((repeat' (first | exact trivial | refine ⟨?_, ?_⟩ | exact rfl | exact Or.inr rfl | exact Or.inl (Nat.le_of_ble_eq_true rfl) | exact Or.inl rfl)) <;> (try (conv => whnf)) <;> (try (first | refine congrArg C.bool ?_ | refine congrArg (C.int .i64) ?_ | refine congrArg C.str ?_ | refine congrArg (fun l => some (Ob.row _ l)) ?_ | refine congrArg (fun l => some (Ob.dp _ l)) ?_ | refine congrArg (C.sl _) ?_)) <;> (try (rw [wrap_i64 (by omega) (by omega)]; first | rfl | omega)))) | (refine altl ?_) | fail))
    all_goals (clear hb hc hl)
    all_goals first
      | exact (congrArg (x.nodes.set i.toNat) (spl_all .nd _ n)).trans (congrArg Wd.nodes hn).symm
      | exact ((chG_stop n c (by omega)).symm.trans hc1).trans (congrArg Wd.chosen hn).symm
      | (refine Eq.trans ?_ (congrArg Wd.led hn).symm; refine (snoc_ch .ld x.led ⟨n.term, n.id⟩ rfl).trans ?_; show _ = ledF _ _ _; unfold ledF; rw [if_pos (by omega)])
      | (refine Eq.trans ?_ (congrArg Wd.led hn).symm; show _ = ledF _ _ _; unfold ledF; rw [if_neg (by omega)])
      | exact ⟨(chG_step n c (by omega) (by omega) (by omega)).symm.trans hc1, by simp; omega⟩
      | (simp; omega)
      | exact snoc_ch .cm c _ rfl
      | (rw [wrap_i64 (by omega) (by omega)]; simp; done)

end Go.Proofs.YthbpdhppelaihaaGreat
