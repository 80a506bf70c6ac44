/- Rows of numbers as bytes, on either side. Conditions: none. -/
import Derived.Test.YthbpdhppelaihaaGreatTF
import Derived.Test.YthbpdhppelaihaaGreatZJ
set_option linter.unusedVariables false
set_option linter.unusedSimpArgs false
namespace Go.Proofs.YthbpdhppelaihaaGreat
open Go.RowKit
attribute [local irreducible] Tri Weak
set_option maxRecDepth 4000
set_option maxHeartbeats 4000000
abbrev bytA (q : List UInt8 × Bool) : A := .tp [.rw 0, .c (.bool q.2)]
abbrev bytH (q : List UInt8 × Bool) : Hp := [(0, .row .u8 q.1)]
theorem putA_bad {l : List Int} {i : Nat} (hi : i < l.length) (h : inR (l.getD i (dflt .int)) = false) : putA l = ([], false) := by
 refine putA_no ?_
 cases ha : l.all inR with
 | false => rfl
 | true => have := List.all_eq_true.1 ha _ (getD_mem (dflt .int) hi); rw [h] at this; cases this
theorem putA_end {l : List Int} {i : Nat} (hi : l.length ≤ i) (h : ∀ j, j < i → inR (l.getD j (dflt .int)) = true) : putA l = (cod (l.take i), true) := by
 rw [List.take_of_length_le hi]
 refine putA_yes (List.all_eq_true.2 fun x hx => ?_)
 obtain ⟨j, h1, h2⟩ := mem_getD (dflt .int) hx
 rw [← h2]
 exact h j (by omega)
theorem cod_take {l : List Int} {i : Nat} (hi : i < l.length) : cod (l.take i) ++ putN (l.getD i (dflt .int)) = cod (l.take (i + 1)) := by
 rw [← take_snoc' l (dflt .int) hi, cod_app]
 simp [cod]
theorem r_putAll (l : List Int) (hl : l.length ≤ 1073741824) : Ret Tryz.prog 245 [aL .int l] [] (bytA (putA l)) (bytH (putA l)) := by
 refine ret_vc hT hM Tryz.func245 rfl rfl (m := 0) (nx := 0) rfl (Nat.le_of_ble_eq_true rfl) ?_
 (repeat' ((conv => whnf); first | (apply nx; intro s) | (apply rg; intro s k) | ((first | refine cas (fun h => ?_) (fun h => ?_) | refine may (fun h => ?_) ?_) <;> (try simp [-List.getD_eq_getElem?_getD] at h)) | (refine giv fun hg => ?_; (try simp only [byE] at hg)) | refine need (by first | kernel_rfl | omega | (simp; done) | (simp; omega)) ?_ | ((first | refine fin_au rfl ?_ | apply WkF.au); (conv => whnf); ((repeat' first | exact trivial | refine ⟨?_, ?_⟩ | exact rfl | exact oR | exact orB rfl | exact oL) <;> (try conv => whnf) <;> (try first | apply cgB | apply cgI | apply cgS | apply cgR | apply cgD | refine cgL ?_) <;> (try (rw [wrap_i64 (by omega) (by omega)]; first | rfl | omega)))) | apply altl))
 (repeat ((conv => whnf); first | (apply nx; intro s) | (apply rg; intro s k))); (conv => whnf)
 refine Tri.loop (fun i : Nat => ⟨[(4, .rw 0), (9, aL .int l), (10, aI l.length), (11, aI i)], [(0, .row .u8 (cod (l.take i)))], 1⟩) (fun i => i ≤ l.length ∧ ∀ j, j < i → inR (l.getD j (dflt .int)) = true) (fun i => l.length - i) 0 ⟨Nat.zero_le _, fun j hj => by omega⟩ ?_ ?_
 · (apply WkF.au; (conv => whnf); ((repeat' first | exact trivial | refine ⟨?_, ?_⟩ | exact rfl | exact oR | exact orB rfl | exact oL) <;> (try conv => whnf) <;> (try first | apply cgB | apply cgI | apply cgS | apply cgR | apply cgD | refine cgL ?_) <;> (try (rw [wrap_i64 (by omega) (by omega)]; first | rfl | omega))))
 · intro i ⟨h1, h2⟩
   have hbad := @putA_bad l i
   have hend := @putA_end l i
   have hstep := @cod_take l i
   have hc1 := cod_le (l.take i)
   have hc2 := putN_le (l.getD i (dflt .int))
   have hc3 : (l.take i).length ≤ i := by rw [List.length_take]; omega
   have hnx : inR (l.getD i (dflt .int)) = true → ∀ j, j < i + 1 → inR (l.getD j (dflt .int)) = true := fun h j hj => (Nat.lt_succ_iff_lt_or_eq.1 hj).elim (h2 j) fun e => by subst e; exact h
   refine vc_sound hT hM _ _ _ ?_
   (repeat' ((conv => whnf); first | (apply nx; intro s) | (apply rg; intro s k) | ((first | refine cas (fun h => ?_) (fun h => ?_) | refine may (fun h => ?_) ?_) <;> (try simp [-List.getD_eq_getElem?_getD, putN_nil] at h)) | (refine giv fun hg => ?_; (try simp only [byE] at hg)) | refine need (by first | kernel_rfl | omega | (simp; done) | (simp; omega)) ?_ | (refine call_n (r_implPutNum (l.getD i (dflt .int))) rfl ?_ ?_ ?_; iterate 2 (focus (repeat' first | exact trivial | refine ⟨?_, ?_⟩ | exact rfl | exact oR | exact orB rfl | exact oL); (first | done | fail))) | (refine need (by simp only [byE, chunk]; omega) ?_) | (refine ⟨i + 1, ⟨by omega, hnx (by assumption)⟩, by omega, ?_⟩) | ((first | refine fin_au rfl ?_ | apply WkF.au); (conv => whnf); ((repeat' first | exact trivial | refine ⟨?_, ?_⟩ | exact rfl | exact oR | exact orB rfl | exact oL) <;> (try conv => whnf) <;> (try first | apply cgB | apply cgI | apply cgS | apply cgR | apply cgD | refine cgL ?_) <;> (try (rw [wrap_i64 (by omega) (by omega)]; first | rfl | omega)))) | apply altl))
   all_goals (try dsimp only)
   all_goals first
    | exact hstep (by omega)
    | (rw [hbad (by omega) (by assumption)]; done)
    | (rw [hbad (by omega) (by assumption)]; rfl)
    | (rw [hend (by omega) h2]; done)
    | (rw [wrap_i64 (by omega) (by omega)]; omega)
theorem r_l5Nums (l : List Int) (hl : l.length ≤ 1073741824) : Ret Tryz.prog 246 [aL .int l] [] (bytA (putA l)) (bytH (putA l)) := by
 refine ret_vc hT hM Tryz.func246 rfl rfl (m := 0) (nx := 0) rfl (Nat.le_of_ble_eq_true rfl) ?_
 (repeat' ((conv => whnf); first | (apply nx; intro s) | (apply rg; intro s k) | ((first | refine cas (fun h => ?_) (fun h => ?_) | refine may (fun h => ?_) ?_) <;> (try simp [-List.getD_eq_getElem?_getD] at h)) | (refine giv fun hg => ?_; (try simp only [byE] at hg)) | refine need (by first | kernel_rfl | omega | (simp; done) | (simp; omega)) ?_ | ((first | refine fin_au rfl ?_ | apply WkF.au); (conv => whnf); ((repeat' first | exact trivial | refine ⟨?_, ?_⟩ | exact rfl | exact oR | exact orB rfl | exact oL) <;> (try conv => whnf) <;> (try first | apply cgB | apply cgI | apply cgS | apply cgR | apply cgD | refine cgL ?_) <;> (try (rw [wrap_i64 (by omega) (by omega)]; first | rfl | omega)))) | apply altl))
 (repeat ((conv => whnf); first | (apply nx; intro s) | (apply rg; intro s k))); (conv => whnf)
 refine Tri.loop (fun i : Nat => ⟨[(0, aL .int l), (4, .rw 0), (5, aI i)], [(0, .row .u8 (cod (l.take i)))], 1⟩) (fun i => i ≤ l.length ∧ ∀ j, j < i → inR (l.getD j (dflt .int)) = true) (fun i => l.length - i) 0 ⟨Nat.zero_le _, fun j hj => by omega⟩ ?_ ?_
 · (apply WkF.au; (conv => whnf); ((repeat' first | exact trivial | refine ⟨?_, ?_⟩ | exact rfl | exact oR | exact orB rfl | exact oL) <;> (try conv => whnf) <;> (try first | apply cgB | apply cgI | apply cgS | apply cgR | apply cgD | refine cgL ?_) <;> (try (rw [wrap_i64 (by omega) (by omega)]; first | rfl | omega))))
 · intro i ⟨h1, h2⟩
   have hbad := @putA_bad l i
   have hend := @putA_end l i
   have hstep := @cod_take l i
   have hc1 := cod_le (l.take i)
   have hc2 := putN_le (l.getD i (dflt .int))
   have hc3 : (l.take i).length ≤ i := by rw [List.length_take]; omega
   have hnx : inR (l.getD i (dflt .int)) = true → ∀ j, j < i + 1 → inR (l.getD j (dflt .int)) = true := fun h j hj => (Nat.lt_succ_iff_lt_or_eq.1 hj).elim (h2 j) fun e => by subst e; exact h
   refine vc_sound hT hM _ _ _ ?_
   (repeat' ((conv => whnf); first | (apply nx; intro s) | (apply rg; intro s k) | ((first | refine cas (fun h => ?_) (fun h => ?_) | refine may (fun h => ?_) ?_) <;> (try simp [-List.getD_eq_getElem?_getD, putN_nil] at h)) | (refine giv fun hg => ?_; (try simp only [byE] at hg)) | refine need (by first | kernel_rfl | omega | (simp; done) | (simp; omega)) ?_ | (refine call_n (r_specPutNum (l.getD i (dflt .int))) rfl ?_ ?_ ?_; iterate 2 (focus (repeat' first | exact trivial | refine ⟨?_, ?_⟩ | exact rfl | exact oR | exact orB rfl | exact oL); (first | done | fail))) | (refine need (by simp only [byE, chunk]; omega) ?_) | (refine ⟨i + 1, ⟨by omega, hnx (by assumption)⟩, by omega, ?_⟩) | ((first | refine fin_au rfl ?_ | apply WkF.au); (conv => whnf); ((repeat' first | exact trivial | refine ⟨?_, ?_⟩ | exact rfl | exact oR | exact orB rfl | exact oL) <;> (try conv => whnf) <;> (try first | apply cgB | apply cgI | apply cgS | apply cgR | apply cgD | refine cgL ?_) <;> (try (rw [wrap_i64 (by omega) (by omega)]; first | rfl | omega)))) | apply altl))
   all_goals (try dsimp only)
   all_goals first
    | exact hstep (by omega)
    | (rw [hbad (by omega) (by assumption)]; done)
    | (rw [hbad (by omega) (by assumption)]; rfl)
    | (rw [hend (by omega) h2]; done)
    | (rw [wrap_i64 (by omega) (by omega)]; omega)
def fl2 (l : List Pr) (i : Nat) : List Int := (l.take i).flatMap fun p => [p.k, p.v]
def fl3 (l : List Ms) (i : Nat) : List Int := (l.take i).flatMap fun p => [p.op, p.k, p.v]
theorem fl2_step {l : List Pr} {i : Nat} (h : i < l.length) : fl2 l (i + 1) = fl2 l i ++ [(l.getD i (dflt .pr)).k, (l.getD i (dflt .pr)).v] := by
 unfold fl2
 rw [← take_snoc' l (dflt .pr) h, List.flatMap_append]
 rfl
theorem fl3_step {l : List Ms} {i : Nat} (h : i < l.length) : fl3 l (i + 1) = fl3 l i ++ [(l.getD i (dflt .ms)).op, (l.getD i (dflt .ms)).k, (l.getD i (dflt .ms)).v] := by
 unfold fl3
 rw [← take_snoc' l (dflt .ms) h, List.flatMap_append]
 rfl
theorem fl2_len (l : List Pr) (i : Nat) : (fl2 l i).length ≤ 2 * l.length := by
 unfold fl2; rw [flat2_len, List.length_take]; omega
theorem fl3_len (l : List Ms) (i : Nat) : (fl3 l i).length ≤ 3 * l.length := by
 unfold fl3; rw [flat3_len, List.length_take]; omega
theorem fl2_all {l : List Pr} {i : Nat} (h : l.length ≤ i) : fl2 l i = l.flatMap fun p => [p.k, p.v] := by unfold fl2; rw [List.take_of_length_le h]
theorem fl3_all {l : List Ms} {i : Nat} (h : l.length ≤ i) : fl3 l i = l.flatMap fun p => [p.op, p.k, p.v] := by unfold fl3; rw [List.take_of_length_le h]
theorem r_l5Node (t : Tr) (ks : List Int) (hb : nodeB t ks = true) : Ret Tryz.prog 247 [agE .tr t, aL .int ks] [] (.rw 0) [(0, .row .int (nodeNs t ks))] := by
 cases hl : t.leaf with
 | true =>
   rw [nodeNs_leaf hl]
   rw [nodeB_leaf hl] at hb
   have hf := @fl2_step t.pairs
   have hfl := fl2_len t.pairs
   have hfe := @fl2_all t.pairs
   refine ret_vc hT hM Tryz.func247 rfl rfl (m := 0) (nx := 0) rfl (Nat.le_of_ble_eq_true rfl) ?_
   (repeat' ((conv => whnf); first | (apply nx; intro s) | (apply rg; intro s k) | ((first | refine cas (fun h => ?_) (fun h => ?_) | refine may (fun h => ?_) ?_) <;> (try simp [-List.getD_eq_getElem?_getD, hl] at h)) | (refine giv fun hg => ?_; (try simp only [byE] at hg)) | refine need (by first | kernel_rfl | omega | (simp; done) | (simp; omega)) ?_ | ((first | refine fin_au rfl ?_ | apply WkF.au); (conv => whnf); ((repeat' first | exact trivial | refine ⟨?_, ?_⟩ | exact rfl | exact oR | exact orB rfl | exact oL) <;> (try conv => whnf) <;> (try first | apply cgB | apply cgI | apply cgS | apply cgR | apply cgD | refine cgL ?_) <;> (try (rw [wrap_i64 (by omega) (by omega)]; first | rfl | omega)))) | apply altl))
   (repeat ((conv => whnf); first | (apply nx; intro s) | (apply rg; intro s k))); (conv => whnf)
   refine Tri.loop (fun i : Nat => ⟨[(2, .pt 0 0), (5, .rw 2), (6, aI i)], [(0, .box ((cells .tr t).map .c)), (2, .row .int ([1, (t.pairs.length : Int)] ++ fl2 t.pairs i))], 3⟩) (fun i => i ≤ t.pairs.length) (fun i => t.pairs.length - i) 0 (Nat.zero_le _) ?_ ?_
   · (apply WkF.au; (conv => whnf); ((repeat' first | exact trivial | refine ⟨?_, ?_⟩ | exact rfl | exact oR | exact orB rfl | exact oL) <;> (try conv => whnf) <;> (try first | apply cgB | apply cgI | apply cgS | apply cgR | apply cgD | refine cgL ?_) <;> (try (rw [wrap_i64 (by omega) (by omega)]; first | rfl | omega))))
   · intro i h1
     have hfl' := hfl i
     refine vc_sound hT hM _ _ _ ?_
     (repeat' ((conv => whnf); first | (apply nx; intro s) | (apply rg; intro s k) | ((first | refine cas (fun h => ?_) (fun h => ?_) | refine may (fun h => ?_) ?_) <;> (try simp [-List.getD_eq_getElem?_getD] at h)) | (refine giv fun hg => ?_; (try simp only [byE] at hg)) | refine need (by first | kernel_rfl | omega | (simp; done) | (simp; omega)) ?_ | (refine need (by simp only [byE, chunk, List.length_append, List.length_cons, List.length_nil]; omega) ?_) | (refine ⟨i + 1, by omega, by omega, ?_⟩) | ((first | refine fin_au rfl ?_ | apply WkF.au); (conv => whnf); ((repeat' first | exact trivial | refine ⟨?_, ?_⟩ | exact rfl | exact oR | exact orB rfl | exact oL) <;> (try conv => whnf) <;> (try first | apply cgB | apply cgI | apply cgS | apply cgR | apply cgD | refine cgL ?_) <;> (try (rw [wrap_i64 (by omega) (by omega)]; first | rfl | omega)))) | apply altl))
     all_goals first
      | (rw [hf (by omega), ← List.append_assoc]; rfl)
      | (rw [hfe (by omega)]; rfl)
      | (rw [wrap_i64 (by omega) (by omega)]; omega)
 | false =>
   rw [nodeNs_node hl]
   rw [nodeB_node hl] at hb
   have hf := @fl3_step t.buf
   have hfl := fl3_len t.buf
   have hfe := @fl3_all t.buf
   refine ret_vc hT hM Tryz.func247 rfl rfl (m := 0) (nx := 0) rfl (Nat.le_of_ble_eq_true rfl) ?_
   (repeat' ((conv => whnf); first | (apply nx; intro s) | (apply rg; intro s k) | ((first | refine cas (fun h => ?_) (fun h => ?_) | refine may (fun h => ?_) ?_) <;> (try simp [-List.getD_eq_getElem?_getD, hl] at h)) | (refine giv fun hg => ?_; (try simp only [byE] at hg)) | refine need (by first | kernel_rfl | omega | (simp; done) | (simp; omega)) ?_ | (refine need (by simp only [byE, chunk, List.length_append, List.length_cons, List.length_nil]; omega) ?_) | ((first | refine fin_au rfl ?_ | apply WkF.au); (conv => whnf); ((repeat' first | exact trivial | refine ⟨?_, ?_⟩ | exact rfl | exact oR | exact orB rfl | exact oL) <;> (try conv => whnf) <;> (try first | apply cgB | apply cgI | apply cgS | apply cgR | apply cgD | refine cgL ?_) <;> (try (rw [wrap_i64 (by omega) (by omega)]; first | rfl | omega)))) | apply altl))
   (repeat ((conv => whnf); first | (apply nx; intro s) | (apply rg; intro s k))); (conv => whnf)
   refine Tri.loop (fun i : Nat => ⟨[(2, .pt 0 0), (5, .rw 1), (7, aI i)], [(0, .box ((cells .tr t).map .c)), (1, .row .int ([0, (ks.length : Int)] ++ ks ++ t.cuts ++ [(t.buf.length : Int)] ++ fl3 t.buf i))], 2⟩) (fun i => i ≤ t.buf.length) (fun i => t.buf.length - i) 0 (Nat.zero_le _) ?_ ?_
   · (apply WkF.au; (conv => whnf); ((repeat' first | exact trivial | refine ⟨?_, ?_⟩ | exact rfl | exact oR | exact orB rfl | exact oL) <;> (try conv => whnf) <;> (try first | apply cgB | apply cgI | apply cgS | apply cgR | apply cgD | refine cgL ?_) <;> (try (rw [wrap_i64 (by omega) (by omega)]; first | rfl | omega))))
     all_goals (rw [show fl3 t.buf 0 = [] from rfl, List.append_nil]; rfl)
   · intro i h1
     have hfl' := hfl i
     refine vc_sound hT hM _ _ _ ?_
     (repeat' ((conv => whnf); first | (apply nx; intro s) | (apply rg; intro s k) | ((first | refine cas (fun h => ?_) (fun h => ?_) | refine may (fun h => ?_) ?_) <;> (try simp [-List.getD_eq_getElem?_getD] at h)) | (refine giv fun hg => ?_; (try simp only [byE] at hg)) | refine need (by first | kernel_rfl | omega | (simp; done) | (simp; omega)) ?_ | (refine need (by simp only [byE, chunk, List.length_append, List.length_cons, List.length_nil]; omega) ?_) | (refine ⟨i + 1, by omega, by omega, ?_⟩) | ((first | refine fin_au rfl ?_ | apply WkF.au); (conv => whnf); ((repeat' first | exact trivial | refine ⟨?_, ?_⟩ | exact rfl | exact oR | exact orB rfl | exact oL) <;> (try conv => whnf) <;> (try first | apply cgB | apply cgI | apply cgS | apply cgR | apply cgD | refine cgL ?_) <;> (try (rw [wrap_i64 (by omega) (by omega)]; first | rfl | omega)))) | apply altl))
     all_goals first
      | (rw [hf (by omega), ← List.append_assoc]; rfl)
      | (rw [hfe (by omega)]; simp only [List.append_assoc, List.cons_append, List.nil_append])
      | (rw [wrap_i64 (by omega) (by omega)]; omega)
theorem nodeNs_len' {t : Tr} {ks : List Int} (h : nodeB t ks = true) : (nodeNs t ks).length ≤ 1073741824 := Nat.le_trans (nodeNs_len h) (by omega)
theorem putNd_yes {t : Tr} {ks : List Int} (h : nodeB t ks = true) : putNd t ks = putA (nodeNs t ks) := by unfold putNd; rw [if_pos h]
theorem putNd_no {t : Tr} {ks : List Int} (h : nodeB t ks = false) : putNd t ks = ([], false) := by unfold putNd; rw [h]; rfl
theorem r_specPutNode (t : Tr) (ks : List Int) : Ret Tryz.prog 205 [agE .tr t, aL .int ks] [] (bytA (putNd t ks)) (bytH (putNd t ks)) := by
 refine ret_bnd 0 ⟨_, Tryz.func205, rfl, rfl⟩ rfl fun hb0 => ?_
 have hb1 := hb0.un.2.un
 have hb2 := hb1.2.un
 have hb3 := hb2.2.un
 have e1 := hb1.1.len
 have e2 := hb2.1.len
 have e3 := hb3.1.len
 have e4 := hb3.2.un.1.len
 refine ret_giv 1 ⟨_, Tryz.func205, rfl, rfl⟩ rfl fun e5 => ?_
 simp only [byE] at e5
 clear hb0 hb1 hb2 hb3
 have hs : IntKind.i64.wrap (IntKind.i64.wrap ((t.kids.length : Int) + t.cuts.length) + t.buf.length) = ((t.kids.length + t.cuts.length + t.buf.length : Nat) : Int) := by
  rw [wrap_i64 (n := (t.kids.length : Int) + t.cuts.length) (by omega) (by omega), wrap_i64 (by omega) (by omega)]; omega
 have hw : IntKind.i64.wrap ((ks.length : Int) - 1) = (ks.length : Int) - 1 := by rw [wrap_i64 (by omega) (by omega)]
 cases hb : nodeB t ks with
 | false =>
   rw [putNd_no hb]
   cases hl : t.leaf with
   | true =>
     have hn : ¬ (t.pairs.length ≤ 4 ∧ t.kids.length = 0 ∧ t.cuts.length = 0 ∧ t.buf.length = 0 ∧ ks.length = 0) := fun h => by rw [(nodeB_leaf hl).2 h] at hb; cases hb
     refine ret_vc hT hM Tryz.func205 rfl rfl (m := 0) (nx := 0) rfl (Nat.le_of_ble_eq_true rfl) ?_
     (repeat' ((conv => whnf); first | (apply nx; intro s) | (apply rg; intro s k) | ((first | refine cas (fun h => ?_) (fun h => ?_) | refine may (fun h => ?_) ?_) <;> (try simp [-List.getD_eq_getElem?_getD, hl, ↓hs, ↓hw, -List.length_eq_zero_iff] at h)) | (refine giv fun hg => ?_; (try simp only [byE] at hg)) | refine need (by first | kernel_rfl | omega | (simp; done) | (simp; omega)) ?_ | (exfalso; omega) | ((first | refine fin_au rfl ?_ | apply WkF.au); (conv => whnf); ((repeat' first | exact trivial | refine ⟨?_, ?_⟩ | exact rfl | exact oR | exact orB rfl | exact oL) <;> (try conv => whnf) <;> (try first | apply cgB | apply cgI | apply cgS | apply cgR | apply cgD | refine cgL ?_) <;> (try (rw [wrap_i64 (by omega) (by omega)]; first | rfl | omega)))) | apply altl))
   | false =>
     have hn : ¬ ((1 ≤ ks.length ∧ ks.length ≤ 4) ∧ t.kids.length = ks.length ∧ t.cuts.length + 1 = ks.length ∧ t.buf.length ≤ 6 ∧ t.pairs.length = 0) := fun h => by rw [(nodeB_node hl).2 h] at hb; cases hb
     refine ret_vc hT hM Tryz.func205 rfl rfl (m := 0) (nx := 0) rfl (Nat.le_of_ble_eq_true rfl) ?_
     (repeat' ((conv => whnf); first | (apply nx; intro s) | (apply rg; intro s k) | ((first | refine cas (fun h => ?_) (fun h => ?_) | refine may (fun h => ?_) ?_) <;> (try simp [-List.getD_eq_getElem?_getD, hl, ↓hs, ↓hw, -List.length_eq_zero_iff] at h)) | (refine giv fun hg => ?_; (try simp only [byE] at hg)) | refine need (by first | kernel_rfl | omega | (simp; done) | (simp; omega)) ?_ | (exfalso; omega) | ((first | refine fin_au rfl ?_ | apply WkF.au); (conv => whnf); ((repeat' first | exact trivial | refine ⟨?_, ?_⟩ | exact rfl | exact oR | exact orB rfl | exact oL) <;> (try conv => whnf) <;> (try first | apply cgB | apply cgI | apply cgS | apply cgR | apply cgD | refine cgL ?_) <;> (try (rw [wrap_i64 (by omega) (by omega)]; first | rfl | omega)))) | apply altl))
 | true =>
   rw [putNd_yes hb]
   have hln := nodeNs_len' hb
   have hnd := r_l5Node t ks hb
   have hnu := r_l5Nums (nodeNs t ks) hln
   cases hl : t.leaf with
   | true =>
     rw [nodeB_leaf hl] at hb
     generalize nodeNs t ks = L at *
     refine ret_vc hT hM Tryz.func205 rfl rfl (m := 0) (nx := 0) rfl (Nat.le_of_ble_eq_true rfl) ?_
     (repeat' ((conv => whnf); first | (apply nx; intro s) | (apply rg; intro s k) | ((first | refine cas (fun h => ?_) (fun h => ?_) | refine may (fun h => ?_) ?_) <;> (try simp [-List.getD_eq_getElem?_getD, hl, ↓hs, ↓hw, -List.length_eq_zero_iff] at h)) | (refine giv fun hg => ?_; (try simp only [byE] at hg)) | refine need (by first | kernel_rfl | omega | (simp; done) | (simp; omega)) ?_ | (exfalso; omega) | (refine call_n (hnd) rfl ?_ ?_ ?_; iterate 2 (focus (repeat' first | exact trivial | refine ⟨?_, ?_⟩ | exact rfl | exact oR | exact orB rfl | exact oL); (first | done | fail))) | (refine call_f (hnu) ?_ ?_ ?_ ?_; iterate 3 (focus (repeat' first | exact trivial | refine ⟨?_, ?_⟩ | exact rfl | exact oR | exact orB rfl | exact oL); (first | done | fail))) | ((first | refine fin_au rfl ?_ | apply WkF.au); (conv => whnf); ((repeat' first | exact trivial | refine ⟨?_, ?_⟩ | exact rfl | exact oR | exact orB rfl | exact oL) <;> (try conv => whnf) <;> (try first | apply cgB | apply cgI | apply cgS | apply cgR | apply cgD | refine cgL ?_) <;> (try (rw [wrap_i64 (by omega) (by omega)]; first | rfl | omega)))) | apply altl))
   | false =>
     rw [nodeB_node hl] at hb
     generalize nodeNs t ks = L at *
     refine ret_vc hT hM Tryz.func205 rfl rfl (m := 0) (nx := 0) rfl (Nat.le_of_ble_eq_true rfl) ?_
     (repeat' ((conv => whnf); first | (apply nx; intro s) | (apply rg; intro s k) | ((first | refine cas (fun h => ?_) (fun h => ?_) | refine may (fun h => ?_) ?_) <;> (try simp [-List.getD_eq_getElem?_getD, hl, ↓hs, ↓hw, -List.length_eq_zero_iff] at h)) | (refine giv fun hg => ?_; (try simp only [byE] at hg)) | refine need (by first | kernel_rfl | omega | (simp; done) | (simp; omega)) ?_ | (exfalso; omega) | (refine call_n (hnd) rfl ?_ ?_ ?_; iterate 2 (focus (repeat' first | exact trivial | refine ⟨?_, ?_⟩ | exact rfl | exact oR | exact orB rfl | exact oL); (first | done | fail))) | (refine call_f (hnu) ?_ ?_ ?_ ?_; iterate 3 (focus (repeat' first | exact trivial | refine ⟨?_, ?_⟩ | exact rfl | exact oR | exact orB rfl | exact oL); (first | done | fail))) | ((first | refine fin_au rfl ?_ | apply WkF.au); (conv => whnf); ((repeat' first | exact trivial | refine ⟨?_, ?_⟩ | exact rfl | exact oR | exact orB rfl | exact oL) <;> (try conv => whnf) <;> (try first | apply cgB | apply cgI | apply cgS | apply cgR | apply cgD | refine cgL ?_) <;> (try (rw [wrap_i64 (by omega) (by omega)]; first | rfl | omega)))) | apply altl))
theorem r_implPutNode (t : Tr) (ks : List Int) : Ret Tryz.prog 204 [agE .tr t, aL .int ks] [] (bytA (putNd t ks)) (bytH (putNd t ks)) := by
 refine ret_bnd 0 ⟨_, Tryz.func204, rfl, rfl⟩ rfl fun hb0 => ?_
 have hb1 := hb0.un.2.un
 have hb2 := hb1.2.un
 have hb3 := hb2.2.un
 have e1 := hb1.1.len
 have e2 := hb2.1.len
 have e3 := hb3.1.len
 have e4 := hb3.2.un.1.len
 refine ret_giv 1 ⟨_, Tryz.func204, rfl, rfl⟩ rfl fun e5 => ?_
 simp only [byE] at e5
 clear hb0 hb1 hb2 hb3
 have hs : IntKind.i64.wrap (IntKind.i64.wrap (IntKind.i64.wrap ((t.kids.length : Int) + t.cuts.length) + t.buf.length) + ks.length) = ((t.kids.length + t.cuts.length + t.buf.length + ks.length : Nat) : Int) := by
  rw [wrap_i64 (n := (t.kids.length : Int) + t.cuts.length) (by omega) (by omega), wrap_i64 (n := (t.kids.length : Int) + t.cuts.length + t.buf.length) (by omega) (by omega), wrap_i64 (by omega) (by omega)]; omega
 have hw : IntKind.i64.wrap ((ks.length : Int) - 1) = (ks.length : Int) - 1 := by rw [wrap_i64 (by omega) (by omega)]
 cases hb : nodeB t ks with
 | false =>
   rw [putNd_no hb]
   cases hl : t.leaf with
   | true =>
     have hn : ¬ (t.pairs.length ≤ 4 ∧ t.kids.length = 0 ∧ t.cuts.length = 0 ∧ t.buf.length = 0 ∧ ks.length = 0) := fun h => by rw [(nodeB_leaf hl).2 h] at hb; cases hb
     refine ret_vc hT hM Tryz.func204 rfl rfl (m := 0) (nx := 0) rfl (Nat.le_of_ble_eq_true rfl) ?_
     (repeat' ((conv => whnf); first | (apply nx; intro s) | (apply rg; intro s k) | ((first | refine cas (fun h => ?_) (fun h => ?_) | refine may (fun h => ?_) ?_) <;> (try simp [-List.getD_eq_getElem?_getD, hl, ↓hs, ↓hw, -List.length_eq_zero_iff] at h)) | (refine giv fun hg => ?_; (try simp only [byE] at hg)) | refine need (by first | kernel_rfl | omega | (simp; done) | (simp; omega)) ?_ | (exfalso; omega) | ((first | refine fin_au rfl ?_ | apply WkF.au); (conv => whnf); ((repeat' first | exact trivial | refine ⟨?_, ?_⟩ | exact rfl | exact oR | exact orB rfl | exact oL) <;> (try conv => whnf) <;> (try first | apply cgB | apply cgI | apply cgS | apply cgR | apply cgD | refine cgL ?_) <;> (try (rw [wrap_i64 (by omega) (by omega)]; first | rfl | omega)))) | apply altl))
   | false =>
     have hn : ¬ ((1 ≤ ks.length ∧ ks.length ≤ 4) ∧ t.kids.length = ks.length ∧ t.cuts.length + 1 = ks.length ∧ t.buf.length ≤ 6 ∧ t.pairs.length = 0) := fun h => by rw [(nodeB_node hl).2 h] at hb; cases hb
     refine ret_vc hT hM Tryz.func204 rfl rfl (m := 0) (nx := 0) rfl (Nat.le_of_ble_eq_true rfl) ?_
     (repeat' ((conv => whnf); first | (apply nx; intro s) | (apply rg; intro s k) | ((first | refine cas (fun h => ?_) (fun h => ?_) | refine may (fun h => ?_) ?_) <;> (try simp [-List.getD_eq_getElem?_getD, hl, ↓hs, ↓hw, inB_iff, inB_niff, -List.length_eq_zero_iff] at h)) | (refine giv fun hg => ?_; (try simp only [byE] at hg)) | refine need (by first | kernel_rfl | omega | (simp; done) | (simp; omega)) ?_ | (exfalso; omega) | (refine call_p (r_within ks.length 1 4) rfl (by (repeat' first | exact trivial | refine ⟨?_, ?_⟩ | exact rfl | exact oR | exact orB rfl | exact oL); (first | done | fail)) ?_) | ((first | refine fin_au rfl ?_ | apply WkF.au); (conv => whnf); ((repeat' first | exact trivial | refine ⟨?_, ?_⟩ | exact rfl | exact oR | exact orB rfl | exact oL) <;> (try conv => whnf) <;> (try first | apply cgB | apply cgI | apply cgS | apply cgR | apply cgD | refine cgL ?_) <;> (try (rw [wrap_i64 (by omega) (by omega)]; first | rfl | omega)))) | apply altl))
 | true =>
   rw [putNd_yes hb]
   have hln := nodeNs_len' hb
   have hnu := r_putAll (nodeNs t ks) hln
   cases hl : t.leaf with
   | true =>
     rw [nodeB_leaf hl] at hb
     have hf := @fl2_step t.pairs
     have hfl := fl2_len t.pairs
     have hfe : ∀ i, t.pairs.length ≤ i → [1, (t.pairs.length : Int)] ++ fl2 t.pairs i = nodeNs t ks := fun i h => by rw [fl2_all h, nodeNs_leaf hl]; rfl
     refine ret_vc hT hM Tryz.func204 rfl rfl (m := 0) (nx := 0) rfl (Nat.le_of_ble_eq_true rfl) ?_
     (repeat' ((conv => whnf); first | (apply nx; intro s) | (apply rg; intro s k) | ((first | refine cas (fun h => ?_) (fun h => ?_) | refine may (fun h => ?_) ?_) <;> (try simp [-List.getD_eq_getElem?_getD, hl, ↓hs, ↓hw, -List.length_eq_zero_iff] at h)) | (refine giv fun hg => ?_; (try simp only [byE] at hg)) | refine need (by first | kernel_rfl | omega | (simp; done) | (simp; omega)) ?_ | (exfalso; omega) | ((first | refine fin_au rfl ?_ | apply WkF.au); (conv => whnf); ((repeat' first | exact trivial | refine ⟨?_, ?_⟩ | exact rfl | exact oR | exact orB rfl | exact oL) <;> (try conv => whnf) <;> (try first | apply cgB | apply cgI | apply cgS | apply cgR | apply cgD | refine cgL ?_) <;> (try (rw [wrap_i64 (by omega) (by omega)]; first | rfl | omega)))) | apply altl))
     (repeat ((conv => whnf); first | (apply nx; intro s) | (apply rg; intro s k))); (conv => whnf)
     refine Tri.loop (fun i : Nat => ⟨[(6, .rw 1), (40, aL .pr t.pairs), (41, aI t.pairs.length), (42, aI i)], [(1, .row .int ([1, (t.pairs.length : Int)] ++ fl2 t.pairs i))], 2⟩) (fun i => i ≤ t.pairs.length) (fun i => t.pairs.length - i) 0 (Nat.zero_le _) ?_ ?_
     · (apply WkF.au; (conv => whnf); ((repeat' first | exact trivial | refine ⟨?_, ?_⟩ | exact rfl | exact oR | exact orB rfl | exact oL) <;> (try conv => whnf) <;> (try first | apply cgB | apply cgI | apply cgS | apply cgR | apply cgD | refine cgL ?_) <;> (try (rw [wrap_i64 (by omega) (by omega)]; first | rfl | omega))))
     · intro i h1
       have hfl' := hfl i
       refine vc_sound hT hM _ _ _ ?_
       by_cases hi : i < t.pairs.length
       · have hf' := hf hi
         (repeat' ((conv => whnf); first | (apply nx; intro s) | (apply rg; intro s k) | ((first | refine cas (fun h => ?_) (fun h => ?_) | refine may (fun h => ?_) ?_) <;> (try simp [-List.getD_eq_getElem?_getD] at h)) | (refine giv fun hg => ?_; (try simp only [byE] at hg)) | refine need (by first | kernel_rfl | omega | (simp; done) | (simp; omega)) ?_ | (exfalso; omega) | (refine need (by simp only [byE, chunk, List.length_append, List.length_cons, List.length_nil]; omega) ?_) | (refine ⟨i + 1, by omega, by omega, ?_⟩) | ((first | refine fin_au rfl ?_ | apply WkF.au); (conv => whnf); ((repeat' first | exact trivial | refine ⟨?_, ?_⟩ | exact rfl | exact oR | exact orB rfl | exact oL) <;> (try conv => whnf) <;> (try first | apply cgB | apply cgI | apply cgS | apply cgR | apply cgD | refine cgL ?_) <;> (try (rw [wrap_i64 (by omega) (by omega)]; first | rfl | omega)))) | apply altl))
         all_goals (rw [hf', ← List.append_assoc]; rfl)
       · rw [hfe i (by omega)]
         (repeat' ((conv => whnf); first | (apply nx; intro s) | (apply rg; intro s k) | ((first | refine cas (fun h => ?_) (fun h => ?_) | refine may (fun h => ?_) ?_) <;> (try simp [-List.getD_eq_getElem?_getD] at h)) | (refine giv fun hg => ?_; (try simp only [byE] at hg)) | refine need (by first | kernel_rfl | omega | (simp; done) | (simp; omega)) ?_ | (exfalso; omega) | (refine call_f (hnu) ?_ ?_ ?_ ?_; iterate 3 (focus (repeat' first | exact trivial | refine ⟨?_, ?_⟩ | exact rfl | exact oR | exact orB rfl | exact oL); (first | done | fail))) | ((first | refine fin_au rfl ?_ | apply WkF.au); (conv => whnf); ((repeat' first | exact trivial | refine ⟨?_, ?_⟩ | exact rfl | exact oR | exact orB rfl | exact oL) <;> (try conv => whnf) <;> (try first | apply cgB | apply cgI | apply cgS | apply cgR | apply cgD | refine cgL ?_) <;> (try (rw [wrap_i64 (by omega) (by omega)]; first | rfl | omega)))) | apply altl))
   | false =>
     rw [nodeB_node hl] at hb
     have hf := @fl3_step t.buf
     have hfl := fl3_len t.buf
     have hcat : [[0, (ks.length : Int)], ks, t.cuts, [(t.buf.length : Int)]].flatten = [0, (ks.length : Int)] ++ (ks ++ (t.cuts ++ [(t.buf.length : Int)])) := by simp
     have hfe : ∀ i, t.buf.length ≤ i → [0, (ks.length : Int)] ++ (ks ++ (t.cuts ++ [(t.buf.length : Int)])) ++ fl3 t.buf i = nodeNs t ks := fun i h => by rw [fl3_all h, nodeNs_node hl]; simp only [List.append_assoc, List.cons_append, List.nil_append]
     have hco := r_concatIn [[0, (ks.length : Int)], ks, t.cuts, [(t.buf.length : Int)]] (by rw [hcat]; simp only [List.length_append, List.length_cons, List.length_nil]; omega)
     rw [hcat] at hco
     refine ret_vc hT hM Tryz.func204 rfl rfl (m := 0) (nx := 0) rfl (Nat.le_of_ble_eq_true rfl) ?_
     (repeat' ((conv => whnf); first | (apply nx; intro s) | (apply rg; intro s k) | ((first | refine cas (fun h => ?_) (fun h => ?_) | refine may (fun h => ?_) ?_) <;> (try simp [-List.getD_eq_getElem?_getD, hl, ↓hs, ↓hw, inB_iff, inB_niff, -List.length_eq_zero_iff] at h)) | (refine giv fun hg => ?_; (try simp only [byE] at hg)) | refine need (by first | kernel_rfl | omega | (simp; done) | (simp; omega)) ?_ | (exfalso; omega) | (refine call_p (r_within ks.length 1 4) rfl (by (repeat' first | exact trivial | refine ⟨?_, ?_⟩ | exact rfl | exact oR | exact orB rfl | exact oL); (first | done | fail)) ?_) | (refine call_f (hco) ?_ ?_ ?_ ?_; iterate 3 (focus (repeat' first | exact trivial | refine ⟨?_, ?_⟩ | exact rfl | exact oR | exact orB rfl | exact oL); (first | done | fail))) | ((first | refine fin_au rfl ?_ | apply WkF.au); (conv => whnf); ((repeat' first | exact trivial | refine ⟨?_, ?_⟩ | exact rfl | exact oR | exact orB rfl | exact oL) <;> (try conv => whnf) <;> (try first | apply cgB | apply cgI | apply cgS | apply cgR | apply cgD | refine cgL ?_) <;> (try (rw [wrap_i64 (by omega) (by omega)]; first | rfl | omega)))) | apply altl))
     (repeat ((conv => whnf); first | (apply nx; intro s) | (apply rg; intro s k))); (conv => whnf)
     refine Tri.loop (fun i : Nat => ⟨[(9, .rw 1), (104, aL .ms t.buf), (105, aI t.buf.length), (106, aI i)], [(1, .row .int ([0, (ks.length : Int)] ++ (ks ++ (t.cuts ++ [(t.buf.length : Int)])) ++ fl3 t.buf i))], 2⟩) (fun i => i ≤ t.buf.length) (fun i => t.buf.length - i) 0 (Nat.zero_le _) ?_ ?_
     · (apply WkF.au; (conv => whnf); ((repeat' first | exact trivial | refine ⟨?_, ?_⟩ | exact rfl | exact oR | exact orB rfl | exact oL) <;> (try conv => whnf) <;> (try first | apply cgB | apply cgI | apply cgS | apply cgR | apply cgD | refine cgL ?_) <;> (try (rw [wrap_i64 (by omega) (by omega)]; first | rfl | omega))))
       all_goals (rw [show fl3 t.buf 0 = [] from rfl, List.append_nil]; done)
     · intro i h1
       have hfl' := hfl i
       refine vc_sound hT hM _ _ _ ?_
       by_cases hi : i < t.buf.length
       · have hf' := hf hi
         (repeat' ((conv => whnf); first | (apply nx; intro s) | (apply rg; intro s k) | ((first | refine cas (fun h => ?_) (fun h => ?_) | refine may (fun h => ?_) ?_) <;> (try simp [-List.getD_eq_getElem?_getD] at h)) | (refine giv fun hg => ?_; (try simp only [byE] at hg)) | refine need (by first | kernel_rfl | omega | (simp; done) | (simp; omega)) ?_ | (exfalso; omega) | (refine need (by simp only [byE, chunk, List.length_append, List.length_cons, List.length_nil]; omega) ?_) | (refine ⟨i + 1, by omega, by omega, ?_⟩) | ((first | refine fin_au rfl ?_ | apply WkF.au); (conv => whnf); ((repeat' first | exact trivial | refine ⟨?_, ?_⟩ | exact rfl | exact oR | exact orB rfl | exact oL) <;> (try conv => whnf) <;> (try first | apply cgB | apply cgI | apply cgS | apply cgR | apply cgD | refine cgL ?_) <;> (try (rw [wrap_i64 (by omega) (by omega)]; first | rfl | omega)))) | apply altl))
         all_goals (rw [hf']; exact List.append_assoc _ _ _)
       · rw [hfe i (by omega)]
         (repeat' ((conv => whnf); first | (apply nx; intro s) | (apply rg; intro s k) | ((first | refine cas (fun h => ?_) (fun h => ?_) | refine may (fun h => ?_) ?_) <;> (try simp [-List.getD_eq_getElem?_getD] at h)) | (refine giv fun hg => ?_; (try simp only [byE] at hg)) | refine need (by first | kernel_rfl | omega | (simp; done) | (simp; omega)) ?_ | (exfalso; omega) | (refine call_f (hnu) ?_ ?_ ?_ ?_; iterate 3 (focus (repeat' first | exact trivial | refine ⟨?_, ?_⟩ | exact rfl | exact oR | exact orB rfl | exact oL); (first | done | fail))) | ((first | refine fin_au rfl ?_ | apply WkF.au); (conv => whnf); ((repeat' first | exact trivial | refine ⟨?_, ?_⟩ | exact rfl | exact oR | exact orB rfl | exact oL) <;> (try conv => whnf) <;> (try first | apply cgB | apply cgI | apply cgS | apply cgR | apply cgD | refine cgL ?_) <;> (try (rw [wrap_i64 (by omega) (by omega)]; first | rfl | omega)))) | apply altl))
end Go.Proofs.YthbpdhppelaihaaGreat