/- What is written to a disk, on either side. Conditions: none. -/
import Derived.Test.YthbpdhppelaihaaGreatBQ
set_option linter.unusedVariables false
set_option linter.unusedSimpArgs false
namespace Go.Proofs.YthbpdhppelaihaaGreat
open Go.RowKit
attribute [local irreducible] Tri Weak
set_option maxRecDepth 4000
set_option maxHeartbeats 4000000
abbrev Dk := List (List UInt8) × List Su
def wr1 (w : Wr) (d : Dk) : Dk :=
 if 0 ≤ w.at_ ∧ w.at_ < d.1.length then (d.1.set w.at_.toNat w.text, d.2)
 else if (w.at_ = -1 ∨ w.at_ = -2) ∧ -1 - w.at_ < d.2.length then (d.1, d.2.set (-1 - w.at_).toNat w.sup) else d
def dskF (l : List Wr) (d : Dk) : Dk := l.foldl (fun d w => wr1 w d) d
theorem dsk_step {l : List Wr} {d : Dk} {i : Nat} (h : i < l.length) : dskF (l.take (i + 1)) d = wr1 (l.getD i (dflt .wr)) (dskF (l.take i) d) := by
 unfold dskF
 rw [← take_snoc' l (dflt .wr) h, List.foldl_append]; rfl
theorem wr1_len (w : Wr) (d : Dk) : (wr1 w d).1.length = d.1.length ∧ (wr1 w d).2.length = d.2.length := by
 unfold wr1
 split
 · simp
 · split
   · simp
   · simp
theorem dsk_len : ∀ (l : List Wr) (d : Dk), (dskF l d).1.length = d.1.length ∧ (dskF l d).2.length = d.2.length
 | [], d => ⟨rfl, rfl⟩
 | w :: l, d => by
   have h1 := dsk_len l (wr1 w d)
   have h2 := wr1_len w d
   exact ⟨h1.1.trans h2.1, h1.2.trans h2.2⟩
theorem r_cloneStr (xs : List (List UInt8)) : Ret Tryz.prog 207 [.c (.sl .str xs)] [] (.rw 0) [(0, .row .str xs)] := by
 refine ret_giv 0 ⟨_, Tryz.func207, rfl, rfl⟩ rfl fun hb => ?_
 simp only [byE] at hb
 refine ret_vc hT hM Tryz.func207 rfl rfl (m := 0) (nx := 0) rfl (Nat.le_of_ble_eq_true rfl) ?_
 (repeat' ((conv => whnf); first | (apply nx; intro s) | (apply rg; intro s k) | ((first | refine cas (fun h => ?_) (fun h => ?_) | refine may (fun h => ?_) ?_) <;> (try simp [-List.getD_eq_getElem?_getD] at h)) | (refine giv fun hg => ?_; (try simp only [byE] at hg)) | refine need (by first | kernel_rfl | omega | (simp; done) | (simp; omega)) ?_ | (refine need (by simp [chunk]; omega) ?_) | ((first | refine fin_au rfl ?_ | apply WkF.au); (conv => whnf); ((repeat' first | exact trivial | refine ⟨?_, ?_⟩ | exact rfl | exact oR | exact orB rfl | exact oL) <;> (try conv => whnf) <;> (try first | apply cgB | apply cgI | apply cgS | apply cgR | apply cgD | refine cgL ?_) <;> (try (rw [wrap_i64 (by omega) (by omega)]; first | rfl | omega)))) | apply altl))
 all_goals exact h
theorem r_cloneSu (xs : List Su) : Ret Tryz.prog 208 [.c (.sl .su xs)] [] (.rw 0) [(0, .row .su xs)] := by
 refine ret_giv 0 ⟨_, Tryz.func208, rfl, rfl⟩ rfl fun hb => ?_
 simp only [byE] at hb
 refine ret_vc hT hM Tryz.func208 rfl rfl (m := 0) (nx := 0) rfl (Nat.le_of_ble_eq_true rfl) ?_
 (repeat' ((conv => whnf); first | (apply nx; intro s) | (apply rg; intro s k) | ((first | refine cas (fun h => ?_) (fun h => ?_) | refine may (fun h => ?_) ?_) <;> (try simp [-List.getD_eq_getElem?_getD] at h)) | (refine giv fun hg => ?_; (try simp only [byE] at hg)) | refine need (by first | kernel_rfl | omega | (simp; done) | (simp; omega)) ?_ | (refine need (by simp [chunk]; omega) ?_) | ((first | refine fin_au rfl ?_ | apply WkF.au); (conv => whnf); ((repeat' first | exact trivial | refine ⟨?_, ?_⟩ | exact rfl | exact oR | exact orB rfl | exact oL) <;> (try conv => whnf) <;> (try first | apply cgB | apply cgI | apply cgS | apply cgR | apply cgD | refine cgL ?_) <;> (try (rw [wrap_i64 (by omega) (by omega)]; first | rfl | omega)))) | apply altl))
 all_goals exact h
abbrev dkR : A := .ag [.rw 0, .rw 1]
abbrev dkH (d : Dk) : Hp := [(0, .row .str d.1), (1, .row .su d.2)]
theorem r_copyDisk (d : Dk) : Ret Tryz.prog 140 [dkA d.1 d.2] [] dkR (dkH d) := by
 refine ret_vc hT hM Tryz.func140 rfl rfl (m := 0) (nx := 0) rfl (Nat.le_of_ble_eq_true rfl) ?_
 (repeat' ((conv => whnf); first | (apply nx; intro s) | (apply rg; intro s k) | ((first | refine cas (fun h => ?_) (fun h => ?_) | refine may (fun h => ?_) ?_) <;> (try simp [-List.getD_eq_getElem?_getD] at h)) | (refine giv fun hg => ?_; (try simp only [byE] at hg)) | refine need (by first | kernel_rfl | omega | (simp; done) | (simp; omega)) ?_ | (refine call_n (r_cloneStr d.1) rfl ?_ ?_ ?_; iterate 2 (focus (repeat' first | exact trivial | refine ⟨?_, ?_⟩ | exact rfl | exact oR | exact orB rfl | exact oL); (first | done | fail))) | (refine call_n (r_cloneSu d.2) rfl ?_ ?_ ?_; iterate 2 (focus (repeat' first | exact trivial | refine ⟨?_, ?_⟩ | exact rfl | exact oR | exact orB rfl | exact oL); (first | done | fail))) | ((first | refine fin_au rfl ?_ | apply WkF.au); (conv => whnf); ((repeat' first | exact trivial | refine ⟨?_, ?_⟩ | exact rfl | exact oR | exact orB rfl | exact oL) <;> (try conv => whnf) <;> (try first | apply cgB | apply cgI | apply cgS | apply cgR | apply cgD | refine cgL ?_) <;> (try (rw [wrap_i64 (by omega) (by omega)]; first | rfl | omega)))) | apply altl))
theorem r_l6Copy (d : Dk) : Ret Tryz.prog 263 [dkA d.1 d.2] [] dkR (dkH d) := by
 refine ret_bnd 0 ⟨_, Tryz.func263, rfl, rfl⟩ rfl fun hb => ?_
 have e1 : d.1.length * 16 ≤ 140737488355328 := by cases hb.un.1 with | sl _ _ h _ => exact h
 have e2 : d.2.length * 16 ≤ 140737488355328 := by cases hb.un.2.un.1 with | sl _ _ h _ => exact h
 refine ret_vc hT hM Tryz.func263 rfl rfl (m := 0) (nx := 0) rfl (Nat.le_of_ble_eq_true rfl) ?_
 (repeat' ((conv => whnf); first | (apply nx; intro s) | (apply rg; intro s k) | ((first | refine cas (fun h => ?_) (fun h => ?_) | refine may (fun h => ?_) ?_) <;> (try simp [-List.getD_eq_getElem?_getD] at h)) | (refine giv fun hg => ?_; (try simp only [byE] at hg)) | refine need (by first | kernel_rfl | omega | (simp; done) | (simp; omega)) ?_ | (refine need (by simp [chunk]; omega) ?_) | ((first | refine fin_au rfl ?_ | apply WkF.au); (conv => whnf); ((repeat' first | exact trivial | refine ⟨?_, ?_⟩ | exact rfl | exact oR | exact orB rfl | exact oL) <;> (try conv => whnf) <;> (try first | apply cgB | apply cgI | apply cgS | apply cgR | apply cgD | refine cgL ?_) <;> (try (rw [wrap_i64 (by omega) (by omega)]; first | rfl | omega)))) | apply altl))
theorem toN {x : Int} {n : Nat} (h : 0 ≤ x ∧ x < n) : x.toNat < n := by omega
theorem r_write (w : Wr) (d : Dk) (hd : d.1.length ≤ 1099511627776) : Ret Tryz.prog 141 [.pt 0 0, agE .wr w] [(0, .box [.rw 1, .rw 2]), (1, .row .str d.1), (2, .row .su d.2)] (.tp []) [(0, .box [.rw 1, .rw 2]), (1, .row .str (wr1 w d).1), (2, .row .su (wr1 w d).2)] := by
 have hw : IntKind.i64.wrap ((d.1.length : Int) - 1) = (d.1.length : Int) - 1 := by rw [wrap_i64 (by omega) (by omega)]
 unfold wr1
 by_cases h1 : 0 ≤ w.at_ ∧ w.at_ < d.1.length
 · have hib : inB w.at_ 0 ((d.1.length : Int) - 1) = true := inB_iff.2 (by omega)
   rw [if_pos h1]
   refine ret_vc hT hM Tryz.func141 rfl rfl (m := 3) (nx := 3) rfl (Nat.le_of_ble_eq_true rfl) ?_
   (repeat' ((conv => whnf); first | (apply nx; intro s) | (apply rg; intro s k) | ((first | refine cas (fun h => ?_) (fun h => ?_) | refine may (fun h => ?_) ?_) <;> (try simp [-List.getD_eq_getElem?_getD, ↓hw, hib] at h)) | (refine giv fun hg => ?_; (try simp only [byE] at hg)) | refine need (by first | kernel_rfl | omega | (simp; done) | (simp; omega)) ?_ | (refine call_p (r_within w.at_ 0 _) rfl (by (repeat' first | exact trivial | refine ⟨?_, ?_⟩ | exact rfl | exact oR | exact orB rfl | exact oL); (first | done | fail)) ?_) | ((first | refine fin_au rfl ?_ | apply WkF.au); (conv => whnf); ((repeat' first | exact trivial | refine ⟨?_, ?_⟩ | exact rfl | exact oR | exact orB rfl | exact oL) <;> (try conv => whnf) <;> (try first | apply cgB | apply cgI | apply cgS | apply cgR | apply cgD | refine cgL ?_) <;> (try (rw [wrap_i64 (by omega) (by omega)]; first | rfl | omega)))) | apply altl))
 · have hib : inB w.at_ 0 ((d.1.length : Int) - 1) = false := inB_niff.2 (by omega)
   rw [if_neg h1]
   by_cases h2 : (w.at_ = -1 ∨ w.at_ = -2) ∧ -1 - w.at_ < d.2.length
   · rw [if_pos h2]
     have hw2 : IntKind.i64.wrap (-1 - w.at_) = -1 - w.at_ := by rw [wrap_i64 (by omega) (by omega)]
     refine ret_vc hT hM Tryz.func141 rfl rfl (m := 3) (nx := 3) rfl (Nat.le_of_ble_eq_true rfl) ?_
     (repeat' ((conv => whnf); first | (apply nx; intro s) | (apply rg; intro s k) | ((first | refine cas (fun h => ?_) (fun h => ?_) | refine may (fun h => ?_) ?_) <;> (try simp [-List.getD_eq_getElem?_getD, ↓hw, hib, ↓hw2] at h)) | (refine giv fun hg => ?_; (try simp only [byE] at hg)) | (refine need (by rw [hw2]; omega) ?_) | refine need (by first | kernel_rfl | omega | (simp; done) | (simp; omega)) ?_ | (exfalso; omega) | (refine call_p (r_within w.at_ 0 _) rfl (by (repeat' first | exact trivial | refine ⟨?_, ?_⟩ | exact rfl | exact oR | exact orB rfl | exact oL); (first | done | fail)) ?_) | ((first | refine fin_au rfl ?_ | apply WkF.au); (conv => whnf); ((repeat' first | exact trivial | refine ⟨?_, ?_⟩ | exact rfl | exact oR | exact orB rfl | exact oL) <;> (try conv => whnf) <;> (try first | apply cgB | apply cgI | apply cgS | apply cgR | apply cgD | refine cgL ?_) <;> (try (rw [wrap_i64 (by omega) (by omega)]; first | rfl | omega)))) | apply altl))
     all_goals (rw [hw2]; rfl)
   · rw [if_neg h2]
     have hw2 : w.at_ = -1 ∨ w.at_ = -2 → IntKind.i64.wrap (-1 - w.at_) = -1 - w.at_ := fun h => by rw [wrap_i64 (by omega) (by omega)]
     refine ret_vc hT hM Tryz.func141 rfl rfl (m := 3) (nx := 3) rfl (Nat.le_of_ble_eq_true rfl) ?_
     (repeat' ((conv => whnf); first | (apply nx; intro s) | (apply rg; intro s k) | ((first | refine cas (fun h => ?_) (fun h => ?_) | refine may (fun h => ?_) ?_) <;> (try simp [-List.getD_eq_getElem?_getD, ↓hw, hib] at h)) | (refine giv fun hg => ?_; (try simp only [byE] at hg)) | refine need (by first | kernel_rfl | omega | (simp; done) | (simp; omega)) ?_ | (exfalso; omega) | (refine call_p (r_within w.at_ 0 _) rfl (by (repeat' first | exact trivial | refine ⟨?_, ?_⟩ | exact rfl | exact oR | exact orB rfl | exact oL); (first | done | fail)) ?_) | ((exfalso; apply h2; rw [hw2 (by omega)] at *; omega)) | ((first | refine fin_au rfl ?_ | apply WkF.au); (conv => whnf); ((repeat' first | exact trivial | refine ⟨?_, ?_⟩ | exact rfl | exact oR | exact orB rfl | exact oL) <;> (try conv => whnf) <;> (try first | apply cgB | apply cgI | apply cgS | apply cgR | apply cgD | refine cgL ?_) <;> (try (rw [wrap_i64 (by omega) (by omega)]; first | rfl | omega)))) | apply altl))
theorem r_implDo (d : Dk) (l : List Wr) (hd : d.1.length ≤ 1099511627776) : Ret Tryz.prog 46 [dkA d.1 d.2, aL .wr l] [] dkR (dkH (dskF l d)) := by
 have hst := @dsk_step l d
 have hln := fun i => dsk_len (l.take i) d
 refine ret_vc hT hM Tryz.func46 rfl rfl (m := 0) (nx := 0) rfl (Nat.le_of_ble_eq_true rfl) ?_
 (repeat' ((conv => whnf); first | (apply nx; intro s) | (apply rg; intro s k) | ((first | refine cas (fun h => ?_) (fun h => ?_) | refine may (fun h => ?_) ?_) <;> (try simp [-List.getD_eq_getElem?_getD] at h)) | (refine giv fun hg => ?_; (try simp only [byE] at hg)) | refine need (by first | kernel_rfl | omega | (simp; done) | (simp; omega)) ?_ | (refine call_n (r_copyDisk d) rfl ?_ ?_ ?_; iterate 2 (focus (repeat' first | exact trivial | refine ⟨?_, ?_⟩ | exact rfl | exact oR | exact orB rfl | exact oL); (first | done | fail))) | ((first | refine fin_au rfl ?_ | apply WkF.au); (conv => whnf); ((repeat' first | exact trivial | refine ⟨?_, ?_⟩ | exact rfl | exact oR | exact orB rfl | exact oL) <;> (try conv => whnf) <;> (try first | apply cgB | apply cgI | apply cgS | apply cgR | apply cgD | refine cgL ?_) <;> (try (rw [wrap_i64 (by omega) (by omega)]; first | rfl | omega)))) | apply altl))
 (repeat ((conv => whnf); first | (apply nx; intro s) | (apply rg; intro s k))); (conv => whnf)
 refine Tri.loop (fun i : Nat => ⟨[(4, .pt 0 0), (5, .pt 1 0), (10, aL .wr l), (11, aI l.length), (12, aI i)], [(0, .box [.nl, .nl]), (1, .box [.rw 2, .rw 3]), (2, .row .str (dskF (l.take i) d).1), (3, .row .su (dskF (l.take i) d).2)], 4⟩) (fun i => i ≤ l.length) (fun i => l.length - i) 0 (Nat.zero_le _) ?_ ?_
 · (apply WkF.au; (conv => whnf); ((repeat' first | exact trivial | refine ⟨?_, ?_⟩ | exact rfl | exact oR | exact orB rfl | exact oL) <;> (try conv => whnf) <;> (try first | apply cgB | apply cgI | apply cgS | apply cgR | apply cgD | refine cgL ?_) <;> (try (rw [wrap_i64 (by omega) (by omega)]; first | rfl | omega))))
 · intro i h1
   refine vc_sound hT hM _ _ _ ?_
   by_cases hi : i < l.length
   · have hst' := hst hi
     have hc := r_write (l.getD i (dflt .wr)) (dskF (l.take i) d) (by rw [(hln i).1]; exact hd)
     rw [← hst'] at hc
     generalize dskF (l.take i) d = q at *
     obtain ⟨q1, q2⟩ := q
     (repeat' ((conv => whnf); first | (apply nx; intro s) | (apply rg; intro s k) | ((first | refine cas (fun h => ?_) (fun h => ?_) | refine may (fun h => ?_) ?_) <;> (try simp [-List.getD_eq_getElem?_getD] at h)) | (refine giv fun hg => ?_; (try simp only [byE] at hg)) | refine need (by first | kernel_rfl | omega | (simp; done) | (simp; omega)) ?_ | (exfalso; omega) | (refine call_g [1,2,3] (hc) rfl rfl rfl ?_ ?_ ?_ ?_ ?_; iterate 4 (focus (repeat' first | exact trivial | refine ⟨?_, ?_⟩ | exact rfl | exact oR | exact orB rfl | exact oL); (first | done | fail))) | (refine ⟨i + 1, by omega, by omega, ?_⟩) | ((first | refine fin_au rfl ?_ | apply WkF.au); (conv => whnf); ((repeat' first | exact trivial | refine ⟨?_, ?_⟩ | exact rfl | exact oR | exact orB rfl | exact oL) <;> (try conv => whnf) <;> (try first | apply cgB | apply cgI | apply cgS | apply cgR | apply cgD | refine cgL ?_) <;> (try (rw [wrap_i64 (by omega) (by omega)]; first | rfl | omega)))) | apply altl))
   · rw [List.take_of_length_le (by omega)]
     (repeat' ((conv => whnf); first | (apply nx; intro s) | (apply rg; intro s k) | ((first | refine cas (fun h => ?_) (fun h => ?_) | refine may (fun h => ?_) ?_) <;> (try simp [-List.getD_eq_getElem?_getD] at h)) | (refine giv fun hg => ?_; (try simp only [byE] at hg)) | refine need (by first | kernel_rfl | omega | (simp; done) | (simp; omega)) ?_ | (exfalso; omega) | ((first | refine fin_au rfl ?_ | apply WkF.au); (conv => whnf); ((repeat' first | exact trivial | refine ⟨?_, ?_⟩ | exact rfl | exact oR | exact orB rfl | exact oL) <;> (try conv => whnf) <;> (try first | apply cgB | apply cgI | apply cgS | apply cgR | apply cgD | refine cgL ?_) <;> (try (rw [wrap_i64 (by omega) (by omega)]; first | rfl | omega)))) | apply altl))
theorem r_specDo (d : Dk) (l : List Wr) (hd : d.1.length ≤ 1099511627776) : Ret Tryz.prog 238 [dkA d.1 d.2, aL .wr l] [] dkR (dkH (dskF l d)) := by
 have hst := @dsk_step l d
 have hln := fun i => dsk_len (l.take i) d
 refine ret_vc hT hM Tryz.func238 rfl rfl (m := 0) (nx := 0) rfl (Nat.le_of_ble_eq_true rfl) ?_
 (repeat' ((conv => whnf); first | (apply nx; intro s) | (apply rg; intro s k) | ((first | refine cas (fun h => ?_) (fun h => ?_) | refine may (fun h => ?_) ?_) <;> (try simp [-List.getD_eq_getElem?_getD] at h)) | (refine giv fun hg => ?_; (try simp only [byE] at hg)) | refine need (by first | kernel_rfl | omega | (simp; done) | (simp; omega)) ?_ | (refine call_n (r_l6Copy d) rfl ?_ ?_ ?_; iterate 2 (focus (repeat' first | exact trivial | refine ⟨?_, ?_⟩ | exact rfl | exact oR | exact orB rfl | exact oL); (first | done | fail))) | ((first | refine fin_au rfl ?_ | apply WkF.au); (conv => whnf); ((repeat' first | exact trivial | refine ⟨?_, ?_⟩ | exact rfl | exact oR | exact orB rfl | exact oL) <;> (try conv => whnf) <;> (try first | apply cgB | apply cgI | apply cgS | apply cgR | apply cgD | refine cgL ?_) <;> (try (rw [wrap_i64 (by omega) (by omega)]; first | rfl | omega)))) | apply altl))
 (repeat ((conv => whnf); first | (apply nx; intro s) | (apply rg; intro s k))); (conv => whnf)
 refine Tri.loop (fun i : Nat => ⟨[(1, aL .wr l), (4, .pt 0 0), (5, .pt 1 0), (6, aI i)], [(0, .box [.nl, .nl]), (1, .box [.rw 2, .rw 3]), (2, .row .str (dskF (l.take i) d).1), (3, .row .su (dskF (l.take i) d).2)], 4⟩) (fun i => i ≤ l.length) (fun i => l.length - i) 0 (Nat.zero_le _) ?_ ?_
 · (apply WkF.au; (conv => whnf); ((repeat' first | exact trivial | refine ⟨?_, ?_⟩ | exact rfl | exact oR | exact orB rfl | exact oL) <;> (try conv => whnf) <;> (try first | apply cgB | apply cgI | apply cgS | apply cgR | apply cgD | refine cgL ?_) <;> (try (rw [wrap_i64 (by omega) (by omega)]; first | rfl | omega))))
 · intro i h1
   refine vc_sound hT hM _ _ _ ?_
   by_cases hi : i < l.length
   · have hst' := hst hi
     have hd' : (dskF (l.take i) d).1.length ≤ 1099511627776 := by rw [(hln i).1]; exact hd
     generalize dskF (l.take i) d = q at *
     obtain ⟨q1, q2⟩ := q
     dsimp only at hd'
     have hw : IntKind.i64.wrap ((q1.length : Int) - 1) = (q1.length : Int) - 1 := by rw [wrap_i64 (by omega) (by omega)]
     unfold wr1 at hst'
     dsimp only at hst'
     by_cases h1 : 0 ≤ (l.getD i (dflt .wr)).at_ ∧ (l.getD i (dflt .wr)).at_ < q1.length
     · have hib : inB (l.getD i (dflt .wr)).at_ 0 ((q1.length : Int) - 1) = true := inB_iff.2 (by omega)
       rw [if_pos h1] at hst'
       (repeat' ((conv => whnf); first | (apply nx; intro s) | (apply rg; intro s k) | ((first | refine cas (fun h => ?_) (fun h => ?_) | refine may (fun h => ?_) ?_) <;> (try simp [-List.getD_eq_getElem?_getD, ↓hw, hib] at h)) | (refine giv fun hg => ?_; (try simp only [byE] at hg)) | refine need (by first | kernel_rfl | omega | (simp; done) | (simp; omega)) ?_ | (exfalso; omega) | (refine call_p (r_l1In (l.getD i (dflt .wr)).at_ 0 _) rfl (by (repeat' first | exact trivial | refine ⟨?_, ?_⟩ | exact rfl | exact oR | exact orB rfl | exact oL); (first | done | fail)) ?_) | (refine need h1 ?_) | (refine need (toN h1) ?_) | (refine ⟨i + 1, by omega, by omega, ?_⟩) | ((first | refine fin_au rfl ?_ | apply WkF.au); (conv => whnf); ((repeat' first | exact trivial | refine ⟨?_, ?_⟩ | exact rfl | exact oR | exact orB rfl | exact oL) <;> (try conv => whnf) <;> (try first | apply cgB | apply cgI | apply cgS | apply cgR | apply cgD | refine cgL ?_) <;> (try (rw [wrap_i64 (by omega) (by omega)]; first | rfl | omega)))) | apply altl))
       all_goals first | (rw [hst']; done) | (rw [hst']; rfl)
     · have hib : inB (l.getD i (dflt .wr)).at_ 0 ((q1.length : Int) - 1) = false := inB_niff.2 (by omega)
       rw [if_neg h1] at hst'
       by_cases h2 : ((l.getD i (dflt .wr)).at_ = -1 ∨ (l.getD i (dflt .wr)).at_ = -2) ∧ -1 - (l.getD i (dflt .wr)).at_ < q2.length
       · rw [if_pos h2] at hst'
         have hw2 : IntKind.i64.wrap (-1 - (l.getD i (dflt .wr)).at_) = -1 - (l.getD i (dflt .wr)).at_ := by rw [wrap_i64 (by omega) (by omega)]
         have h2w : 0 ≤ IntKind.i64.wrap (-1 - (l.getD i (dflt .wr)).at_) ∧ IntKind.i64.wrap (-1 - (l.getD i (dflt .wr)).at_) < q2.length := by rw [hw2]; omega
         have hst2 := hst'
         rw [← hw2] at hst2
         (repeat' ((conv => whnf); first | (apply nx; intro s) | (apply rg; intro s k) | ((first | refine cas (fun h => ?_) (fun h => ?_) | refine may (fun h => ?_) ?_) <;> (try simp [-List.getD_eq_getElem?_getD, ↓hw, hib, ↓hw2] at h)) | (refine giv fun hg => ?_; (try simp only [byE] at hg)) | refine need (by first | kernel_rfl | omega | (simp; done) | (simp; omega)) ?_ | (exfalso; omega) | (refine call_p (r_l1In (l.getD i (dflt .wr)).at_ 0 _) rfl (by (repeat' first | exact trivial | refine ⟨?_, ?_⟩ | exact rfl | exact oR | exact orB rfl | exact oL); (first | done | fail)) ?_) | (refine need h2w ?_) | (refine need (toN h2w) ?_) | (refine ⟨i + 1, by omega, by omega, ?_⟩) | ((first | refine fin_au rfl ?_ | apply WkF.au); (conv => whnf); ((repeat' first | exact trivial | refine ⟨?_, ?_⟩ | exact rfl | exact oR | exact orB rfl | exact oL) <;> (try conv => whnf) <;> (try first | apply cgB | apply cgI | apply cgS | apply cgR | apply cgD | refine cgL ?_) <;> (try (rw [wrap_i64 (by omega) (by omega)]; first | rfl | omega)))) | apply altl))
         all_goals first | (rw [hst2]; done) | (rw [hst2]; rfl)
       · rw [if_neg h2] at hst'
         have hw2 : (l.getD i (dflt .wr)).at_ = -1 ∨ (l.getD i (dflt .wr)).at_ = -2 → IntKind.i64.wrap (-1 - (l.getD i (dflt .wr)).at_) = -1 - (l.getD i (dflt .wr)).at_ := fun h => by rw [wrap_i64 (by omega) (by omega)]
         have hw3 : (l.getD i (dflt .wr)).at_ = -1 → IntKind.i64.wrap (-1 - (l.getD i (dflt .wr)).at_) = -1 - (l.getD i (dflt .wr)).at_ := fun h => hw2 (.inl h)
         (repeat' ((conv => whnf); first | (apply nx; intro s) | (apply rg; intro s k) | ((first | refine cas (fun h => ?_) (fun h => ?_) | refine may (fun h => ?_) ?_) <;> (try simp [-List.getD_eq_getElem?_getD, ↓hw, hib] at h)) | (refine giv fun hg => ?_; (try simp only [byE] at hg)) | refine need (by first | kernel_rfl | omega | (simp; done) | (simp; omega)) ?_ | (exfalso; omega) | (refine call_p (r_l1In (l.getD i (dflt .wr)).at_ 0 _) rfl (by (repeat' first | exact trivial | refine ⟨?_, ?_⟩ | exact rfl | exact oR | exact orB rfl | exact oL); (first | done | fail)) ?_) | ((exfalso; apply h2; exact ⟨.inl (by assumption), by assumption⟩)) | ((exfalso; apply h2; exact ⟨.inr (by assumption), by assumption⟩)) | (refine ⟨i + 1, by omega, by omega, ?_⟩) | ((first | refine fin_au rfl ?_ | apply WkF.au); (conv => whnf); ((repeat' first | exact trivial | refine ⟨?_, ?_⟩ | exact rfl | exact oR | exact orB rfl | exact oL) <;> (try conv => whnf) <;> (try first | apply cgB | apply cgI | apply cgS | apply cgR | apply cgD | refine cgL ?_) <;> (try (rw [wrap_i64 (by omega) (by omega)]; first | rfl | omega)))) | apply altl))
         all_goals (rw [hst'])
   · rw [List.take_of_length_le (by omega)]
     (repeat' ((conv => whnf); first | (apply nx; intro s) | (apply rg; intro s k) | ((first | refine cas (fun h => ?_) (fun h => ?_) | refine may (fun h => ?_) ?_) <;> (try simp [-List.getD_eq_getElem?_getD] at h)) | (refine giv fun hg => ?_; (try simp only [byE] at hg)) | refine need (by first | kernel_rfl | omega | (simp; done) | (simp; omega)) ?_ | (exfalso; omega) | ((first | refine fin_au rfl ?_ | apply WkF.au); (conv => whnf); ((repeat' first | exact trivial | refine ⟨?_, ?_⟩ | exact rfl | exact oR | exact orB rfl | exact oL) <;> (try conv => whnf) <;> (try first | apply cgB | apply cgI | apply cgS | apply cgR | apply cgD | refine cgL ?_) <;> (try (rw [wrap_i64 (by omega) (by omega)]; first | rfl | omega)))) | apply altl))
end Go.Proofs.YthbpdhppelaihaaGreat