/- Shrink, on either side. Conditions: none. -/
import Derived.Test.YthbpdhppelaihaaGreatIB
import Derived.Test.YthbpdhppelaihaaGreatZQ
set_option linter.unusedVariables false
set_option linter.unusedSimpArgs false
namespace Go.Proofs.YthbpdhppelaihaaGreat
open Go.RowKit
attribute [local irreducible] Tri Weak
set_option maxRecDepth 4000
set_option maxHeartbeats 4000000
theorem r_shr1 (x : Ms) : Ret Tryz.prog 220 [agE .ms x] [] (.c (.bool (!okM x))) [] := by
 refine ret_vc hT hM Tryz.func220 rfl rfl (m := 0) (nx := 0) rfl (Nat.le_of_ble_eq_true rfl) ?_
 (repeat' ((conv => whnf); first | (apply nx; intro s) | (apply rg; intro s k) | ((first | refine cas (fun h => ?_) (fun h => ?_) | refine may (fun h => ?_) ?_) <;> (try simp [-List.getD_eq_getElem?_getD] at h)) | (refine giv fun hg => ?_; (try simp only [byE] at hg)) | refine need (by first | kernel_rfl | omega | (simp; done) | (simp; omega)) ?_ | (refine call_p (r_implMsgOk x) rfl (by (repeat' first | exact trivial | refine ⟨?_, ?_⟩ | exact rfl | exact oR | exact orB rfl | exact oL); (first | done | fail)) ?_) | ((first | refine fin_au rfl ?_ | apply WkF.au); (conv => whnf); ((repeat' first | exact trivial | refine ⟨?_, ?_⟩ | exact rfl | exact oR | exact orB rfl | exact oL) <;> (try conv => whnf) <;> (try first | apply cgB | apply cgI | apply cgS | apply cgR | apply cgD | refine cgL ?_) <;> (try (rw [wrap_i64 (by omega) (by omega)]; first | rfl | omega)))) | apply altl))
 all_goals simp_all [okM]
theorem r_shr2 (m : Ms) (x : Ms) : Ret Tryz.prog 222 [agE .ms x, .pt 0 0] [(0, .box ((cells .ms m).map .c))] (.c (.bool (sameK m x && setsB x))) [(0, .box ((cells .ms m).map .c))] := by
 refine ret_vc hT hM Tryz.func222 rfl rfl (m := 1) (nx := 1) rfl (Nat.le_of_ble_eq_true rfl) ?_
 (repeat' ((conv => whnf); first | (apply nx; intro s) | (apply rg; intro s k) | ((first | refine cas (fun h => ?_) (fun h => ?_) | refine may (fun h => ?_) ?_) <;> (try simp [-List.getD_eq_getElem?_getD] at h)) | (refine giv fun hg => ?_; (try simp only [byE] at hg)) | refine need (by first | kernel_rfl | omega | (simp; done) | (simp; omega)) ?_ | (refine call_p (r_sets x) rfl (by (repeat' first | exact trivial | refine ⟨?_, ?_⟩ | exact rfl | exact oR | exact orB rfl | exact oL); (first | done | fail)) ?_) | ((first | refine fin_au rfl ?_ | apply WkF.au); (conv => whnf); ((repeat' first | exact trivial | refine ⟨?_, ?_⟩ | exact rfl | exact oR | exact orB rfl | exact oL) <;> (try conv => whnf) <;> (try first | apply cgB | apply cgI | apply cgS | apply cgR | apply cgD | refine cgL ?_) <;> (try (rw [wrap_i64 (by omega) (by omega)]; first | rfl | omega)))) | apply altl))
 all_goals simp_all [sameK, setsB]
theorem r_shr3 (m : Ms) (x : Ms) : Ret Tryz.prog 225 [agE .ms x, .pt 0 0] [(0, .box ((cells .ms m).map .c))] (.c (.bool (sameK m x))) [(0, .box ((cells .ms m).map .c))] := by
 refine ret_vc hT hM Tryz.func225 rfl rfl (m := 1) (nx := 1) rfl (Nat.le_of_ble_eq_true rfl) ?_
 (repeat' ((conv => whnf); first | (apply nx; intro s) | (apply rg; intro s k) | ((first | refine cas (fun h => ?_) (fun h => ?_) | refine may (fun h => ?_) ?_) <;> (try simp [-List.getD_eq_getElem?_getD] at h)) | (refine giv fun hg => ?_; (try simp only [byE] at hg)) | refine need (by first | kernel_rfl | omega | (simp; done) | (simp; omega)) ?_ | ((first | refine fin_au rfl ?_ | apply WkF.au); (conv => whnf); ((repeat' first | exact trivial | refine ⟨?_, ?_⟩ | exact rfl | exact oR | exact orB rfl | exact oL) <;> (try conv => whnf) <;> (try first | apply cgB | apply cgI | apply cgS | apply cgR | apply cgD | refine cgL ?_) <;> (try (rw [wrap_i64 (by omega) (by omega)]; first | rfl | omega)))) | apply altl))
 all_goals simp_all [sameK]
-- closures, by program (gen9.py)
theorem ix_shr2 (p : El .ms → Bool) (m : Ms) (hc : ∀ x : El .ms, Ret Tryz.prog 222 [agE .ms x, .pt 0 0] [(0, .box ((cells .ms m).map .c))] (.c (.bool (p x))) [(0, .box ((cells .ms m).map .c))]) (xs : List (El .ms)) : Ret Tryz.prog 224 [aL .ms xs, .fn 222 [.pt 0 0]] [(0, .box ((cells .ms m).map .c))] (aI (ixF p xs)) [(0, .box ((cells .ms m).map .c))] := by
 refine ret_vc hT hM Tryz.func224 rfl rfl (m := 1) (nx := 1) rfl (Nat.le_of_ble_eq_true rfl) ?_
 (repeat' ((conv => whnf); first | (apply nx; intro s) | (apply rg; intro s k) | ((first | refine cas (fun h => ?_) (fun h => ?_) | refine may (fun h => ?_) ?_) <;> (try simp [-List.getD_eq_getElem?_getD] at h)) | (refine giv fun hg => ?_; (try simp only [byE] at hg)) | refine need (by first | kernel_rfl | omega | (simp; done) | (simp; omega)) ?_ | ((first | refine fin_au rfl ?_ | apply WkF.au); (conv => whnf); ((repeat' first | exact trivial | refine ⟨?_, ?_⟩ | exact rfl | exact oR | exact orB rfl | exact oL) <;> (try conv => whnf) <;> (try first | apply cgB | apply cgI | apply cgS | apply cgR | apply cgD | refine cgL ?_) <;> (try (rw [wrap_i64 (by omega) (by omega)]; first | rfl | omega)))) | apply altl))
 (repeat ((conv => whnf); first | (apply nx; intro s) | (apply rg; intro s k))); (conv => whnf)
 refine Tri.loop (fun i : Nat => ⟨[(0, aL .ms xs), (1, .fn 222 [.pt 0 0]), (7, aI xs.length), (8, aI i)], [(0, .box ((cells .ms m).map .c))], 1⟩) (fun i => i ≤ xs.length ∧ ∀ j, j < i → p (xs.getD j (dflt .ms)) = false) (fun i => xs.length - i) 0 ⟨by omega, fun j hj => by omega⟩ ?_ ?_
 · (apply WkF.au; (conv => whnf); ((repeat' first | exact trivial | refine ⟨?_, ?_⟩ | exact rfl | exact oR | exact orB rfl | exact oL) <;> (try conv => whnf) <;> (try first | apply cgB | apply cgI | apply cgS | apply cgR | apply cgD | refine cgL ?_) <;> (try (rw [wrap_i64 (by omega) (by omega)]; first | rfl | omega))))
 · intro i ⟨hi, hpre⟩
   refine vc_sound hT hM _ _ _ ?_
   (repeat' ((conv => whnf); first | (apply nx; intro s) | (apply rg; intro s k) | ((first | refine cas (fun h => ?_) (fun h => ?_) | refine may (fun h => ?_) ?_) <;> (try simp [-List.getD_eq_getElem?_getD] at h)) | (refine giv fun hg => ?_; (try simp only [byE] at hg)) | refine need (by first | kernel_rfl | omega | (simp; done) | (simp; omega)) ?_ | (refine call_g [0] (hc (xs.getD i (dflt .ms))) rfl rfl rfl ?_ ?_ ?_ ?_ ?_; iterate 4 (focus (repeat' first | exact trivial | refine ⟨?_, ?_⟩ | exact rfl | exact oR | exact orB rfl | exact oL); (first | done | fail))) | (refine ⟨i + 1, ?_, by omega, ?_⟩) | ((first | refine fin_au rfl ?_ | apply WkF.au); (conv => whnf); ((repeat' first | exact trivial | refine ⟨?_, ?_⟩ | exact rfl | exact oR | exact orB rfl | exact oL) <;> (try conv => whnf) <;> (try first | apply cgB | apply cgI | apply cgS | apply cgR | apply cgD | refine cgL ?_) <;> (try (rw [wrap_i64 (by omega) (by omega)]; first | rfl | omega)))) | apply altl))
   all_goals first
    | exact (ixF_some (by omega) (by simpa using h) hpre).symm
    | exact (ixF_none fun j hj => hpre j (by omega)).symm
    | exact ⟨by omega, fun j hj => (Nat.lt_succ_iff_lt_or_eq.1 hj).elim (hpre j) fun e => by subst e; simpa using h⟩
theorem cf_shr2 (p : El .ms → Bool) (m : Ms) (hc : ∀ x : El .ms, Ret Tryz.prog 222 [agE .ms x, .pt 0 0] [(0, .box ((cells .ms m).map .c))] (.c (.bool (p x))) [(0, .box ((cells .ms m).map .c))]) (xs : List (El .ms)) : Ret Tryz.prog 221 [aL .ms xs, .fn 222 [.pt 0 0]] [(0, .box ((cells .ms m).map .c))] (.c (.bool (xs.any p))) [(0, .box ((cells .ms m).map .c))] := by
 refine ret_vc hT hM Tryz.func221 rfl rfl (m := 1) (nx := 1) rfl (Nat.le_of_ble_eq_true rfl) ?_
 (repeat' ((conv => whnf); first | (apply nx; intro s) | (apply rg; intro s k) | ((first | refine cas (fun h => ?_) (fun h => ?_) | refine may (fun h => ?_) ?_) <;> (try simp [-List.getD_eq_getElem?_getD] at h)) | (refine giv fun hg => ?_; (try simp only [byE] at hg)) | refine need (by first | kernel_rfl | omega | (simp; done) | (simp; omega)) ?_ | (refine call_g [0] (ix_shr2 p m hc xs) rfl rfl rfl ?_ ?_ ?_ ?_ ?_; iterate 4 (focus (repeat' first | exact trivial | refine ⟨?_, ?_⟩ | exact rfl | exact oR | exact orB rfl | exact oL); (first | done | fail))) | ((first | refine fin_au rfl ?_ | apply WkF.au); (conv => whnf); ((repeat' first | exact trivial | refine ⟨?_, ?_⟩ | exact rfl | exact oR | exact orB rfl | exact oL) <;> (try conv => whnf) <;> (try first | apply cgB | apply cgI | apply cgS | apply cgR | apply cgD | refine cgL ?_) <;> (try (rw [wrap_i64 (by omega) (by omega)]; first | rfl | omega)))) | apply altl))
 all_goals exact ixF_any p xs
theorem ix_shr3 (p : El .ms → Bool) (m : Ms) (hc : ∀ x : El .ms, Ret Tryz.prog 225 [agE .ms x, .pt 0 0] [(0, .box ((cells .ms m).map .c))] (.c (.bool (p x))) [(0, .box ((cells .ms m).map .c))]) (xs : List (El .ms)) : Ret Tryz.prog 224 [.rw 1, .fn 225 [.pt 0 0]] [(0, .box ((cells .ms m).map .c)), (1, .row .ms xs)] (aI (ixF p xs)) [(0, .box ((cells .ms m).map .c)), (1, .row .ms xs)] := by
 refine ret_vc hT hM Tryz.func224 rfl rfl (m := 2) (nx := 2) rfl (Nat.le_of_ble_eq_true rfl) ?_
 (repeat' ((conv => whnf); first | (apply nx; intro s) | (apply rg; intro s k) | ((first | refine cas (fun h => ?_) (fun h => ?_) | refine may (fun h => ?_) ?_) <;> (try simp [-List.getD_eq_getElem?_getD] at h)) | (refine giv fun hg => ?_; (try simp only [byE] at hg)) | refine need (by first | kernel_rfl | omega | (simp; done) | (simp; omega)) ?_ | ((first | refine fin_au rfl ?_ | apply WkF.au); (conv => whnf); ((repeat' first | exact trivial | refine ⟨?_, ?_⟩ | exact rfl | exact oR | exact orB rfl | exact oL) <;> (try conv => whnf) <;> (try first | apply cgB | apply cgI | apply cgS | apply cgR | apply cgD | refine cgL ?_) <;> (try (rw [wrap_i64 (by omega) (by omega)]; first | rfl | omega)))) | apply altl))
 (repeat ((conv => whnf); first | (apply nx; intro s) | (apply rg; intro s k))); (conv => whnf)
 refine Tri.loop (fun i : Nat => ⟨[(0, .rw 1), (1, .fn 225 [.pt 0 0]), (7, aI xs.length), (8, aI i)], [(0, .box ((cells .ms m).map .c)), (1, .row .ms xs)], 2⟩) (fun i => i ≤ xs.length ∧ ∀ j, j < i → p (xs.getD j (dflt .ms)) = false) (fun i => xs.length - i) 0 ⟨by omega, fun j hj => by omega⟩ ?_ ?_
 · (apply WkF.au; (conv => whnf); ((repeat' first | exact trivial | refine ⟨?_, ?_⟩ | exact rfl | exact oR | exact orB rfl | exact oL) <;> (try conv => whnf) <;> (try first | apply cgB | apply cgI | apply cgS | apply cgR | apply cgD | refine cgL ?_) <;> (try (rw [wrap_i64 (by omega) (by omega)]; first | rfl | omega))))
 · intro i ⟨hi, hpre⟩
   refine vc_sound hT hM _ _ _ ?_
   (repeat' ((conv => whnf); first | (apply nx; intro s) | (apply rg; intro s k) | ((first | refine cas (fun h => ?_) (fun h => ?_) | refine may (fun h => ?_) ?_) <;> (try simp [-List.getD_eq_getElem?_getD] at h)) | (refine giv fun hg => ?_; (try simp only [byE] at hg)) | refine need (by first | kernel_rfl | omega | (simp; done) | (simp; omega)) ?_ | (refine call_g [0] (hc (xs.getD i (dflt .ms))) rfl rfl rfl ?_ ?_ ?_ ?_ ?_; iterate 4 (focus (repeat' first | exact trivial | refine ⟨?_, ?_⟩ | exact rfl | exact oR | exact orB rfl | exact oL); (first | done | fail))) | (refine ⟨i + 1, ?_, by omega, ?_⟩) | ((first | refine fin_au rfl ?_ | apply WkF.au); (conv => whnf); ((repeat' first | exact trivial | refine ⟨?_, ?_⟩ | exact rfl | exact oR | exact orB rfl | exact oL) <;> (try conv => whnf) <;> (try first | apply cgB | apply cgI | apply cgS | apply cgR | apply cgD | refine cgL ?_) <;> (try (rw [wrap_i64 (by omega) (by omega)]; first | rfl | omega)))) | apply altl))
   all_goals first
    | exact (ixF_some (by omega) (by simpa using h) hpre).symm
    | exact (ixF_none fun j hj => hpre j (by omega)).symm
    | exact ⟨by omega, fun j hj => (Nat.lt_succ_iff_lt_or_eq.1 hj).elim (hpre j) fun e => by subst e; simpa using h⟩
-- end of what is by program
theorem shr_next {ms out : List Ms} {i : Nat} (h : i < ms.length) : shrG (ms.drop i) out = shrG (ms.drop (i + 1)) (if overF (ms.drop (i + 1)) (ms.getD i (dflt .ms)) then out else shrStep out (ms.getD i (dflt .ms))) := by
 rw [drop_getD h (dflt .ms)]; rfl
theorem shr_case (out : List Ms) (m : Ms) : (joins out m = true → shrStep out m = out.set (ixF (sameK m) out).toNat (addTo m (out.getD (ixF (sameK m) out).toNat (dflt .ms)))) ∧ (joins out m = false → shrStep out m = out ++ [m]) :=
 ⟨fun h => by unfold shrStep; rw [if_pos h], fun h => by unfold shrStep; rw [if_neg (by simp [h])]⟩
theorem neg_of {b : Bool} (h : b = false) : ¬ b = true := by rw [h]; decide
theorem okM_P {m : Ms} (h : okM m = true) : MsP 0 1000 m := by have := okM_rng h; exact ⟨h, by omega, by omega⟩
theorem joins_yes {out : List Ms} {m : Ms} (h : m.op = 3 ∧ 0 ≤ ixF (sameK m) out ∧ (out.getD (ixF (sameK m) out).toNat (dflt .ms)).op = 1) : joins out m = true := by
 simp only [joins, Bool.and_eq_true, decide_eq_true_eq]; exact h
theorem joins_no {out : List Ms} {m : Ms} (h : ¬ (m.op = 3 ∧ 0 ≤ ixF (sameK m) out ∧ (out.getD (ixF (sameK m) out).toNat (dflt .ms)).op = 1)) : joins out m = false := by
 cases hj : joins out m with
 | false => rfl
 | true => simp only [joins, Bool.and_eq_true, decide_eq_true_eq] at hj; exact (h hj).elim
theorem r_implShrink (ms : List Ms) (hb : ms.length ≤ 1099511627776) : Ret Tryz.prog 168 [aL .ms ms] [] (.rw 0) [(0, .row .ms (shrinkF ms))] := by
 have hfl := List.length_filter_le okM ms
 have hfe : (ms.filter fun x => !!okM x) = ms.filter okM := by congr 1; funext x; simp
 have hdel := del_shrink1 (fun x => !okM x) r_shr1 ms
 rw [hfe] at hdel
 generalize hL : ms.filter okM = L at *
 have hsh : shrinkF ms = shrG L [] := by rw [← hL]; rfl
 rw [hsh]
 have hok : ∀ x ∈ L, okM x = true := fun x hx => by rw [← hL] at hx; exact (List.mem_filter.1 hx).2
 clear hL hfe
 refine ret_vc hT hM Tryz.func168 rfl rfl (m := 0) (nx := 0) rfl (Nat.le_of_ble_eq_true rfl) ?_
 (repeat' ((conv => whnf); first | (apply nx; intro s) | (apply rg; intro s k) | ((first | refine cas (fun h => ?_) (fun h => ?_) | refine may (fun h => ?_) ?_) <;> (try simp [-List.getD_eq_getElem?_getD] at h)) | (refine giv fun hg => ?_; (try simp only [byE] at hg)) | refine need (by first | kernel_rfl | omega | (simp; done) | (simp; omega)) ?_ | (refine call_n (r_cloneMs ms) rfl ?_ ?_ ?_; iterate 2 (focus (repeat' first | exact trivial | refine ⟨?_, ?_⟩ | exact rfl | exact oR | exact orB rfl | exact oL); (first | done | fail))) | (refine call_g [0] (hdel) rfl rfl rfl ?_ ?_ ?_ ?_ ?_; iterate 4 (focus (repeat' first | exact trivial | refine ⟨?_, ?_⟩ | exact rfl | exact oR | exact orB rfl | exact oL); (first | done | fail))) | ((first | refine fin_au rfl ?_ | apply WkF.au); (conv => whnf); ((repeat' first | exact trivial | refine ⟨?_, ?_⟩ | exact rfl | exact oR | exact orB rfl | exact oL) <;> (try conv => whnf) <;> (try first | apply cgB | apply cgI | apply cgS | apply cgR | apply cgD | refine cgL ?_) <;> (try (rw [wrap_i64 (by omega) (by omega)]; first | rfl | omega)))) | apply altl))
 (repeat ((conv => whnf); first | (apply nx; intro s) | (apply rg; intro s k))); (conv => whnf)
 refine Tri.loop (fun q : Nat × List Ms => ⟨[(3, aL .ms L), (4, .rw 0), (13, aL .ms L), (14, aI L.length), (15, aI q.1)], [(0, .row .ms q.2)], 1⟩) (fun q => q.1 ≤ L.length ∧ q.2.length ≤ q.1 ∧ (∀ x ∈ q.2, okM x = true) ∧ shrG (L.drop q.1) q.2 = shrG L []) (fun q => L.length - q.1) (0, []) ⟨Nat.zero_le _, Nat.le_refl _, fun x hx => by simp at hx, rfl⟩ ?_ ?_
 · (apply WkF.au; (conv => whnf); ((repeat' first | exact trivial | refine ⟨?_, ?_⟩ | exact rfl | exact oR | exact orB rfl | exact oL) <;> (try conv => whnf) <;> (try first | apply cgB | apply cgI | apply cgS | apply cgR | apply cgD | refine cgL ?_) <;> (try (rw [wrap_i64 (by omega) (by omega)]; first | rfl | omega))))
 · intro ⟨i, out⟩ ⟨h1, h2, h3, h4⟩
   dsimp only at h1 h2 h3 h4
   have hw : i < L.length → IntKind.i64.wrap ((i : Int) + 1) = ((i + 1 : Nat) : Int) := fun h => by rw [wrap_i64 (by omega) (by omega)]; omega
   have hnx := shr_next (ms := L) (out := out) (i := i)
   have hcs := shr_case out (L.getD i (dflt .ms))
   have hov : i < L.length → (List.drop (IntKind.i64.wrap ((i : Int) + 1)).toNat (List.take (L.length : Int).toNat L)).any (fun x => sameK (L.getD i (dflt .ms)) x && setsB x) = overF (L.drop (i + 1)) (L.getD i (dflt .ms)) := fun h => by
    rw [hw h]; simp only [Int.toNat_natCast, List.take_length]; rfl
   have hcf : i < L.length → Ret Tryz.prog 221 [aL .ms (List.drop (IntKind.i64.wrap ((i : Int) + 1)).toNat (List.take (L.length : Int).toNat L)), .fn 222 [.pt 0 0]] [(0, .box ((cells .ms (L.getD i (dflt .ms))).map .c))] (.c (.bool (overF (L.drop (i + 1)) (L.getD i (dflt .ms))))) [(0, .box ((cells .ms (L.getD i (dflt .ms))).map .c))] := fun h => by
    rw [← hov h]; exact cf_shr2 (fun x => sameK (L.getD i (dflt .ms)) x && setsB x) (L.getD i (dflt .ms)) (r_shr2 _) _
   have hlen : (if overF (L.drop (i + 1)) (L.getD i (dflt .ms)) then out else shrStep out (L.getD i (dflt .ms))).length ≤ i + 1 := by
    split
    · omega
    · exact Nat.le_trans (shs_len _ _) (by omega)
   have hokn : i < L.length → ∀ x ∈ (if overF (L.drop (i + 1)) (L.getD i (dflt .ms)) then out else shrStep out (L.getD i (dflt .ms))), okM x = true := fun h x hx => by
    split at hx
    · exact h3 x hx
    · exact (step_ok (lo := 0) (hi := 1000) (fun y hy => okM_P (h3 y hy)) (okM_P (hok _ (getD_mem (dflt .ms) h))) x hx).1
   have hlt : 0 ≤ ixF (sameK (L.getD i (dflt .ms))) out → ixF (sameK (L.getD i (dflt .ms))) out < out.length := fun h => by have := ixF_lt h; omega
   refine vc_sound hT hM _ _ _ ?_
   (repeat' ((conv => whnf); first | (apply nx; intro s) | (apply rg; intro s k) | ((first | refine cas (fun h => ?_) (fun h => ?_) | refine may (fun h => ?_) ?_) <;> (try simp [-List.getD_eq_getElem?_getD] at h)) | (refine giv fun hg => ?_; (try simp only [byE] at hg)) | (refine need (by rw [hw (by omega)]; omega) ?_) | refine need (by first | kernel_rfl | omega | (simp; done) | (simp; omega)) ?_ | (refine call_g [1] (hcf (by omega)) rfl rfl rfl ?_ ?_ ?_ ?_ ?_; iterate 4 (focus (repeat' first | exact trivial | refine ⟨?_, ?_⟩ | exact rfl | exact oR | exact orB rfl | exact oL); (first | done | fail))) | (refine call_g [1,0] (ix_shr3 (sameK (L.getD i (dflt .ms))) (L.getD i (dflt .ms)) (r_shr3 _) out) rfl rfl rfl ?_ ?_ ?_ ?_ ?_; iterate 4 (focus (repeat' first | exact trivial | refine ⟨?_, ?_⟩ | exact rfl | exact oR | exact orB rfl | exact oL); (first | done | fail))) | (refine call_p (r_limited _) rfl (by (repeat' first | exact trivial | refine ⟨?_, ?_⟩ | exact rfl | exact oR | exact orB rfl | exact oL); (first | done | fail)) ?_) | (refine need (by simp [byE, chunk]; omega) ?_) | (refine ⟨(i + 1, if overF (L.drop (i + 1)) (L.getD i (dflt .ms)) then out else shrStep out (L.getD i (dflt .ms))), ?_, ?_, ?_⟩) | ((first | refine fin_au rfl ?_ | apply WkF.au); (conv => whnf); ((repeat' first | exact trivial | refine ⟨?_, ?_⟩ | exact rfl | exact oR | exact orB rfl | exact oL) <;> (try conv => whnf) <;> (try first | apply cgB | apply cgI | apply cgS | apply cgR | apply cgD | refine cgL ?_) <;> (try (rw [wrap_i64 (by omega) (by omega)]; first | rfl | omega)))) | apply altl))
   clear hov hcf hdel
   all_goals (try dsimp only)
   all_goals first
    | omega
    | exact ⟨by omega, hlen, hokn (by omega), by rw [← h4, hnx (by omega)]⟩
    | (rw [if_pos (by assumption)]; done)
    | (rw [if_neg (neg_of (by assumption)), hcs.2 (joins_no (by omega))]; exact snoc_c .ms out _ rfl)
    | (have hr1 := okM_rng (h3 _ (getD_mem (dflt .ms) (ixF_lt (by assumption))))
       have hr2 := okM_rng (hok _ (getD_mem (dflt .ms) (i := i) (by omega)))
       rw [if_neg (neg_of (by assumption)), hcs.1 (joins_yes (by omega))]
       refine congrArg (out.set _) ?_
       show Ms.mk _ _ _ = Ms.mk _ _ _
       refine congrArg (Ms.mk _ _) ?_
       refine congrArg lim (wrap_i64 ?_ ?_) <;> omega)
    | (rw [List.drop_eq_nil_of_le (by omega)] at h4; exact h4)
theorem ovh_yes {m y : Ms} (h1 : msgOk y = true) (h2 : y.k = m.k) (h3 : y.op = 1 ∨ y.op = 2) : (okM y && (sameK m y && setsB y)) = true := by
 simp only [okM, sameK, setsB, Bool.and_eq_true, Bool.or_eq_true, decide_eq_true_eq]
 exact ⟨⟨h1, by omega⟩, h2, h3⟩
theorem ovh_no {m y : Ms} (h : ¬ (msgOk y = true ∧ y.k = m.k ∧ (y.op = 1 ∨ y.op = 2))) : (okM y && (sameK m y && setsB y)) = false := by
 cases hb : (okM y && (sameK m y && setsB y)) with
 | false => rfl
 | true =>
   simp only [okM, sameK, setsB, Bool.and_eq_true, Bool.or_eq_true, decide_eq_true_eq] at hb
   exact (h ⟨hb.1.1, hb.2.1, hb.2.2⟩).elim
theorem r_l1Over (ms : List Ms) (i : Nat) (hi : i < ms.length) (hb : ms.length ≤ 1099511627776) : Ret Tryz.prog 213 [aL .ms ms, aI i] [] (.c (.bool (overF ((ms.drop (i + 1)).filter okM) (ms.getD i (dflt .ms))))) [] := by
 refine ret_vc hT hM Tryz.func213 rfl rfl (m := 0) (nx := 0) rfl (Nat.le_of_ble_eq_true rfl) ?_
 (repeat' ((conv => whnf); first | (apply nx; intro s) | (apply rg; intro s k) | ((first | refine cas (fun h => ?_) (fun h => ?_) | refine may (fun h => ?_) ?_) <;> (try simp [-List.getD_eq_getElem?_getD] at h)) | (refine giv fun hg => ?_; (try simp only [byE] at hg)) | refine need (by first | kernel_rfl | omega | (simp; done) | (simp; omega)) ?_ | ((first | refine fin_au rfl ?_ | apply WkF.au); (conv => whnf); ((repeat' first | exact trivial | refine ⟨?_, ?_⟩ | exact rfl | exact oR | exact orB rfl | exact oL) <;> (try conv => whnf) <;> (try first | apply cgB | apply cgI | apply cgS | apply cgR | apply cgD | refine cgL ?_) <;> (try (rw [wrap_i64 (by omega) (by omega)]; first | rfl | omega)))) | apply altl))
 (repeat ((conv => whnf); first | (apply nx; intro s) | (apply rg; intro s k))); (conv => whnf)
 refine Tri.loop (fun j : Nat => ⟨[(0, aL .ms ms), (1, aI i), (5, aI j)], [], 0⟩) (fun j => i + 1 ≤ j ∧ j ≤ ms.length ∧ overF ((ms.drop j).filter okM) (ms.getD i (dflt .ms)) = overF ((ms.drop (i + 1)).filter okM) (ms.getD i (dflt .ms))) (fun j => ms.length - j) (i + 1) ⟨Nat.le_refl _, hi, rfl⟩ ?_ ?_
 · (apply WkF.au; (conv => whnf); ((repeat' first | exact trivial | refine ⟨?_, ?_⟩ | exact rfl | exact oR | exact orB rfl | exact oL) <;> (try conv => whnf) <;> (try first | apply cgB | apply cgI | apply cgS | apply cgR | apply cgD | refine cgL ?_) <;> (try (rw [wrap_i64 (by omega) (by omega)]; first | rfl | omega))))
   all_goals (rw [wrap_i64 (by omega) (by omega)]; omega)
 · intro j ⟨h0, h1, h2⟩
   have hst : j < ms.length → overF ((ms.drop j).filter okM) (ms.getD i (dflt .ms)) = ((okM (ms.getD j (dflt .ms)) && (sameK (ms.getD i (dflt .ms)) (ms.getD j (dflt .ms)) && setsB (ms.getD j (dflt .ms)))) || overF ((ms.drop (j + 1)).filter okM) (ms.getD i (dflt .ms))) := fun h => by
    rw [drop_getD h (dflt .ms), List.filter_cons]
    cases okM (ms.getD j (dflt .ms)) <;> simp [-List.getD_eq_getElem?_getD, overF]
   refine vc_sound hT hM _ _ _ ?_
   (repeat' ((conv => whnf); first | (apply nx; intro s) | (apply rg; intro s k) | ((first | refine cas (fun h => ?_) (fun h => ?_) | refine may (fun h => ?_) ?_) <;> (try simp [-List.getD_eq_getElem?_getD] at h)) | (refine giv fun hg => ?_; (try simp only [byE] at hg)) | refine need (by first | kernel_rfl | omega | (simp; done) | (simp; omega)) ?_ | (refine call_p (r_specMsgOk (ms.getD j (dflt .ms))) rfl (by (repeat' first | exact trivial | refine ⟨?_, ?_⟩ | exact rfl | exact oR | exact orB rfl | exact oL); (first | done | fail)) ?_) | (refine ⟨(j + 1 : Nat), ?_, ?_, ?_⟩) | (exfalso; omega) | ((first | refine fin_au rfl ?_ | apply WkF.au); (conv => whnf); ((repeat' first | exact trivial | refine ⟨?_, ?_⟩ | exact rfl | exact oR | exact orB rfl | exact oL) <;> (try conv => whnf) <;> (try first | apply cgB | apply cgI | apply cgS | apply cgR | apply cgD | refine cgL ?_) <;> (try (rw [wrap_i64 (by omega) (by omega)]; first | rfl | omega)))) | apply altl))
   all_goals (try dsimp only)
   all_goals first
    | omega
    | (rw [← h2, hst (by omega), ovh_yes (by assumption) (by assumption) (by omega)]; rfl)
    | exact ⟨by omega, by omega, by rw [← h2, hst (by omega), ovh_no (fun ⟨h5, h6, h7⟩ => by first | omega | (rw [h5] at h; cases h))]; rfl⟩
    | (rw [List.drop_eq_nil_of_le (by omega)] at h2; exact h2)
theorem r_l1First (ms : List Ms) (m : Ms) : Ret Tryz.prog 214 [aL .ms ms, aI m.k] [] (aI (ixF (sameK m) ms)) [] := by
 refine ret_vc hT hM Tryz.func214 rfl rfl (m := 0) (nx := 0) rfl (Nat.le_of_ble_eq_true rfl) ?_
 (repeat' ((conv => whnf); first | (apply nx; intro s) | (apply rg; intro s k) | ((first | refine cas (fun h => ?_) (fun h => ?_) | refine may (fun h => ?_) ?_) <;> (try simp [-List.getD_eq_getElem?_getD] at h)) | (refine giv fun hg => ?_; (try simp only [byE] at hg)) | refine need (by first | kernel_rfl | omega | (simp; done) | (simp; omega)) ?_ | ((first | refine fin_au rfl ?_ | apply WkF.au); (conv => whnf); ((repeat' first | exact trivial | refine ⟨?_, ?_⟩ | exact rfl | exact oR | exact orB rfl | exact oL) <;> (try conv => whnf) <;> (try first | apply cgB | apply cgI | apply cgS | apply cgR | apply cgD | refine cgL ?_) <;> (try (rw [wrap_i64 (by omega) (by omega)]; first | rfl | omega)))) | apply altl))
 (repeat ((conv => whnf); first | (apply nx; intro s) | (apply rg; intro s k))); (conv => whnf)
 refine Tri.loop (fun i : Nat => ⟨[(0, aL .ms ms), (1, aI m.k), (5, aI i)], [], 0⟩) (fun i => i ≤ ms.length ∧ ∀ j, j < i → sameK m (ms.getD j (dflt .ms)) = false) (fun i => ms.length - i) 0 ⟨Nat.zero_le _, fun j hj => by omega⟩ ?_ ?_
 · (apply WkF.au; (conv => whnf); ((repeat' first | exact trivial | refine ⟨?_, ?_⟩ | exact rfl | exact oR | exact orB rfl | exact oL) <;> (try conv => whnf) <;> (try first | apply cgB | apply cgI | apply cgS | apply cgR | apply cgD | refine cgL ?_) <;> (try (rw [wrap_i64 (by omega) (by omega)]; first | rfl | omega))))
 · intro i ⟨hi, hpre⟩
   refine vc_sound hT hM _ _ _ ?_
   (repeat' ((conv => whnf); first | (apply nx; intro s) | (apply rg; intro s k) | ((first | refine cas (fun h => ?_) (fun h => ?_) | refine may (fun h => ?_) ?_) <;> (try simp [-List.getD_eq_getElem?_getD] at h)) | (refine giv fun hg => ?_; (try simp only [byE] at hg)) | refine need (by first | kernel_rfl | omega | (simp; done) | (simp; omega)) ?_ | (refine ⟨i + 1, ?_, by omega, ?_⟩) | ((first | refine fin_au rfl ?_ | apply WkF.au); (conv => whnf); ((repeat' first | exact trivial | refine ⟨?_, ?_⟩ | exact rfl | exact oR | exact orB rfl | exact oL) <;> (try conv => whnf) <;> (try first | apply cgB | apply cgI | apply cgS | apply cgR | apply cgD | refine cgL ?_) <;> (try (rw [wrap_i64 (by omega) (by omega)]; first | rfl | omega)))) | apply altl))
   all_goals first
    | exact (ixF_some (p := sameK m) (by omega) (by unfold sameK; exact decide_eq_true h) hpre).symm
    | exact (ixF_none (p := sameK m) fun j hj => hpre j (by omega)).symm
    | exact ⟨by omega, fun j hj => (Nat.lt_succ_iff_lt_or_eq.1 hj).elim (hpre j) fun e => by subst e; unfold sameK; exact decide_eq_false h⟩
theorem okM_no {m : Ms} (h : msgOk m = false ∨ m.op = 4) : okM m = false := by
 unfold okM
 rcases h with h | h
 · rw [h]; rfl
 · rw [decide_eq_false (by omega), Bool.and_false]
theorem okM_yes {m : Ms} (h : msgOk m = true) (h4 : ¬ m.op = 4) : okM m = true := by
 unfold okM; rw [h, decide_eq_true h4]; rfl
theorem r_specShrink (ms : List Ms) (hb : ms.length ≤ 1099511627776) : Ret Tryz.prog 156 [aL .ms ms] [] (.rw 0) [(0, .row .ms (shrinkF ms))] := by
 refine ret_vc hT hM Tryz.func156 rfl rfl (m := 0) (nx := 0) rfl (Nat.le_of_ble_eq_true rfl) ?_
 (repeat' ((conv => whnf); first | (apply nx; intro s) | (apply rg; intro s k) | ((first | refine cas (fun h => ?_) (fun h => ?_) | refine may (fun h => ?_) ?_) <;> (try simp [-List.getD_eq_getElem?_getD] at h)) | (refine giv fun hg => ?_; (try simp only [byE] at hg)) | refine need (by first | kernel_rfl | omega | (simp; done) | (simp; omega)) ?_ | ((first | refine fin_au rfl ?_ | apply WkF.au); (conv => whnf); ((repeat' first | exact trivial | refine ⟨?_, ?_⟩ | exact rfl | exact oR | exact orB rfl | exact oL) <;> (try conv => whnf) <;> (try first | apply cgB | apply cgI | apply cgS | apply cgR | apply cgD | refine cgL ?_) <;> (try (rw [wrap_i64 (by omega) (by omega)]; first | rfl | omega)))) | apply altl))
 (repeat ((conv => whnf); first | (apply nx; intro s) | (apply rg; intro s k))); (conv => whnf)
 refine Tri.loop (fun q : Nat × List Ms => ⟨[(0, aL .ms ms), (3, .rw 0), (4, aI q.1)], [(0, .row .ms q.2)], 1⟩) (fun q => q.1 ≤ ms.length ∧ q.2.length ≤ q.1 ∧ (∀ x ∈ q.2, okM x = true) ∧ shrG ((ms.drop q.1).filter okM) q.2 = shrinkF ms) (fun q => ms.length - q.1) (0, []) ⟨Nat.zero_le _, Nat.le_refl _, fun x hx => by simp at hx, rfl⟩ ?_ ?_
 · (apply WkF.au; (conv => whnf); ((repeat' first | exact trivial | refine ⟨?_, ?_⟩ | exact rfl | exact oR | exact orB rfl | exact oL) <;> (try conv => whnf) <;> (try first | apply cgB | apply cgI | apply cgS | apply cgR | apply cgD | refine cgL ?_) <;> (try (rw [wrap_i64 (by omega) (by omega)]; first | rfl | omega))))
 · intro ⟨i, out⟩ ⟨h1, h2, h3, h4⟩
   dsimp only at h1 h2 h3 h4
   have hcs := shr_case out (ms.getD i (dflt .ms))
   have hnx : i < ms.length → shrG ((ms.drop i).filter okM) out = shrG ((ms.drop (i + 1)).filter okM) (if okM (ms.getD i (dflt .ms)) = false ∨ overF ((ms.drop (i + 1)).filter okM) (ms.getD i (dflt .ms)) = true then out else shrStep out (ms.getD i (dflt .ms))) := fun h => by
    rw [drop_getD h (dflt .ms), List.filter_cons]
    cases ho : okM (ms.getD i (dflt .ms)) with
    | false => rw [if_neg (by decide), if_pos (.inl rfl)]
    | true =>
      rw [if_pos rfl]
      simp only [shrG]
      cases overF ((ms.drop (i + 1)).filter okM) (ms.getD i (dflt .ms)) <;> simp
   have hif : msgOk (ms.getD i (dflt .ms)) = true → ¬ (ms.getD i (dflt .ms)).op = 4 → overF ((ms.drop (i + 1)).filter okM) (ms.getD i (dflt .ms)) = false → (if okM (ms.getD i (dflt .ms)) = false ∨ overF ((ms.drop (i + 1)).filter okM) (ms.getD i (dflt .ms)) = true then out else shrStep out (ms.getD i (dflt .ms))) = shrStep out (ms.getD i (dflt .ms)) := fun a b c => by
    rw [okM_yes a b, c]; simp
   have hlen : (if okM (ms.getD i (dflt .ms)) = false ∨ overF ((ms.drop (i + 1)).filter okM) (ms.getD i (dflt .ms)) = true then out else shrStep out (ms.getD i (dflt .ms))).length ≤ i + 1 := by
    split
    · omega
    · exact Nat.le_trans (shs_len _ _) (by omega)
   have hokn : i < ms.length → ∀ x ∈ (if okM (ms.getD i (dflt .ms)) = false ∨ overF ((ms.drop (i + 1)).filter okM) (ms.getD i (dflt .ms)) = true then out else shrStep out (ms.getD i (dflt .ms))), okM x = true := fun h x hx => by
    split at hx
    · exact h3 x hx
    · rename_i hno
      refine (step_ok (lo := 0) (hi := 1000) (fun y hy => okM_P (h3 y hy)) (okM_P ?_) x hx).1
      cases ho : okM (ms.getD i (dflt .ms)) with
      | true => rfl
      | false => exact (hno (.inl ho)).elim
   have hlt : 0 ≤ ixF (sameK (ms.getD i (dflt .ms))) out → ixF (sameK (ms.getD i (dflt .ms))) out < out.length := fun h => by have := ixF_lt h; omega
   refine vc_sound hT hM _ _ _ ?_
   (repeat' ((conv => whnf); first | (apply nx; intro s) | (apply rg; intro s k) | ((first | refine cas (fun h => ?_) (fun h => ?_) | refine may (fun h => ?_) ?_) <;> (try simp [-List.getD_eq_getElem?_getD] at h)) | (refine giv fun hg => ?_; (try simp only [byE] at hg)) | refine need (by first | kernel_rfl | omega | (simp; done) | (simp; omega)) ?_ | (refine call_p (r_specMsgOk (ms.getD i (dflt .ms))) rfl (by (repeat' first | exact trivial | refine ⟨?_, ?_⟩ | exact rfl | exact oR | exact orB rfl | exact oL); (first | done | fail)) ?_) | (refine call_p (r_l1Over ms i (by omega) hb) rfl (by (repeat' first | exact trivial | refine ⟨?_, ?_⟩ | exact rfl | exact oR | exact orB rfl | exact oL); (first | done | fail)) ?_) | (refine call_b (r_l1First out (ms.getD i (dflt .ms))) ?_ ?_ ?_ ?_ ?_ ?_; iterate 5 (focus (repeat' first | exact trivial | refine ⟨?_, ?_⟩ | exact rfl | exact oR | exact orB rfl | exact oL); (first | done | fail))) | (refine call_p (r_clamp _) rfl (by (repeat' first | exact trivial | refine ⟨?_, ?_⟩ | exact rfl | exact oR | exact orB rfl | exact oL); (first | done | fail)) ?_) | (refine need (by dsimp only; exact ⟨by omega, by omega⟩) ?_) | (refine need (by dsimp only; omega) ?_) | (refine need (by simp [byE, chunk]; omega) ?_) | (refine ⟨(i + 1, if okM (ms.getD i (dflt .ms)) = false ∨ overF ((ms.drop (i + 1)).filter okM) (ms.getD i (dflt .ms)) = true then out else shrStep out (ms.getD i (dflt .ms))), ?_, ?_, ?_⟩) | (exfalso; omega) | ((first | refine fin_au rfl ?_ | apply WkF.au); (conv => whnf); ((repeat' first | exact trivial | refine ⟨?_, ?_⟩ | exact rfl | exact oR | exact orB rfl | exact oL) <;> (try conv => whnf) <;> (try first | apply cgB | apply cgI | apply cgS | apply cgR | apply cgD | refine cgL ?_) <;> (try (rw [wrap_i64 (by omega) (by omega)]; first | rfl | omega)))) | apply altl))
   all_goals (try dsimp only)
   all_goals (try simp only [Int.toNat_natCast])
   all_goals first
    | omega
    | exact ⟨by omega, hlen, hokn (by omega), by rw [← h4, hnx (by omega)]⟩
    | (rw [if_pos (.inl (okM_no (.inl (by assumption))))]; done)
    | (rw [if_pos (.inl (okM_no (.inr (by assumption))))]; done)
    | (rw [if_pos (.inr (by assumption))]; done)
    | (rw [hif (by assumption) (by assumption) (by assumption), hcs.2 (joins_no (by omega))]; exact snoc_c .ms out _ rfl)
    | (have hr1 := okM_rng (h3 _ (getD_mem (dflt .ms) (ixF_lt (by assumption))))
       have hr2 := okM_rng (okM_yes (m := ms.getD i (dflt .ms)) (by assumption) (by assumption))
       rw [hif (by assumption) (by assumption) (by assumption), hcs.1 (joins_yes (by omega))]
       refine congrArg (out.set _) ?_
       show Ms.mk _ _ _ = Ms.mk _ _ _
       refine congrArg (Ms.mk _ _) ?_
       refine congrArg lim (wrap_i64 ?_ ?_) <;> omega)
    | (rw [List.drop_eq_nil_of_le (by omega)] at h4; exact h4)
end Go.Proofs.YthbpdhppelaihaaGreat