/- Joined: ID IE IF IG IH. -/
import Derived.Test.YthbpdhppelaihaaGreatIC
import Derived.Test.YthbpdhppelaihaaGreatZQ
import Derived.Test.YthbpdhppelaihaaGreatZS
/- Rows of trees, on either side: which kid, what belongs to it, the fullest, a kid's place taken. Conditions: none. -/
set_option linter.unusedVariables false
set_option linter.unusedSimpArgs false
namespace Go.Proofs.YthbpdhppelaihaaGreat
open Go.RowKit
attribute [local irreducible] Tri Weak
set_option maxRecDepth 4000
set_option maxHeartbeats 4000000
abbrev agC (l : List C) : A := .ag (l.map .c)
abbrev rwA (r : Rw) : A := agC [.sl .tr r.1, .sl .int r.2]
abbrev rwR : A := .ag [.rw 0, .rw 1]
abbrev rwH (r : Rw) : Hp := [(0, .row .tr r.1), (1, .row .int r.2)]
theorem kid_take {cuts : List Int} {k : Int} {i : Nat} (h : i < cuts.length) : kidF (cuts.take (i + 1)) k = kidF (cuts.take i) k + (if cuts.getD i (dflt .int) ≤ k then 1 else 0) := by
 rw [← take_snoc' cuts (dflt .int) h]
 unfold kidF
 rw [List.filter_append, List.length_append]
 congr 1
 by_cases hc : cuts.getD i (dflt .int) ≤ k <;> simp [-List.getD_eq_getElem?_getD, hc]
theorem r_kidOf (cuts : List Int) (q : Int) : Ret Tryz.prog 174 [aL .int cuts, aI q] [] (aI (kidF cuts q)) [] := by
 refine ret_vc hT hM Tryz.func174 rfl rfl (m := 0) (nx := 0) rfl (Nat.le_of_ble_eq_true rfl) ?_
 (repeat' ((conv => whnf); first | (apply nx; intro s) | (apply rg; intro s k) | ((first | refine cas (fun h => ?_) (fun h => ?_) | refine may (fun h => ?_) ?_) <;> (try simp [-List.getD_eq_getElem?_getD] at h)) | (refine giv fun hg => ?_; (try simp only [byE] at hg)) | refine need (by first | kernel_rfl | omega | (simp; done) | (simp; omega)) ?_ | ((first | refine fin_au rfl ?_ | apply WkF.au); (conv => whnf); ((repeat' first | exact trivial | refine ⟨?_, ?_⟩ | exact rfl | exact oR | exact orB rfl | exact oL) <;> (try conv => whnf) <;> (try first | apply cgB | apply cgI | apply cgS | apply cgR | apply cgD | refine cgL ?_) <;> (try (rw [wrap_i64 (by omega) (by omega)]; first | rfl | omega)))) | apply altl))
 (repeat ((conv => whnf); first | (apply nx; intro s) | (apply rg; intro s k))); (conv => whnf)
 refine Tri.loop (fun i : Nat => ⟨[(1, aI q), (5, aI (kidF (cuts.take i) q)), (8, aL .int cuts), (9, aI cuts.length), (10, aI i)], [], 0⟩) (fun i => i ≤ cuts.length) (fun i => cuts.length - i) 0 (Nat.zero_le _) ?_ ?_
 · (apply WkF.au; (conv => whnf); ((repeat' first | exact trivial | refine ⟨?_, ?_⟩ | exact rfl | exact oR | exact orB rfl | exact oL) <;> (try conv => whnf) <;> (try first | apply cgB | apply cgI | apply cgS | apply cgR | apply cgD | refine cgL ?_) <;> (try (rw [wrap_i64 (by omega) (by omega)]; first | rfl | omega))))
 · intro i hi
   have hle : kidF (cuts.take i) q ≤ i := Nat.le_trans (kid_le _ _) (by rw [List.length_take]; omega)
   have hst := kid_take (cuts := cuts) (k := q) (i := i)
   refine vc_sound hT hM _ _ _ ?_
   (repeat' ((conv => whnf); first | (apply nx; intro s) | (apply rg; intro s k) | ((first | refine cas (fun h => ?_) (fun h => ?_) | refine may (fun h => ?_) ?_) <;> (try simp [-List.getD_eq_getElem?_getD] at h)) | (refine giv fun hg => ?_; (try simp only [byE] at hg)) | refine need (by first | kernel_rfl | omega | (simp; done) | (simp; omega)) ?_ | (refine ⟨(i + 1 : Nat), ?_, ?_, ?_⟩) | ((first | refine fin_au rfl ?_ | apply WkF.au); (conv => whnf); ((repeat' first | exact trivial | refine ⟨?_, ?_⟩ | exact rfl | exact oR | exact orB rfl | exact oL) <;> (try conv => whnf) <;> (try first | apply cgB | apply cgI | apply cgS | apply cgR | apply cgD | refine cgL ?_) <;> (try (rw [wrap_i64 (by omega) (by omega)]; first | rfl | omega)))) | apply altl))
   all_goals first
    | omega
    | (rw [hst (by omega), if_pos (by assumption), wrap_i64 (by omega) (by omega)]; omega)
    | (rw [hst (by omega), if_neg (by omega)]; omega)
    | (rw [List.take_of_length_le (by omega)])
theorem kid_at {cuts : List Int} {q : Int} : ∀ {n : Nat}, cuts.Pairwise (fun a b => a < b) → n ≤ cuts.length → (∀ j, j < n → cuts.getD j (dflt .int) ≤ q) → (n < cuts.length → q < cuts.getD n (dflt .int)) → kidF cuts q = n := by
 induction cuts with
 | nil => intro n _ h _ _; simp at h; subst h; rfl
 | cons c cs ih =>
   intro n hp hn h1 h2
   have hp' := List.pairwise_cons.1 hp
   rw [kid_cons]
   cases n with
   | zero =>
     have h3 := h2 (by simp)
     simp only [List.getD_cons_zero] at h3
     rw [if_neg (by omega), kid_zero fun c' hc' => by have := hp'.1 c' hc'; omega]
   | succ n =>
     have h3 := h1 0 (by omega)
     simp only [List.getD_cons_zero] at h3
     rw [if_pos h3, ih (n := n) hp'.2 (by simpa using hn) (fun j hj => by simpa using h1 (j + 1) (by omega)) (fun hl => by simpa using h2 (by simpa using hl))]
     omega
theorem r_l4At (r : Rw) (q : Int) (hs : r.2.Pairwise (fun a b => a < b)) : Ret Tryz.prog 216 [rwA r, aI q] [] (aI (kidF r.2 q)) [] := by
 refine ret_vc hT hM Tryz.func216 rfl rfl (m := 0) (nx := 0) rfl (Nat.le_of_ble_eq_true rfl) ?_
 (repeat' ((conv => whnf); first | (apply nx; intro s) | (apply rg; intro s k) | ((first | refine cas (fun h => ?_) (fun h => ?_) | refine may (fun h => ?_) ?_) <;> (try simp [-List.getD_eq_getElem?_getD] at h)) | (refine giv fun hg => ?_; (try simp only [byE] at hg)) | refine need (by first | kernel_rfl | omega | (simp; done) | (simp; omega)) ?_ | ((first | refine fin_au rfl ?_ | apply WkF.au); (conv => whnf); ((repeat' first | exact trivial | refine ⟨?_, ?_⟩ | exact rfl | exact oR | exact orB rfl | exact oL) <;> (try conv => whnf) <;> (try first | apply cgB | apply cgI | apply cgS | apply cgR | apply cgD | refine cgL ?_) <;> (try (rw [wrap_i64 (by omega) (by omega)]; first | rfl | omega)))) | apply altl))
 (repeat ((conv => whnf); first | (apply nx; intro s) | (apply rg; intro s k))); (conv => whnf)
 refine Tri.loop (fun n : Nat => ⟨[(1, aI q), (2, .pt 0 0), (5, aI n)], [(0, .box ([C.sl .tr r.1, .sl .int r.2].map .c))], 1⟩) (fun n => n ≤ r.2.length ∧ ∀ j, j < n → r.2.getD j (dflt .int) ≤ q) (fun n => r.2.length - n) 0 ⟨Nat.zero_le _, fun j hj => by omega⟩ ?_ ?_
 · (apply WkF.au; (conv => whnf); ((repeat' first | exact trivial | refine ⟨?_, ?_⟩ | exact rfl | exact oR | exact orB rfl | exact oL) <;> (try conv => whnf) <;> (try first | apply cgB | apply cgI | apply cgS | apply cgR | apply cgD | refine cgL ?_) <;> (try (rw [wrap_i64 (by omega) (by omega)]; first | rfl | omega))))
 · intro n ⟨hn, hpre⟩
   refine vc_sound hT hM _ _ _ ?_
   (repeat' ((conv => whnf); first | (apply nx; intro s) | (apply rg; intro s k) | ((first | refine cas (fun h => ?_) (fun h => ?_) | refine may (fun h => ?_) ?_) <;> (try simp [-List.getD_eq_getElem?_getD] at h)) | (refine giv fun hg => ?_; (try simp only [byE] at hg)) | refine need (by first | kernel_rfl | omega | (simp; done) | (simp; omega)) ?_ | (refine ⟨(n + 1 : Nat), ?_, ?_, ?_⟩) | ((first | refine fin_au rfl ?_ | apply WkF.au); (conv => whnf); ((repeat' first | exact trivial | refine ⟨?_, ?_⟩ | exact rfl | exact oR | exact orB rfl | exact oL) <;> (try conv => whnf) <;> (try first | apply cgB | apply cgI | apply cgS | apply cgR | apply cgD | refine cgL ?_) <;> (try (rw [wrap_i64 (by omega) (by omega)]; first | rfl | omega)))) | apply altl))
   all_goals first
    | omega
    | exact ⟨by omega, fun j hj => (Nat.lt_succ_iff_lt_or_eq.1 hj).elim (hpre j) fun e => by subst e; assumption⟩
    | (rw [wrap_i64 (by omega) (by simp [byE] at *; omega)]; omega)
    | (rw [kid_at hs hn hpre (fun h => by omega)])
theorem of_take {cuts : List Int} {ms : List Ms} {at0 i : Nat} (h : i < ms.length) : ofKidF cuts (ms.take (i + 1)) at0 = ofKidF cuts (ms.take i) at0 ++ (if kidF cuts (ms.getD i (dflt .ms)).k = at0 then [ms.getD i (dflt .ms)] else []) := by
 rw [← take_snoc' ms (dflt .ms) h]
 unfold ofKidF
 rw [List.filter_append]
 congr 1
 by_cases hc : kidF cuts (ms.getD i (dflt .ms)).k = at0 <;> simp [-List.getD_eq_getElem?_getD, hc, isKid]
theorem rest_take {cuts : List Int} {ms : List Ms} {at0 i : Nat} (h : i < ms.length) : restF cuts (ms.take (i + 1)) at0 = restF cuts (ms.take i) at0 ++ (if kidF cuts (ms.getD i (dflt .ms)).k = at0 then [] else [ms.getD i (dflt .ms)]) := by
 rw [← take_snoc' ms (dflt .ms) h]
 unfold restF
 rw [List.filter_append]
 congr 1
 by_cases hc : kidF cuts (ms.getD i (dflt .ms)).k = at0 <;> simp [-List.getD_eq_getElem?_getD, hc, isKid]
theorem r_ofKid (cuts : List Int) (ms : List Ms) (at0 : Nat) (hb : ms.length ≤ 1099511627776) : Ret Tryz.prog 171 [aL .int cuts, aL .ms ms, aI at0] [] (.rw 0) [(0, .row .ms (ofKidF cuts ms at0))] := by
 refine ret_vc hT hM Tryz.func171 rfl rfl (m := 0) (nx := 0) rfl (Nat.le_of_ble_eq_true rfl) ?_
 (repeat' ((conv => whnf); first | (apply nx; intro s) | (apply rg; intro s k) | ((first | refine cas (fun h => ?_) (fun h => ?_) | refine may (fun h => ?_) ?_) <;> (try simp [-List.getD_eq_getElem?_getD] at h)) | (refine giv fun hg => ?_; (try simp only [byE] at hg)) | refine need (by first | kernel_rfl | omega | (simp; done) | (simp; omega)) ?_ | ((first | refine fin_au rfl ?_ | apply WkF.au); (conv => whnf); ((repeat' first | exact trivial | refine ⟨?_, ?_⟩ | exact rfl | exact oR | exact orB rfl | exact oL) <;> (try conv => whnf) <;> (try first | apply cgB | apply cgI | apply cgS | apply cgR | apply cgD | refine cgL ?_) <;> (try (rw [wrap_i64 (by omega) (by omega)]; first | rfl | omega)))) | apply altl))
 (repeat ((conv => whnf); first | (apply nx; intro s) | (apply rg; intro s k))); (conv => whnf)
 refine Tri.loop (fun i : Nat => ⟨[(0, aL .int cuts), (2, aI at0), (7, .rw 0), (11, aL .ms ms), (12, aI ms.length), (13, aI i)], [(0, .row .ms (ofKidF cuts (ms.take i) at0))], 1⟩) (fun i => i ≤ ms.length) (fun i => ms.length - i) 0 (Nat.zero_le _) ?_ ?_
 · (apply WkF.au; (conv => whnf); ((repeat' first | exact trivial | refine ⟨?_, ?_⟩ | exact rfl | exact oR | exact orB rfl | exact oL) <;> (try conv => whnf) <;> (try first | apply cgB | apply cgI | apply cgS | apply cgR | apply cgD | refine cgL ?_) <;> (try (rw [wrap_i64 (by omega) (by omega)]; first | rfl | omega))))
 · intro i hi
   have hle : (ofKidF cuts (ms.take i) at0).length ≤ i := Nat.le_trans (List.length_filter_le _ _) (by rw [List.length_take]; omega)
   have hst := of_take (cuts := cuts) (ms := ms) (at0 := at0) (i := i)
   refine vc_sound hT hM _ _ _ ?_
   (repeat' ((conv => whnf); first | (apply nx; intro s) | (apply rg; intro s k) | ((first | refine cas (fun h => ?_) (fun h => ?_) | refine may (fun h => ?_) ?_) <;> (try simp [-List.getD_eq_getElem?_getD] at h)) | (refine giv fun hg => ?_; (try simp only [byE] at hg)) | refine need (by first | kernel_rfl | omega | (simp; done) | (simp; omega)) ?_ | (refine call_p (r_kidOf cuts (ms.getD i (dflt .ms)).k) rfl (by (repeat' first | exact trivial | refine ⟨?_, ?_⟩ | exact rfl | exact oR | exact orB rfl | exact oL); (first | done | fail)) ?_) | (refine need (by simp [byE, chunk]; omega) ?_) | (refine ⟨(i + 1 : Nat), ?_, ?_, ?_⟩) | ((first | refine fin_au rfl ?_ | apply WkF.au); (conv => whnf); ((repeat' first | exact trivial | refine ⟨?_, ?_⟩ | exact rfl | exact oR | exact orB rfl | exact oL) <;> (try conv => whnf) <;> (try first | apply cgB | apply cgI | apply cgS | apply cgR | apply cgD | refine cgL ?_) <;> (try (rw [wrap_i64 (by omega) (by omega)]; first | rfl | omega)))) | apply altl))
   all_goals first
    | omega
    | (rw [hst (by omega), if_pos (by omega)]; exact snoc_c .ms _ _ rfl)
    | (rw [hst (by omega), if_neg (by omega), List.append_nil])
    | (rw [List.take_of_length_le (by omega)])
theorem r_l4Split (r : Rw) (ms : List Ms) (at0 : Nat) (hs : r.2.Pairwise (fun a b => a < b)) (hb : ms.length ≤ 1099511627776) : Ret Tryz.prog 158 [rwA r, aL .ms ms, aI at0] [] (.tp [.rw 0, .rw 1]) [(0, .row .ms (ofKidF r.2 ms at0)), (1, .row .ms (restF r.2 ms at0))] := by
 refine ret_vc hT hM Tryz.func158 rfl rfl (m := 0) (nx := 0) rfl (Nat.le_of_ble_eq_true rfl) ?_
 (repeat' ((conv => whnf); first | (apply nx; intro s) | (apply rg; intro s k) | ((first | refine cas (fun h => ?_) (fun h => ?_) | refine may (fun h => ?_) ?_) <;> (try simp [-List.getD_eq_getElem?_getD] at h)) | (refine giv fun hg => ?_; (try simp only [byE] at hg)) | refine need (by first | kernel_rfl | omega | (simp; done) | (simp; omega)) ?_ | ((first | refine fin_au rfl ?_ | apply WkF.au); (conv => whnf); ((repeat' first | exact trivial | refine ⟨?_, ?_⟩ | exact rfl | exact oR | exact orB rfl | exact oL) <;> (try conv => whnf) <;> (try first | apply cgB | apply cgI | apply cgS | apply cgR | apply cgD | refine cgL ?_) <;> (try (rw [wrap_i64 (by omega) (by omega)]; first | rfl | omega)))) | apply altl))
 (repeat ((conv => whnf); first | (apply nx; intro s) | (apply rg; intro s k))); (conv => whnf)
 refine Tri.loop (fun i : Nat => ⟨[(1, aL .ms ms), (2, aI at0), (3, .pt 0 0), (8, .rw 1), (9, .rw 2), (10, aI i)], [(0, .box ([C.sl .tr r.1, .sl .int r.2].map .c)), (1, .row .ms (ofKidF r.2 (ms.take i) at0)), (2, .row .ms (restF r.2 (ms.take i) at0))], 3⟩) (fun i => i ≤ ms.length) (fun i => ms.length - i) 0 (Nat.zero_le _) ?_ ?_
 · (apply WkF.au; (conv => whnf); ((repeat' first | exact trivial | refine ⟨?_, ?_⟩ | exact rfl | exact oR | exact orB rfl | exact oL) <;> (try conv => whnf) <;> (try first | apply cgB | apply cgI | apply cgS | apply cgR | apply cgD | refine cgL ?_) <;> (try (rw [wrap_i64 (by omega) (by omega)]; first | rfl | omega))))
 · intro i hi
   have hle : (ofKidF r.2 (ms.take i) at0).length ≤ i := Nat.le_trans (List.length_filter_le _ _) (by rw [List.length_take]; omega)
   have hle2 : (restF r.2 (ms.take i) at0).length ≤ i := Nat.le_trans (List.length_filter_le _ _) (by rw [List.length_take]; omega)
   have hst := of_take (cuts := r.2) (ms := ms) (at0 := at0) (i := i)
   have hst2 := rest_take (cuts := r.2) (ms := ms) (at0 := at0) (i := i)
   refine vc_sound hT hM _ _ _ ?_
   (repeat' ((conv => whnf); first | (apply nx; intro s) | (apply rg; intro s k) | ((first | refine cas (fun h => ?_) (fun h => ?_) | refine may (fun h => ?_) ?_) <;> (try simp [-List.getD_eq_getElem?_getD] at h)) | (refine giv fun hg => ?_; (try simp only [byE] at hg)) | refine need (by first | kernel_rfl | omega | (simp; done) | (simp; omega)) ?_ | (refine call_p (r_l4At r (ms.getD i (dflt .ms)).k hs) rfl (by (repeat' first | exact trivial | refine ⟨?_, ?_⟩ | exact rfl | exact oR | exact orB rfl | exact oL); (first | done | fail)) ?_) | (refine need (by simp [byE, chunk]; omega) ?_) | (refine ⟨(i + 1 : Nat), ?_, ?_, ?_⟩) | ((first | refine fin_au rfl ?_ | apply WkF.au); (conv => whnf); ((repeat' first | exact trivial | refine ⟨?_, ?_⟩ | exact rfl | exact oR | exact orB rfl | exact oL) <;> (try conv => whnf) <;> (try first | apply cgB | apply cgI | apply cgS | apply cgR | apply cgD | refine cgL ?_) <;> (try (rw [wrap_i64 (by omega) (by omega)]; first | rfl | omega)))) | apply altl))
   all_goals first
    | omega
    | (rw [hst (by omega), if_pos (by omega)]; exact snoc_c .ms _ _ rfl)
    | (rw [hst (by omega), if_neg (by omega), List.append_nil])
    | (rw [hst2 (by omega), if_neg (by omega)]; exact snoc_c .ms _ _ rfl)
    | (rw [hst2 (by omega), if_pos (by omega), List.append_nil])
    | (rw [List.take_of_length_le (by omega)])
    | (rw [wrap_i64 (by omega) (by omega)]; omega)
theorem r_fullest (r : Rw) (ms : List Ms) (hb : ms.length ≤ 1099511627776) : Ret Tryz.prog 170 [rwA r, aL .ms ms] [] (aI (fullF r.1.length r.2 ms)) [] := by
 refine ret_vc hT hM Tryz.func170 rfl rfl (m := 0) (nx := 0) rfl (Nat.le_of_ble_eq_true rfl) ?_
 (repeat' ((conv => whnf); first | (apply nx; intro s) | (apply rg; intro s k) | ((first | refine cas (fun h => ?_) (fun h => ?_) | refine may (fun h => ?_) ?_) <;> (try simp [-List.getD_eq_getElem?_getD] at h)) | (refine giv fun hg => ?_; (try simp only [byE] at hg)) | refine need (by first | kernel_rfl | omega | (simp; done) | (simp; omega)) ?_ | ((first | refine fin_au rfl ?_ | apply WkF.au); (conv => whnf); ((repeat' first | exact trivial | refine ⟨?_, ?_⟩ | exact rfl | exact oR | exact orB rfl | exact oL) <;> (try conv => whnf) <;> (try first | apply cgB | apply cgI | apply cgS | apply cgR | apply cgD | refine cgL ?_) <;> (try (rw [wrap_i64 (by omega) (by omega)]; first | rfl | omega)))) | apply altl))
 (repeat ((conv => whnf); first | (apply nx; intro s) | (apply rg; intro s k))); (conv => whnf)
 refine Tri.loop (fun i : Nat => ⟨[(1, aL .ms ms), (2, .pt 0 0), (5, aI (fullN r.2 ms i).1), (6, aI (fullN r.2 ms i).2), (11, aI r.1.length), (12, aI i)], [(0, .box ([C.sl .tr r.1, .sl .int r.2].map .c))], 1⟩) (fun i => i ≤ r.1.length) (fun i => r.1.length - i) 0 (Nat.zero_le _) ?_ ?_
 · (apply WkF.au; (conv => whnf); ((repeat' first | exact trivial | refine ⟨?_, ?_⟩ | exact rfl | exact oR | exact orB rfl | exact oL) <;> (try conv => whnf) <;> (try first | apply cgB | apply cgI | apply cgS | apply cgR | apply cgD | refine cgL ?_) <;> (try (rw [wrap_i64 (by omega) (by omega)]; first | rfl | omega))))
 · intro i hi
   have h1 : (fullN r.2 ms i).2 < ((ofKidF r.2 ms i).length : Int) → fullN r.2 ms (i + 1) = (i, ((ofKidF r.2 ms i).length : Int)) := fun h => by simp only [fullN]; rw [if_pos h]
   have h2 : ¬ (fullN r.2 ms i).2 < ((ofKidF r.2 ms i).length : Int) → fullN r.2 ms (i + 1) = fullN r.2 ms i := fun h => by simp only [fullN]; rw [if_neg h]
   refine vc_sound hT hM _ _ _ ?_
   (repeat' ((conv => whnf); first | (apply nx; intro s) | (apply rg; intro s k) | ((first | refine cas (fun h => ?_) (fun h => ?_) | refine may (fun h => ?_) ?_) <;> (try simp [-List.getD_eq_getElem?_getD] at h)) | (refine giv fun hg => ?_; (try simp only [byE] at hg)) | refine need (by first | kernel_rfl | omega | (simp; done) | (simp; omega)) ?_ | (refine call_n (r_ofKid r.2 ms i hb) rfl ?_ ?_ ?_; iterate 2 (focus (repeat' first | exact trivial | refine ⟨?_, ?_⟩ | exact rfl | exact oR | exact orB rfl | exact oL); (first | done | fail))) | (refine ⟨(i + 1 : Nat), ?_, ?_, ?_⟩) | ((first | refine fin_au rfl ?_ | apply WkF.au); (conv => whnf); ((repeat' first | exact trivial | refine ⟨?_, ?_⟩ | exact rfl | exact oR | exact orB rfl | exact oL) <;> (try conv => whnf) <;> (try first | apply cgB | apply cgI | apply cgS | apply cgR | apply cgD | refine cgL ?_) <;> (try (rw [wrap_i64 (by omega) (by omega)]; first | rfl | omega)))) | apply altl))
   all_goals first
    | omega
    | (rw [h1 (by omega)]; done)
    | (rw [h2 (by omega)]; done)
    | (obtain rfl : i = r.1.length := by omega
       rfl)
theorem r_l4Most (r : Rw) (ms : List Ms) (hs : r.2.Pairwise (fun a b => a < b)) (hb : ms.length ≤ 1099511627776) : Ret Tryz.prog 157 [rwA r, aL .ms ms] [] (aI (fullF r.1.length r.2 ms)) [] := by
 refine ret_vc hT hM Tryz.func157 rfl rfl (m := 0) (nx := 0) rfl (Nat.le_of_ble_eq_true rfl) ?_
 (repeat' ((conv => whnf); first | (apply nx; intro s) | (apply rg; intro s k) | ((first | refine cas (fun h => ?_) (fun h => ?_) | refine may (fun h => ?_) ?_) <;> (try simp [-List.getD_eq_getElem?_getD] at h)) | (refine giv fun hg => ?_; (try simp only [byE] at hg)) | refine need (by first | kernel_rfl | omega | (simp; done) | (simp; omega)) ?_ | ((first | refine fin_au rfl ?_ | apply WkF.au); (conv => whnf); ((repeat' first | exact trivial | refine ⟨?_, ?_⟩ | exact rfl | exact oR | exact orB rfl | exact oL) <;> (try conv => whnf) <;> (try first | apply cgB | apply cgI | apply cgS | apply cgR | apply cgD | refine cgL ?_) <;> (try (rw [wrap_i64 (by omega) (by omega)]; first | rfl | omega)))) | apply altl))
 (repeat ((conv => whnf); first | (apply nx; intro s) | (apply rg; intro s k))); (conv => whnf)
 refine Tri.loop (fun i : Nat => ⟨[(1, aL .ms ms), (2, .pt 0 0), (5, aI (fullN r.2 ms i).1), (6, aI (fullN r.2 ms i).2), (7, aI i)], [(0, .box ([C.sl .tr r.1, .sl .int r.2].map .c))], 1⟩) (fun i => i ≤ r.1.length) (fun i => r.1.length - i) 0 (Nat.zero_le _) ?_ ?_
 · (apply WkF.au; (conv => whnf); ((repeat' first | exact trivial | refine ⟨?_, ?_⟩ | exact rfl | exact oR | exact orB rfl | exact oL) <;> (try conv => whnf) <;> (try first | apply cgB | apply cgI | apply cgS | apply cgR | apply cgD | refine cgL ?_) <;> (try (rw [wrap_i64 (by omega) (by omega)]; first | rfl | omega))))
 · intro i hi
   have h1 : (fullN r.2 ms i).2 < ((ofKidF r.2 ms i).length : Int) → fullN r.2 ms (i + 1) = (i, ((ofKidF r.2 ms i).length : Int)) := fun h => by simp only [fullN]; rw [if_pos h]
   have h2 : ¬ (fullN r.2 ms i).2 < ((ofKidF r.2 ms i).length : Int) → fullN r.2 ms (i + 1) = fullN r.2 ms i := fun h => by simp only [fullN]; rw [if_neg h]
   refine vc_sound hT hM _ _ _ ?_
   (repeat' ((conv => whnf); first | (apply nx; intro s) | (apply rg; intro s k) | ((first | refine cas (fun h => ?_) (fun h => ?_) | refine may (fun h => ?_) ?_) <;> (try simp [-List.getD_eq_getElem?_getD] at h)) | (refine giv fun hg => ?_; (try simp only [byE] at hg)) | refine need (by first | kernel_rfl | omega | (simp; done) | (simp; omega)) ?_ | (refine call_n (r_l4Split r ms i hs hb) rfl ?_ ?_ ?_; iterate 2 (focus (repeat' first | exact trivial | refine ⟨?_, ?_⟩ | exact rfl | exact oR | exact orB rfl | exact oL); (first | done | fail))) | (refine ⟨(i + 1 : Nat), ?_, ?_, ?_⟩) | ((first | refine fin_au rfl ?_ | apply WkF.au); (conv => whnf); ((repeat' first | exact trivial | refine ⟨?_, ?_⟩ | exact rfl | exact oR | exact orB rfl | exact oL) <;> (try conv => whnf) <;> (try first | apply cgB | apply cgI | apply cgS | apply cgR | apply cgD | refine cgL ?_) <;> (try (rw [wrap_i64 (by omega) (by omega)]; first | rfl | omega)))) | apply altl))
   all_goals first
    | omega
    | (rw [h1 (by omega)]; done)
    | (rw [h2 (by omega)]; done)
    | (obtain rfl : i = r.1.length := by omega
       rfl)
    | (rw [wrap_i64 (by omega) (by simp [byE] at *; omega)]; omega)
theorem r_give1 (cuts : List Int) (at0 : Nat) (m : Ms) : Ret Tryz.prog 173 [agE .ms m, .pt 0 0, .pt 1 0] [(0, .box [aL .int cuts]), (1, .box [aI at0])] (.c (.bool (isKid cuts at0 m))) [(0, .box [aL .int cuts]), (1, .box [aI at0])] := by
 refine ret_vc hT hM Tryz.func173 rfl rfl (m := 2) (nx := 2) rfl (Nat.le_of_ble_eq_true rfl) ?_
 (repeat' ((conv => whnf); first | (apply nx; intro s) | (apply rg; intro s k) | ((first | refine cas (fun h => ?_) (fun h => ?_) | refine may (fun h => ?_) ?_) <;> (try simp [-List.getD_eq_getElem?_getD] at h)) | (refine giv fun hg => ?_; (try simp only [byE] at hg)) | refine need (by first | kernel_rfl | omega | (simp; done) | (simp; omega)) ?_ | (refine call_p (r_kidOf cuts m.k) rfl (by (repeat' first | exact trivial | refine ⟨?_, ?_⟩ | exact rfl | exact oR | exact orB rfl | exact oL); (first | done | fail)) ?_) | ((first | refine fin_au rfl ?_ | apply WkF.au); (conv => whnf); ((repeat' first | exact trivial | refine ⟨?_, ?_⟩ | exact rfl | exact oR | exact orB rfl | exact oL) <;> (try conv => whnf) <;> (try first | apply cgB | apply cgI | apply cgS | apply cgR | apply cgD | refine cgL ?_) <;> (try (rw [wrap_i64 (by omega) (by omega)]; first | rfl | omega)))) | apply altl))
 all_goals (unfold isKid; simp; omega)
theorem chunk3_tr (a b c : List Tr) : chunk .ltr 3 [C.sl .tr a, C.sl .tr b, C.sl .tr c] = [a, b, c] := rfl
theorem chunk3_in (a b c : List Int) : chunk .lint 3 [C.sl .int a, C.sl .int b, C.sl .int c] = [a, b, c] := rfl
theorem r_put (r : Rw) (i : Nat) (x : Rw) (hi : i < r.1.length) (hc : i ≤ r.2.length) (hb : r.1.length + x.1.length ≤ 1099511627776) (hb2 : r.2.length + x.2.length ≤ 1099511627776) : Ret Tryz.prog 175 [rwA r, aI i, rwA x] [] rwR (rwH (putF r i x)) := by
 have hw : IntKind.i64.wrap ((i : Int) + 1) = ((i + 1 : Nat) : Int) := by rw [wrap_i64 (by omega) (by omega)]; omega
 refine ret_vc hT hM Tryz.func175 rfl rfl (m := 0) (nx := 0) rfl (Nat.le_of_ble_eq_true rfl) ?_
 (repeat' ((conv => whnf); first | (apply nx; intro s) | (apply rg; intro s k) | ((first | refine cas (fun h => ?_) (fun h => ?_) | refine may (fun h => ?_) ?_) <;> (try simp [-List.getD_eq_getElem?_getD] at h)) | (refine giv fun hg => ?_; (try simp only [byE] at hg)) | (refine need (by rw [hw]; exact ⟨by omega, by omega, by omega⟩) ?_) | refine need (by first | kernel_rfl | omega | (simp; done) | (simp; omega)) ?_ | (refine call_f (r_concatTr _ ?_) (by (repeat' first | exact trivial | refine ⟨?_, ?_⟩ | exact rfl | exact oR | exact orB rfl | exact oL); (first | done | fail)) (by (repeat' first | exact trivial | refine ⟨?_, ?_⟩ | exact rfl | exact oR | exact orB rfl | exact oL); (first | done | fail)) (by (repeat' first | exact trivial | refine ⟨?_, ?_⟩ | exact rfl | exact oR | exact orB rfl | exact oL); (first | done | fail)) ?_) | (refine call_f (r_concatIn _ ?_) (by (repeat' first | exact trivial | refine ⟨?_, ?_⟩ | exact rfl | exact oR | exact orB rfl | exact oL); (first | done | fail)) (by (repeat' first | exact trivial | refine ⟨?_, ?_⟩ | exact rfl | exact oR | exact orB rfl | exact oL); (first | done | fail)) (by (repeat' first | exact trivial | refine ⟨?_, ?_⟩ | exact rfl | exact oR | exact orB rfl | exact oL); (first | done | fail)) ?_) | ((first | refine fin_au rfl ?_ | apply WkF.au); (conv => whnf); ((repeat' first | exact trivial | refine ⟨?_, ?_⟩ | exact rfl | exact oR | exact orB rfl | exact oL) <;> (try conv => whnf) <;> (try first | apply cgB | apply cgI | apply cgS | apply cgR | apply cgD | refine cgL ?_) <;> (try (rw [wrap_i64 (by omega) (by omega)]; first | rfl | omega)))) | apply altl))
 all_goals (rw [hw] at *)
 all_goals simp only [chunk3_tr, chunk3_in, putF, Int.toNat_natCast, Int.toNat_zero, List.take_length, List.drop_zero, List.flatten_cons, List.flatten_nil, List.append_nil]
 all_goals (simp only [List.length_append, List.length_take, List.length_drop]; omega)
theorem r_l4Put (r : Rw) (i : Nat) (x : Rw) (hi : i < r.1.length) (hc : i ≤ r.2.length) (hb : r.1.length + x.1.length ≤ 1099511627776) (hb2 : r.2.length + x.2.length ≤ 1099511627776) : Ret Tryz.prog 159 [rwA r, aI i, rwA x] [] rwR (rwH (putF r i x)) := by
 have hw : IntKind.i64.wrap ((i : Int) + 1) = ((i + 1 : Nat) : Int) := by rw [wrap_i64 (by omega) (by omega)]; omega
 refine ret_vc hT hM Tryz.func159 rfl rfl (m := 0) (nx := 0) rfl (Nat.le_of_ble_eq_true rfl) ?_
 (repeat' ((conv => whnf); first | (apply nx; intro s) | (apply rg; intro s k) | ((first | refine cas (fun h => ?_) (fun h => ?_) | refine may (fun h => ?_) ?_) <;> (try simp [-List.getD_eq_getElem?_getD] at h)) | (refine giv fun hg => ?_; (try simp only [byE] at hg)) | (refine need (by rw [hw]; exact ⟨by omega, by omega, by omega⟩) ?_) | refine need (by first | kernel_rfl | omega | (simp; done) | (simp; omega)) ?_ | (refine need (by simp only [byE, chunk, List.length_append, List.length_take, List.length_drop, List.length_nil, Int.toNat_natCast, Int.toNat_zero, hw]; omega) ?_) | ((first | refine fin_au rfl ?_ | apply WkF.au); (conv => whnf); ((repeat' first | exact trivial | refine ⟨?_, ?_⟩ | exact rfl | exact oR | exact orB rfl | exact oL) <;> (try conv => whnf) <;> (try first | apply cgB | apply cgI | apply cgS | apply cgR | apply cgD | refine cgL ?_) <;> (try (rw [wrap_i64 (by omega) (by omega)]; first | rfl | omega)))) | apply altl))
 all_goals simp only [chunk, hw, putF, Int.toNat_natCast, Int.toNat_zero, List.take_length, List.drop_zero, List.nil_append, List.append_assoc]
end Go.Proofs.YthbpdhppelaihaaGreat
/- Packing, leaves, on either side. Conditions: none. -/
namespace Go.Proofs.YthbpdhppelaihaaGreat
open Go.RowKit
attribute [local irreducible] Tri Weak
set_option maxRecDepth 4000
set_option maxHeartbeats 4000000
def partsF (p : Nat) : List Int := (List.range p).map (fun j : Nat => 2 * (j : Int))
theorem parts_len (p : Nat) : (partsF p).length = p := by simp [partsF]
theorem parts_get {p j : Nat} (h : j < p) : (partsF p).getD j (dflt .int) = 2 * (j : Int) := by
 rw [List.getD_eq_getElem?_getD]; simp [partsF, h]
theorem parts_succ (p : Nat) : partsF (p + 1) = partsF p ++ [2 * (p : Int)] := by
 unfold partsF; rw [List.range_succ, List.map_append]; rfl
theorem r_parts (n : Nat) (h2 : 2 ≤ n) (hb : n ≤ 1099511627776) : Ret Tryz.prog 218 [aI n] [] (.rw 0) [(0, .row .int (partsF (n / 2)))] := by
 refine ret_vc hT hM Tryz.func218 rfl rfl (m := 0) (nx := 0) rfl (Nat.le_of_ble_eq_true rfl) ?_
 (repeat' ((conv => whnf); first | (apply nx; intro s) | (apply rg; intro s k) | ((first | refine cas (fun h => ?_) (fun h => ?_) | refine may (fun h => ?_) ?_) <;> (try simp [-List.getD_eq_getElem?_getD] at h)) | (refine giv fun hg => ?_; (try simp only [byE] at hg)) | refine need (by first | kernel_rfl | omega | (simp; done) | (simp; omega)) ?_ | ((first | refine fin_au rfl ?_ | apply WkF.au); (conv => whnf); ((repeat' first | exact trivial | refine ⟨?_, ?_⟩ | exact rfl | exact oR | exact orB rfl | exact oL) <;> (try conv => whnf) <;> (try first | apply cgB | apply cgI | apply cgS | apply cgR | apply cgD | refine cgL ?_) <;> (try (rw [wrap_i64 (by omega) (by omega)]; first | rfl | omega)))) | apply altl))
 (repeat ((conv => whnf); first | (apply nx; intro s) | (apply rg; intro s k))); (conv => whnf)
 refine Tri.loop (fun j : Nat => ⟨[(0, aI n), (3, .rw 0), (4, aI (2 * (j : Int)))], [(0, .row .int (partsF j))], 1⟩) (fun j => j ≤ n / 2) (fun j => n / 2 - j) 0 (Nat.zero_le _) ?_ ?_
 · (apply WkF.au; (conv => whnf); ((repeat' first | exact trivial | refine ⟨?_, ?_⟩ | exact rfl | exact oR | exact orB rfl | exact oL) <;> (try conv => whnf) <;> (try first | apply cgB | apply cgI | apply cgS | apply cgR | apply cgD | refine cgL ?_) <;> (try (rw [wrap_i64 (by omega) (by omega)]; first | rfl | omega))))
   all_goals rfl
 · intro j hj
   have hw1 : IntKind.i64.wrap (2 * (j : Int) + 1) = 2 * (j : Int) + 1 := wrap_i64 (by omega) (by omega)
   have hw2 : IntKind.i64.wrap (2 * (j : Int) + 2) = 2 * ((j + 1 : Nat) : Int) := by rw [wrap_i64 (by omega) (by omega)]; omega
   have hpl := parts_len j
   refine vc_sound hT hM _ _ _ ?_
   (repeat' ((conv => whnf); first | (apply nx; intro s) | (apply rg; intro s k) | ((first | refine cas (fun h => ?_) (fun h => ?_) | refine may (fun h => ?_) ?_) <;> (try simp [-List.getD_eq_getElem?_getD, hw1] at h)) | (refine giv fun hg => ?_; (try simp only [byE] at hg)) | refine need (by first | kernel_rfl | omega | (simp; done) | (simp; omega)) ?_ | (refine need (by simp [byE, chunk]; omega) ?_) | (refine ⟨(j + 1 : Nat), ?_, ?_, ?_⟩) | ((first | refine fin_au rfl ?_ | apply WkF.au); (conv => whnf); ((repeat' first | exact trivial | refine ⟨?_, ?_⟩ | exact rfl | exact oR | exact orB rfl | exact oL) <;> (try conv => whnf) <;> (try first | apply cgB | apply cgI | apply cgS | apply cgR | apply cgD | refine cgL ?_) <;> (try (rw [wrap_i64 (by omega) (by omega)]; first | rfl | omega)))) | apply altl))
   all_goals first
    | omega
    | (rw [parts_succ]; exact snoc_c .int _ _ rfl)
    | exact hw2
    | (rw [show j = n / 2 by omega])
theorem r_end (p i n : Nat) (hi : i < p) (hp : p ≤ 1099511627776) : Ret Tryz.prog 219 [aL .int (partsF p), aI i, aI n] [] (aI (if i + 1 < p then 2 * ((i : Int) + 1) else n)) [] := by
 have hw1 : IntKind.i64.wrap ((i : Int) + 1) = ((i + 1 : Nat) : Int) := by rw [wrap_i64 (by omega) (by omega)]; omega
 have hpl := parts_len p
 refine ret_vc hT hM Tryz.func219 rfl rfl (m := 0) (nx := 0) rfl (Nat.le_of_ble_eq_true rfl) ?_
 (repeat' ((conv => whnf); first | (apply nx; intro s) | (apply rg; intro s k) | ((first | refine cas (fun h => ?_) (fun h => ?_) | refine may (fun h => ?_) ?_) <;> (try simp [-List.getD_eq_getElem?_getD, hw1] at h)) | (refine giv fun hg => ?_; (try simp only [byE] at hg)) | refine need (by first | kernel_rfl | omega | (simp; done) | (simp; omega)) ?_ | (refine need (by rw [hw1]; exact ⟨by omega, by omega⟩) ?_) | ((first | refine fin_au rfl ?_ | apply WkF.au); (conv => whnf); ((repeat' first | exact trivial | refine ⟨?_, ?_⟩ | exact rfl | exact oR | exact orB rfl | exact oL) <;> (try conv => whnf) <;> (try first | apply cgB | apply cgI | apply cgS | apply cgR | apply cgD | refine cgL ?_) <;> (try (rw [wrap_i64 (by omega) (by omega)]; first | rfl | omega)))) | apply altl))
 all_goals first
  | (rw [hw1, Int.toNat_natCast, parts_get (by omega), if_pos (by omega)]; omega)
  | (rw [if_neg (by omega)])
theorem r_grouped (r : Rw) (hl : r.1.length = r.2.length + 1) (h2 : 2 ≤ r.1.length) (hb : r.1.length ≤ 1099511627776) : Ret Tryz.prog 165 [rwA r] [] rwR (rwH (packF r)) := by
 have hpl := parts_len (r.1.length / 2)
 have hpg := @parts_get (r.1.length / 2)
 have hend := r_end (r.1.length / 2)
 have hP := r_parts r.1.length h2 hb
 generalize partsF (r.1.length / 2) = L at *
 refine ret_vc hT hM Tryz.func165 rfl rfl (m := 0) (nx := 0) rfl (Nat.le_of_ble_eq_true rfl) ?_
 (repeat' ((conv => whnf); first | (apply nx; intro s) | (apply rg; intro s k) | ((first | refine cas (fun h => ?_) (fun h => ?_) | refine may (fun h => ?_) ?_) <;> (try simp [-List.getD_eq_getElem?_getD] at h)) | (refine giv fun hg => ?_; (try simp only [byE] at hg)) | refine need (by first | kernel_rfl | omega | (simp; done) | (simp; omega)) ?_ | (refine call_n (hP) rfl ?_ ?_ ?_; iterate 2 (focus (repeat' first | exact trivial | refine ⟨?_, ?_⟩ | exact rfl | exact oR | exact orB rfl | exact oL); (first | done | fail))) | ((first | refine fin_au rfl ?_ | apply WkF.au); (conv => whnf); ((repeat' first | exact trivial | refine ⟨?_, ?_⟩ | exact rfl | exact oR | exact orB rfl | exact oL) <;> (try conv => whnf) <;> (try first | apply cgB | apply cgI | apply cgS | apply cgR | apply cgD | refine cgL ?_) <;> (try (rw [wrap_i64 (by omega) (by omega)]; first | rfl | omega)))) | apply altl))
 (repeat ((conv => whnf); first | (apply nx; intro s) | (apply rg; intro s k))); (conv => whnf)
 refine Tri.loop (fun q : Nat × Rw => ⟨[(1, .pt 0 0), (2, .pt 1 0), (3, .pt 2 0), (4, aL .int L), (13, aL .int L), (14, aI (r.1.length / 2 : Nat)), (15, aI q.1)], [(0, .box ([C.sl .tr r.1, .sl .int r.2].map .c)), (1, .box [.nl, .nl]), (2, .box [.rw 3, .rw 4]), (3, .row .tr q.2.1), (4, .row .int q.2.2)], 5⟩) (fun q => PInv r q.1 q.2) (fun q => r.1.length / 2 - q.1) (0, ([], [])) (pinv_zero r h2) ?_ ?_
 · (apply WkF.au; (conv => whnf); ((repeat' first | exact trivial | refine ⟨?_, ?_⟩ | exact rfl | exact oR | exact orB rfl | exact oL) <;> (try conv => whnf) <;> (try first | apply cgB | apply cgI | apply cgS | apply cgR | apply cgD | refine cgL ?_) <;> (try (rw [wrap_i64 (by omega) (by omega)]; first | rfl | omega))))
   all_goals (rw [hpl])
 · intro ⟨i, o⟩ hI
   have hI' := hI
   obtain ⟨h1, h3, h4, _, h5⟩ := hI'
   dsimp only at h1 h3 h4 h5
   refine vc_sound hT hM _ _ _ ?_
   by_cases hlt : i < r.1.length / 2
   · have hnx := pinv_step (o := o) hl hlt hI
     have hto := @to_le r.1.length i h2
     have htg := @to_gt r.1.length i h2 hlt
     have hee := hend i r.1.length hlt (by omega)
     rw [show (if i + 1 < r.1.length / 2 then 2 * ((i : Int) + 1) else (r.1.length : Int)) = (toF r.1.length i : Int) by unfold toF; split <;> simp] at hee
     have hw1 : IntKind.i64.wrap ((toF r.1.length i : Int) - 1) = ((toF r.1.length i - 1 : Nat) : Int) := by rw [wrap_i64 (by omega) (by omega)]; omega
     have hfr := hpg hlt
     have hw2 : IntKind.i64.wrap (2 * (i : Int) - 1) = 2 * (i : Int) - 1 := by rw [wrap_i64 (by omega) (by omega)]
     have hn1 : (2 * (i : Int) - 1).toNat = 2 * i - 1 := by omega
     have hn2 : (2 * (i : Int)).toNat = 2 * i := by omega
     clear hpg hI hend
     (repeat' ((conv => whnf); first | (apply nx; intro s) | (apply rg; intro s k) | ((first | refine cas (fun h => ?_) (fun h => ?_) | refine may (fun h => ?_) ?_) <;> (try simp [-List.getD_eq_getElem?_getD] at h)) | (refine giv fun hg => ?_; (try simp only [byE] at hg)) | (refine need (by simp only [Int.toNat_natCast, hfr, hw1, hw2]; omega) ?_) | (refine need (by simp only [byE, chunk, List.length_cons, List.length_nil]; omega) ?_) | refine need (by first | kernel_rfl | omega | (simp; done) | (simp; omega)) ?_ | (refine call_p (hee) rfl (by (repeat' first | exact trivial | refine ⟨?_, ?_⟩ | exact rfl | exact oR | exact orB rfl | exact oL); (first | done | fail)) ?_) | (refine call_n (r_cloneTr _) rfl (by (repeat' first | exact trivial | refine ⟨?_, ?_⟩ | exact rfl | exact oR | exact orB rfl | exact oL); (first | done | fail)) (by (repeat' first | exact trivial | refine ⟨?_, ?_⟩ | exact rfl | exact oR | exact orB rfl | exact oL); (first | done | fail)) ?_) | (refine call_n (r_cloneIn _) rfl (by (repeat' first | exact trivial | refine ⟨?_, ?_⟩ | exact rfl | exact oR | exact orB rfl | exact oL); (first | done | fail)) (by (repeat' first | exact trivial | refine ⟨?_, ?_⟩ | exact rfl | exact oR | exact orB rfl | exact oL); (first | done | fail)) ?_) | (refine ⟨(i + 1, (o.1 ++ [nodeAt r i], o.2 ++ sepAt r i)), hnx, (by dsimp only; omega), ?_⟩) | ((first | refine fin_au rfl ?_ | apply WkF.au); (conv => whnf); ((repeat' first | exact trivial | refine ⟨?_, ?_⟩ | exact rfl | exact oR | exact orB rfl | exact oL) <;> (try conv => whnf) <;> (try first | apply cgB | apply cgI | apply cgS | apply cgR | apply cgD | refine cgL ?_) <;> (try (rw [wrap_i64 (by omega) (by omega)]; first | rfl | omega)))) | apply altl))
     all_goals dsimp only
     all_goals first
      | (simp only [Int.toNat_natCast, hfr, hw1, hw2, hn1, hn2]; exact snoc_c .tr _ _ rfl)
      | (simp only [Int.toNat_natCast, hfr, hw1, hw2, hn1, hn2]; unfold sepAt; rw [if_neg (by omega)]; exact snoc_c .int _ _ rfl)
      | (unfold sepAt; rw [if_pos (by assumption), List.append_nil]; done)
      | (rw [h5 (by omega)])
   · (repeat' ((conv => whnf); first | (apply nx; intro s) | (apply rg; intro s k) | ((first | refine cas (fun h => ?_) (fun h => ?_) | refine may (fun h => ?_) ?_) <;> (try simp [-List.getD_eq_getElem?_getD] at h)) | (refine giv fun hg => ?_; (try simp only [byE] at hg)) | refine need (by first | kernel_rfl | omega | (simp; done) | (simp; omega)) ?_ | (exfalso; omega) | ((first | refine fin_au rfl ?_ | apply WkF.au); (conv => whnf); ((repeat' first | exact trivial | refine ⟨?_, ?_⟩ | exact rfl | exact oR | exact orB rfl | exact oL) <;> (try conv => whnf) <;> (try first | apply cgB | apply cgI | apply cgS | apply cgR | apply cgD | refine cgL ?_) <;> (try (rw [wrap_i64 (by omega) (by omega)]; first | rfl | omega)))) | apply altl))
     all_goals (dsimp only; rw [h5 (by omega)])
def aF (n i : Nat) : Nat := if i < n / 2 then 2 * i else n
theorem r_l4Pack (r : Rw) (hl : r.1.length = r.2.length + 1) (h2 : 2 ≤ r.1.length) (hb : r.1.length ≤ 1099511627776) : Ret Tryz.prog 153 [rwA r] [] rwR (rwH (packF r)) := by
 refine ret_vc hT hM Tryz.func153 rfl rfl (m := 0) (nx := 0) rfl (Nat.le_of_ble_eq_true rfl) ?_
 (repeat' ((conv => whnf); first | (apply nx; intro s) | (apply rg; intro s k) | ((first | refine cas (fun h => ?_) (fun h => ?_) | refine may (fun h => ?_) ?_) <;> (try simp [-List.getD_eq_getElem?_getD] at h)) | (refine giv fun hg => ?_; (try simp only [byE] at hg)) | refine need (by first | kernel_rfl | omega | (simp; done) | (simp; omega)) ?_ | ((first | refine fin_au rfl ?_ | apply WkF.au); (conv => whnf); ((repeat' first | exact trivial | refine ⟨?_, ?_⟩ | exact rfl | exact oR | exact orB rfl | exact oL) <;> (try conv => whnf) <;> (try first | apply cgB | apply cgI | apply cgS | apply cgR | apply cgD | refine cgL ?_) <;> (try (rw [wrap_i64 (by omega) (by omega)]; first | rfl | omega)))) | apply altl))
 (repeat ((conv => whnf); first | (apply nx; intro s) | (apply rg; intro s k))); (conv => whnf)
 refine Tri.loop (fun q : Nat × Rw => ⟨[(1, .pt 0 0), (2, .pt 1 0), (3, .pt 2 0), (4, aI r.1.length), (5, aI (aF r.1.length q.1))], [(0, .box ([C.sl .tr r.1, .sl .int r.2].map .c)), (1, .box [.nl, .nl]), (2, .box [.rw 3, .rw 4]), (3, .row .tr q.2.1), (4, .row .int q.2.2)], 5⟩) (fun q => PInv r q.1 q.2) (fun q => r.1.length / 2 - q.1) (0, ([], [])) (pinv_zero r h2) ?_ ?_
 · (apply WkF.au; (conv => whnf); ((repeat' first | exact trivial | refine ⟨?_, ?_⟩ | exact rfl | exact oR | exact orB rfl | exact oL) <;> (try conv => whnf) <;> (try first | apply cgB | apply cgI | apply cgS | apply cgR | apply cgD | refine cgL ?_) <;> (try (rw [wrap_i64 (by omega) (by omega)]; first | rfl | omega))))
   all_goals (unfold aF; rw [if_pos (by omega)]; rfl)
 · intro ⟨i, o⟩ hI
   have hI' := hI
   obtain ⟨h1, h3, h4, _, h5⟩ := hI'
   dsimp only at h1 h3 h4 h5
   refine vc_sound hT hM _ _ _ ?_
   by_cases hlt : i < r.1.length / 2
   · have hnx := pinv_step (o := o) hl hlt hI
     have hto := @to_le r.1.length i h2
     have htg := @to_gt r.1.length i h2 hlt
     have haF : aF r.1.length i = 2 * i := by unfold aF; rw [if_pos hlt]
     have haN : aF r.1.length (i + 1) = toF r.1.length i := by unfold aF toF; rfl
     have ht3 : r.1.length = 2 * i + 3 → toF r.1.length i = aF r.1.length i + 3 := fun h => by rw [haF]; unfold toF; split <;> omega
     have ht2 : r.1.length ≠ 2 * i + 3 → toF r.1.length i = aF r.1.length i + 2 := fun h => by rw [haF]; unfold toF; split <;> omega
     generalize aF r.1.length i = ai at *
     have hw1 : IntKind.i64.wrap ((ai : Int) + 2) = ((ai + 2 : Nat) : Int) := by rw [wrap_i64 (by omega) (by omega)]; omega
     have hw3 : IntKind.i64.wrap ((ai : Int) + 3) = ((ai + 3 : Nat) : Int) := by rw [wrap_i64 (by omega) (by omega)]; omega
     have hw2 : IntKind.i64.wrap ((ai : Int) - 1) = (ai : Int) - 1 := by rw [wrap_i64 (by omega) (by omega)]
     have hw4 : IntKind.i64.wrap (((ai + 2 : Nat) : Int) - 1) = ((ai + 1 : Nat) : Int) := by rw [wrap_i64 (by omega) (by omega)]; omega
     have hw5 : IntKind.i64.wrap (((ai + 3 : Nat) : Int) - 1) = ((ai + 2 : Nat) : Int) := by rw [wrap_i64 (by omega) (by omega)]; omega
     have hw6 : IntKind.i64.wrap ((r.1.length : Int) - (ai : Int)) = (r.1.length : Int) - (ai : Int) := by rw [wrap_i64 (by omega) (by omega)]
     have hn1 : ((ai : Int) - 1).toNat = ai - 1 := by omega
     clear hI
     (repeat' ((conv => whnf); first | (apply nx; intro s) | (apply rg; intro s k) | ((first | refine cas (fun h => ?_) (fun h => ?_) | refine may (fun h => ?_) ?_) <;> (try simp [-List.getD_eq_getElem?_getD, hw6] at h)) | (refine giv fun hg => ?_; (try simp only [byE] at hg)) | (refine need (by simp only [Int.toNat_natCast, hw1, hw2, hw3, hw4, hw5]; omega) ?_) | (refine need (by simp only [byE, chunk, List.length_cons, List.length_nil, List.length_take, List.length_drop]; omega) ?_) | refine need (by first | kernel_rfl | omega | (simp; done) | (simp; omega)) ?_ | (refine ⟨(i + 1, (o.1 ++ [nodeAt r i], o.2 ++ sepAt r i)), hnx, (by dsimp only; omega), ?_⟩) | ((first | refine fin_au rfl ?_ | apply WkF.au); (conv => whnf); ((repeat' first | exact trivial | refine ⟨?_, ?_⟩ | exact rfl | exact oR | exact orB rfl | exact oL) <;> (try conv => whnf) <;> (try first | apply cgB | apply cgI | apply cgS | apply cgR | apply cgD | refine cgL ?_) <;> (try (rw [wrap_i64 (by omega) (by omega)]; first | rfl | omega)))) | apply altl))
     all_goals dsimp only
     all_goals first
      | (simp only [Int.toNat_natCast, hw1, hw2, hw3, hw4, hw5, hn1]; unfold nodeAt; rw [← haF]; first | (rw [ht2 (by omega)]; exact snoc_c .tr _ _ rfl) | (rw [ht3 (by omega)]; exact snoc_c .tr _ _ rfl))
      | (simp only [Int.toNat_natCast, hw1, hw2, hw3, hw4, hw5, hn1]; unfold sepAt; rw [if_neg (by omega), ← haF]; exact snoc_c .int _ _ rfl)
      | (unfold sepAt; rw [if_pos (by omega), List.append_nil]; done)
      | (rw [h5 (by omega)]; done)
      | (rw [haN, hw1, ht2 (by omega)]; done)
      | (rw [haN, hw3, ht3 (by omega)]; done)
   · have haF : aF r.1.length i = r.1.length := by unfold aF; rw [if_neg hlt]
     generalize aF r.1.length i = ai at *
     subst haF
     (repeat' ((conv => whnf); first | (apply nx; intro s) | (apply rg; intro s k) | ((first | refine cas (fun h => ?_) (fun h => ?_) | refine may (fun h => ?_) ?_) <;> (try simp [-List.getD_eq_getElem?_getD] at h)) | (refine giv fun hg => ?_; (try simp only [byE] at hg)) | refine need (by first | kernel_rfl | omega | (simp; done) | (simp; omega)) ?_ | (exfalso; omega) | ((first | refine fin_au rfl ?_ | apply WkF.au); (conv => whnf); ((repeat' first | exact trivial | refine ⟨?_, ?_⟩ | exact rfl | exact oR | exact orB rfl | exact oL) <;> (try conv => whnf) <;> (try first | apply cgB | apply cgI | apply cgS | apply cgR | apply cgD | refine cgL ?_) <;> (try (rw [wrap_i64 (by omega) (by omega)]; first | rfl | omega)))) | apply altl))
     all_goals (dsimp only; rw [h5 (by omega)])
end Go.Proofs.YthbpdhppelaihaaGreat
/- Leaves, on either side. Conditions: none. -/
namespace Go.Proofs.YthbpdhppelaihaaGreat
open Go.RowKit
attribute [local irreducible] Tri Weak
set_option maxRecDepth 4000
set_option maxHeartbeats 4000000
theorem r_leaves (ps : List Pr) (hb : ps.length ≤ 1099511627776) : Ret Tryz.prog 166 [aL .pr ps] [] rwR (rwH (leavesF ps)) := by
 by_cases hs : ps.length ≤ 4
 · rw [show leavesF ps = ([lf ps], []) by unfold leavesF; rw [if_pos hs]]
   refine ret_vc hT hM Tryz.func166 rfl rfl (m := 0) (nx := 0) rfl (Nat.le_of_ble_eq_true rfl) ?_
   (repeat' ((conv => whnf); first | (apply nx; intro s) | (apply rg; intro s k) | ((first | refine cas (fun h => ?_) (fun h => ?_) | refine may (fun h => ?_) ?_) <;> (try simp [-List.getD_eq_getElem?_getD] at h)) | (refine giv fun hg => ?_; (try simp only [byE] at hg)) | refine need (by first | kernel_rfl | omega | (simp; done) | (simp; omega)) ?_ | (exfalso; omega) | ((first | refine fin_au rfl ?_ | apply WkF.au); (conv => whnf); ((repeat' first | exact trivial | refine ⟨?_, ?_⟩ | exact rfl | exact oR | exact orB rfl | exact oL) <;> (try conv => whnf) <;> (try first | apply cgB | apply cgI | apply cgS | apply cgR | apply cgD | refine cgL ?_) <;> (try (rw [wrap_i64 (by omega) (by omega)]; first | rfl | omega)))) | apply altl))
 rw [show leavesF ps = leafG ps by unfold leavesF; rw [if_neg hs]]
 have hpl := parts_len (ps.length / 2)
 have hpg := @parts_get (ps.length / 2)
 have hend := r_end (ps.length / 2)
 have hP := r_parts ps.length (by omega) hb
 generalize partsF (ps.length / 2) = L at *
 refine ret_vc hT hM Tryz.func166 rfl rfl (m := 0) (nx := 0) rfl (Nat.le_of_ble_eq_true rfl) ?_
 (repeat' ((conv => whnf); first | (apply nx; intro s) | (apply rg; intro s k) | ((first | refine cas (fun h => ?_) (fun h => ?_) | refine may (fun h => ?_) ?_) <;> (try simp [-List.getD_eq_getElem?_getD] at h)) | (refine giv fun hg => ?_; (try simp only [byE] at hg)) | refine need (by first | kernel_rfl | omega | (simp; done) | (simp; omega)) ?_ | (exfalso; omega) | (refine call_n (hP) rfl ?_ ?_ ?_; iterate 2 (focus (repeat' first | exact trivial | refine ⟨?_, ?_⟩ | exact rfl | exact oR | exact orB rfl | exact oL); (first | done | fail))) | ((first | refine fin_au rfl ?_ | apply WkF.au); (conv => whnf); ((repeat' first | exact trivial | refine ⟨?_, ?_⟩ | exact rfl | exact oR | exact orB rfl | exact oL) <;> (try conv => whnf) <;> (try first | apply cgB | apply cgI | apply cgS | apply cgR | apply cgD | refine cgL ?_) <;> (try (rw [wrap_i64 (by omega) (by omega)]; first | rfl | omega)))) | apply altl))
 (repeat ((conv => whnf); first | (apply nx; intro s) | (apply rg; intro s k))); (conv => whnf)
 refine Tri.loop (fun q : Nat × Rw => ⟨[(0, aL .pr ps), (2, .pt 0 0), (3, .pt 1 0), (4, aL .int L), (18, aL .int L), (19, aI (ps.length / 2 : Nat)), (20, aI q.1)], [(0, .box [.nl, .nl]), (1, .box [.rw 2, .rw 3]), (2, .row .tr q.2.1), (3, .row .int q.2.2)], 4⟩) (fun q => LInv ps q.1 q.2) (fun q => ps.length / 2 - q.1) (0, ([], [])) (linv_zero ps (by omega)) ?_ ?_
 · (apply WkF.au; (conv => whnf); ((repeat' first | exact trivial | refine ⟨?_, ?_⟩ | exact rfl | exact oR | exact orB rfl | exact oL) <;> (try conv => whnf) <;> (try first | apply cgB | apply cgI | apply cgS | apply cgR | apply cgD | refine cgL ?_) <;> (try (rw [wrap_i64 (by omega) (by omega)]; first | rfl | omega))))
   all_goals (rw [hpl])
 · intro ⟨i, o⟩ hI
   have hI' := hI
   obtain ⟨h1, h3, h4, _, h5⟩ := hI'
   dsimp only at h1 h3 h4 h5
   refine vc_sound hT hM _ _ _ ?_
   by_cases hlt : i < ps.length / 2
   · have hnx := linv_step (o := o) hlt hI
     have hto := @to_le ps.length i (by omega)
     have htg := @to_gt ps.length i (by omega) hlt
     have hee := hend i ps.length hlt (by omega)
     rw [show (if i + 1 < ps.length / 2 then 2 * ((i : Int) + 1) else (ps.length : Int)) = (toF ps.length i : Int) by unfold toF; split <;> simp] at hee
     have hfr := hpg hlt
     have hn2 : (2 * (i : Int)).toNat = 2 * i := by omega
     clear hpg hI hend
     (repeat' ((conv => whnf); first | (apply nx; intro s) | (apply rg; intro s k) | ((first | refine cas (fun h => ?_) (fun h => ?_) | refine may (fun h => ?_) ?_) <;> (try simp [-List.getD_eq_getElem?_getD] at h)) | (refine giv fun hg => ?_; (try simp only [byE] at hg)) | (refine need (by simp only [Int.toNat_natCast, hfr]; omega) ?_) | (refine need (by simp only [byE, chunk, List.length_cons, List.length_nil]; omega) ?_) | refine need (by first | kernel_rfl | omega | (simp; done) | (simp; omega)) ?_ | (refine call_p (hee) rfl (by (repeat' first | exact trivial | refine ⟨?_, ?_⟩ | exact rfl | exact oR | exact orB rfl | exact oL); (first | done | fail)) ?_) | (refine call_n (r_clonePr _) rfl (by (repeat' first | exact trivial | refine ⟨?_, ?_⟩ | exact rfl | exact oR | exact orB rfl | exact oL); (first | done | fail)) (by (repeat' first | exact trivial | refine ⟨?_, ?_⟩ | exact rfl | exact oR | exact orB rfl | exact oL); (first | done | fail)) ?_) | (refine ⟨(i + 1, (o.1 ++ [leafAt ps i], o.2 ++ sepL ps i)), hnx, (by dsimp only; omega), ?_⟩) | ((first | refine fin_au rfl ?_ | apply WkF.au); (conv => whnf); ((repeat' first | exact trivial | refine ⟨?_, ?_⟩ | exact rfl | exact oR | exact orB rfl | exact oL) <;> (try conv => whnf) <;> (try first | apply cgB | apply cgI | apply cgS | apply cgR | apply cgD | refine cgL ?_) <;> (try (rw [wrap_i64 (by omega) (by omega)]; first | rfl | omega)))) | apply altl))
     all_goals dsimp only
     all_goals first
      | (simp only [Int.toNat_natCast, hfr, hn2]; exact snoc_c .tr _ _ rfl)
      | (simp only [Int.toNat_natCast, hfr, hn2]; unfold sepL; rw [if_neg (by omega)]; exact snoc_c .int _ _ rfl)
      | (unfold sepL; rw [if_pos (by assumption), List.append_nil]; done)
      | (rw [h5 (by omega)]; done)
   · (repeat' ((conv => whnf); first | (apply nx; intro s) | (apply rg; intro s k) | ((first | refine cas (fun h => ?_) (fun h => ?_) | refine may (fun h => ?_) ?_) <;> (try simp [-List.getD_eq_getElem?_getD] at h)) | (refine giv fun hg => ?_; (try simp only [byE] at hg)) | refine need (by first | kernel_rfl | omega | (simp; done) | (simp; omega)) ?_ | (exfalso; omega) | ((first | refine fin_au rfl ?_ | apply WkF.au); (conv => whnf); ((repeat' first | exact trivial | refine ⟨?_, ?_⟩ | exact rfl | exact oR | exact orB rfl | exact oL) <;> (try conv => whnf) <;> (try first | apply cgB | apply cgI | apply cgS | apply cgR | apply cgD | refine cgL ?_) <;> (try (rw [wrap_i64 (by omega) (by omega)]; first | rfl | omega)))) | apply altl))
     all_goals (dsimp only; rw [h5 (by omega)])
theorem r_l4Leaf (ps : List Pr) (hb : ps.length ≤ 1099511627776) : Ret Tryz.prog 154 [aL .pr ps] [] rwR (rwH (leavesF ps)) := by
 by_cases hs : ps.length ≤ 4
 · rw [show leavesF ps = ([lf ps], []) by unfold leavesF; rw [if_pos hs]]
   refine ret_vc hT hM Tryz.func154 rfl rfl (m := 0) (nx := 0) rfl (Nat.le_of_ble_eq_true rfl) ?_
   (repeat' ((conv => whnf); first | (apply nx; intro s) | (apply rg; intro s k) | ((first | refine cas (fun h => ?_) (fun h => ?_) | refine may (fun h => ?_) ?_) <;> (try simp [-List.getD_eq_getElem?_getD] at h)) | (refine giv fun hg => ?_; (try simp only [byE] at hg)) | refine need (by first | kernel_rfl | omega | (simp; done) | (simp; omega)) ?_ | (exfalso; omega) | ((first | refine fin_au rfl ?_ | apply WkF.au); (conv => whnf); ((repeat' first | exact trivial | refine ⟨?_, ?_⟩ | exact rfl | exact oR | exact orB rfl | exact oL) <;> (try conv => whnf) <;> (try first | apply cgB | apply cgI | apply cgS | apply cgR | apply cgD | refine cgL ?_) <;> (try (rw [wrap_i64 (by omega) (by omega)]; first | rfl | omega)))) | apply altl))
 rw [show leavesF ps = leafG ps by unfold leavesF; rw [if_neg hs]]
 refine ret_vc hT hM Tryz.func154 rfl rfl (m := 0) (nx := 0) rfl (Nat.le_of_ble_eq_true rfl) ?_
 (repeat' ((conv => whnf); first | (apply nx; intro s) | (apply rg; intro s k) | ((first | refine cas (fun h => ?_) (fun h => ?_) | refine may (fun h => ?_) ?_) <;> (try simp [-List.getD_eq_getElem?_getD] at h)) | (refine giv fun hg => ?_; (try simp only [byE] at hg)) | refine need (by first | kernel_rfl | omega | (simp; done) | (simp; omega)) ?_ | (exfalso; omega) | ((first | refine fin_au rfl ?_ | apply WkF.au); (conv => whnf); ((repeat' first | exact trivial | refine ⟨?_, ?_⟩ | exact rfl | exact oR | exact orB rfl | exact oL) <;> (try conv => whnf) <;> (try first | apply cgB | apply cgI | apply cgS | apply cgR | apply cgD | refine cgL ?_) <;> (try (rw [wrap_i64 (by omega) (by omega)]; first | rfl | omega)))) | apply altl))
 (repeat ((conv => whnf); first | (apply nx; intro s) | (apply rg; intro s k))); (conv => whnf)
 refine Tri.loop (fun q : Nat × Rw => ⟨[(0, aL .pr ps), (2, .pt 0 0), (3, aI ps.length), (4, .pt 1 0), (5, aI (aF ps.length q.1))], [(0, .box [.nl, .nl]), (1, .box [.rw 2, .rw 3]), (2, .row .tr q.2.1), (3, .row .int q.2.2)], 4⟩) (fun q => LInv ps q.1 q.2) (fun q => ps.length / 2 - q.1) (0, ([], [])) (linv_zero ps (by omega)) ?_ ?_
 · (apply WkF.au; (conv => whnf); ((repeat' first | exact trivial | refine ⟨?_, ?_⟩ | exact rfl | exact oR | exact orB rfl | exact oL) <;> (try conv => whnf) <;> (try first | apply cgB | apply cgI | apply cgS | apply cgR | apply cgD | refine cgL ?_) <;> (try (rw [wrap_i64 (by omega) (by omega)]; first | rfl | omega))))
   all_goals (unfold aF; rw [if_pos (by omega)]; rfl)
 · intro ⟨i, o⟩ hI
   have hI' := hI
   obtain ⟨h1, h3, h4, _, h5⟩ := hI'
   dsimp only at h1 h3 h4 h5
   refine vc_sound hT hM _ _ _ ?_
   by_cases hlt : i < ps.length / 2
   · have hnx := linv_step (o := o) hlt hI
     have hto := @to_le ps.length i (by omega)
     have htg := @to_gt ps.length i (by omega) hlt
     have haF : aF ps.length i = 2 * i := by unfold aF; rw [if_pos hlt]
     have haN : aF ps.length (i + 1) = toF ps.length i := by unfold aF toF; rfl
     have ht3 : ps.length = 2 * i + 3 → toF ps.length i = aF ps.length i + 3 := fun h => by rw [haF]; unfold toF; split <;> omega
     have ht2 : ps.length ≠ 2 * i + 3 → toF ps.length i = aF ps.length i + 2 := fun h => by rw [haF]; unfold toF; split <;> omega
     generalize aF ps.length i = ai at *
     have hw1 : IntKind.i64.wrap ((ai : Int) + 2) = ((ai + 2 : Nat) : Int) := by rw [wrap_i64 (by omega) (by omega)]; omega
     have hw3 : IntKind.i64.wrap ((ai : Int) + 3) = ((ai + 3 : Nat) : Int) := by rw [wrap_i64 (by omega) (by omega)]; omega
     have hw6 : IntKind.i64.wrap ((ps.length : Int) - (ai : Int)) = (ps.length : Int) - (ai : Int) := by rw [wrap_i64 (by omega) (by omega)]
     clear hI
     (repeat' ((conv => whnf); first | (apply nx; intro s) | (apply rg; intro s k) | ((first | refine cas (fun h => ?_) (fun h => ?_) | refine may (fun h => ?_) ?_) <;> (try simp [-List.getD_eq_getElem?_getD, hw6] at h)) | (refine giv fun hg => ?_; (try simp only [byE] at hg)) | (refine need (by simp only [Int.toNat_natCast, hw1, hw3]; omega) ?_) | (refine need (by simp only [byE, chunk, List.length_cons, List.length_nil, List.length_take, List.length_drop]; omega) ?_) | refine need (by first | kernel_rfl | omega | (simp; done) | (simp; omega)) ?_ | (refine ⟨(i + 1, (o.1 ++ [leafAt ps i], o.2 ++ sepL ps i)), hnx, (by dsimp only; omega), ?_⟩) | ((first | refine fin_au rfl ?_ | apply WkF.au); (conv => whnf); ((repeat' first | exact trivial | refine ⟨?_, ?_⟩ | exact rfl | exact oR | exact orB rfl | exact oL) <;> (try conv => whnf) <;> (try first | apply cgB | apply cgI | apply cgS | apply cgR | apply cgD | refine cgL ?_) <;> (try (rw [wrap_i64 (by omega) (by omega)]; first | rfl | omega)))) | apply altl))
     all_goals dsimp only
     all_goals first
      | (simp only [Int.toNat_natCast, hw1, hw3]; unfold leafAt; rw [← haF]; first | (rw [ht2 (by omega)]; exact snoc_c .tr _ _ rfl) | (rw [ht3 (by omega)]; exact snoc_c .tr _ _ rfl))
      | (simp only [Int.toNat_natCast, hw1, hw3]; unfold sepL; rw [if_neg (by omega), ← haF]; exact snoc_c .int _ _ rfl)
      | (unfold sepL; rw [if_pos (by omega), List.append_nil]; done)
      | (rw [h5 (by omega)]; done)
      | (rw [haN, hw1, ht2 (by omega)]; done)
      | (rw [haN, hw3, ht3 (by omega)]; done)
   · have haF : aF ps.length i = ps.length := by unfold aF; rw [if_neg hlt]
     generalize aF ps.length i = ai at *
     subst haF
     (repeat' ((conv => whnf); first | (apply nx; intro s) | (apply rg; intro s k) | ((first | refine cas (fun h => ?_) (fun h => ?_) | refine may (fun h => ?_) ?_) <;> (try simp [-List.getD_eq_getElem?_getD] at h)) | (refine giv fun hg => ?_; (try simp only [byE] at hg)) | refine need (by first | kernel_rfl | omega | (simp; done) | (simp; omega)) ?_ | (exfalso; omega) | ((first | refine fin_au rfl ?_ | apply WkF.au); (conv => whnf); ((repeat' first | exact trivial | refine ⟨?_, ?_⟩ | exact rfl | exact oR | exact orB rfl | exact oL) <;> (try conv => whnf) <;> (try first | apply cgB | apply cgI | apply cgS | apply cgR | apply cgD | refine cgL ?_) <;> (try (rw [wrap_i64 (by omega) (by omega)]; first | rfl | omega)))) | apply altl))
     all_goals (dsimp only; rw [h5 (by omega)])
end Go.Proofs.YthbpdhppelaihaaGreat
/- All messages given down, on either side, kids being given as they should. Conditions: none. -/
namespace Go.Proofs.YthbpdhppelaihaaGreat
open Go.RowKit
attribute [local irreducible] Tri Weak
set_option maxRecDepth 4000
set_option maxHeartbeats 4000000
def GiveR (K : Nat) (d : Nat) : Prop := ∀ lo hi t ms, Inv d lo hi t → (∀ m ∈ ms, MsP lo hi m) → phi t + 3 * ms.length ≤ 68719476736 → Ret Tryz.prog K [agE .tr t, aL .ms ms] [] rwR (rwH (giveF d t ms))
def DownR (K : Nat) (d : Nat) : Prop := ∀ lo hi (r : Rw) ms, RowI (Inv d) lo hi r.1 r.2 → (∀ m ∈ ms, MsP lo hi m) → phiL r.1 + 3 * ms.length ≤ 68719476736 → Ret Tryz.prog K [rwA r, aL .ms ms] [] rwR (rwH (downF (giveF d) r ms))
theorem kidX_pos {g : Tr → List Ms → Rw} {l : List Ms} {k : Tr} (h : 0 < l.length) : kidX g l k = g k l := by
 unfold kidX; rw [if_neg (by intro e; simp [e] at h)]
theorem kidX_zero {g : Tr → List Ms → Rw} {l : List Ms} {k : Tr} (h : l = []) : kidX g l k = ([k], []) := by
 unfold kidX; rw [if_pos h]
theorem r_down {d : Nat} (hG : GiveR 85 d) : DownR 176 d := by
 intro lo hi r ms hr hm hb
 have hl := row_len hr
 have hph := row_phi hr
 have hok := down_ok (give_ok d) hr hm
 have hrp := row_phi hok.1
 have hrl := row_len hok.1
 rw [show downF (giveF d) r ms = jG (fun i k => kidX (giveF d) (ofKidF r.2 ms i) k) 0 r.1 r.2 from down_jG _ _ _ _ _ _] at *
 refine ret_vc hT hM Tryz.func176 rfl rfl (m := 0) (nx := 0) rfl (Nat.le_of_ble_eq_true rfl) ?_
 (repeat' ((conv => whnf); first | (apply nx; intro s) | (apply rg; intro s k) | ((first | refine cas (fun h => ?_) (fun h => ?_) | refine may (fun h => ?_) ?_) <;> (try simp [-List.getD_eq_getElem?_getD] at h)) | (refine giv fun hg => ?_; (try simp only [byE] at hg)) | refine need (by first | kernel_rfl | omega | (simp; done) | (simp; omega)) ?_ | ((first | refine fin_au rfl ?_ | apply WkF.au); (conv => whnf); ((repeat' first | exact trivial | refine ⟨?_, ?_⟩ | exact rfl | exact oR | exact orB rfl | exact oL) <;> (try conv => whnf) <;> (try first | apply cgB | apply cgI | apply cgS | apply cgR | apply cgD | refine cgL ?_) <;> (try (rw [wrap_i64 (by omega) (by omega)]; first | rfl | omega)))) | apply altl))
 (repeat ((conv => whnf); first | (apply nx; intro s) | (apply rg; intro s k))); (conv => whnf)
 refine Tri.loop (fun q : Nat × Rw => ⟨[(1, aL .ms ms), (2, .pt 0 0), (4, .pt 1 0), (5, .pt 2 0), (12, aL .tr r.1), (13, aI r.1.length), (14, aI q.1)], [(0, .box ([C.sl .tr r.1, .sl .int r.2].map .c)), (1, .box [.nl, .nl]), (2, .box [.rw 3, .rw 4]), (3, .row .tr q.2.1), (4, .row .int q.2.2)], 5⟩) (fun q => JInv (fun i k => kidX (giveF d) (ofKidF r.2 ms i) k) r q.1 q.2) (fun q => r.1.length - q.1) (0, ([], [])) (jinv_zero _ r (by omega)) ?_ ?_
 · (apply WkF.au; (conv => whnf); ((repeat' first | exact trivial | refine ⟨?_, ?_⟩ | exact rfl | exact oR | exact orB rfl | exact oL) <;> (try conv => whnf) <;> (try first | apply cgB | apply cgI | apply cgS | apply cgR | apply cgD | refine cgL ?_) <;> (try (rw [wrap_i64 (by omega) (by omega)]; first | rfl | omega))))
 · intro ⟨i, o⟩ hI
   have hI' := hI
   obtain ⟨h1, _, h5⟩ := hI'
   dsimp only at h1 h5
   have hjl := jinv_len hI
   dsimp only at hjl
   refine vc_sound hT hM _ _ _ ?_
   by_cases hlt : i < r.1.length
   · obtain ⟨a, b, hk1, hk2, hk3⟩ := row_get hr hm hlt
     have hnx := jinv_step (o := o) hl hlt hI
     have hnl := jinv_len hnx
     have hgv := hG a b _ _ hk1 hk2 (by omega)
     have hok2 := give_ok d a b _ _ hk1 hk2
     have hxl := row_len hok2.1
     have hxp := row_phi hok2.1
     have hw2 : IntKind.i64.wrap ((i : Int) - 1) = (i : Int) - 1 := by rw [wrap_i64 (by omega) (by omega)]
     have hn1 : ((i : Int) - 1).toNat = i - 1 := by omega
     clear hI
     (repeat' ((conv => whnf); first | (apply nx; intro s) | (apply rg; intro s k) | ((first | refine cas (fun h => ?_) (fun h => ?_) | refine may (fun h => ?_) ?_) <;> (try simp [-List.getD_eq_getElem?_getD] at h)) | (refine giv fun hg => ?_; (try simp only [byE] at hg)) | (refine need (by simp only [hw2]; omega) ?_) | (refine need (by simp only [byE, chunk, List.length_append, List.length_cons, List.length_nil]; omega) ?_) | refine need (by first | kernel_rfl | omega | (simp; done) | (simp; omega)) ?_ | (refine call_n (r_ofKid r.2 ms i (by omega)) rfl ?_ ?_ ?_; iterate 2 (focus (repeat' first | exact trivial | refine ⟨?_, ?_⟩ | exact rfl | exact oR | exact orB rfl | exact oL); (first | done | fail))) | (refine call_f (hgv) ?_ ?_ ?_ ?_; iterate 3 (focus (repeat' first | exact trivial | refine ⟨?_, ?_⟩ | exact rfl | exact oR | exact orB rfl | exact oL); (first | done | fail))) | (refine ⟨(i + 1, _), hnx, (by dsimp only; omega), ?_⟩) | ((first | refine fin_au rfl ?_ | apply WkF.au); (conv => whnf); ((repeat' first | exact trivial | refine ⟨?_, ?_⟩ | exact rfl | exact oR | exact orB rfl | exact oL) <;> (try conv => whnf) <;> (try first | apply cgB | apply cgI | apply cgS | apply cgR | apply cgD | refine cgL ?_) <;> (try (rw [wrap_i64 (by omega) (by omega)]; first | rfl | omega)))) | apply altl))
     all_goals dsimp only
     all_goals first
      | (rw [h5 (by omega)]; done)
      | (rw [kidX_pos (by assumption)]; done)
      | (rw [kidX_zero (by assumption)]; simp only [Int.toNat_natCast]; exact snoc_c .tr _ _ rfl)
      | (rw [kidX_pos (by assumption)]; unfold sepD; rw [if_neg (by omega)]; simp only [hw2, hn1]; rfl)
      | (rw [kidX_zero (by assumption)]; unfold sepD; rw [if_neg (by omega)]; simp only [hw2, hn1]; rfl)
      | (rw [kidX_pos (by assumption)]; unfold sepD; rw [if_pos (by assumption), List.append_nil]; done)
      | (rw [kidX_zero (by assumption)]; unfold sepD; rw [if_pos (by assumption), List.append_nil, List.append_nil]; done)
   · (repeat' ((conv => whnf); first | (apply nx; intro s) | (apply rg; intro s k) | ((first | refine cas (fun h => ?_) (fun h => ?_) | refine may (fun h => ?_) ?_) <;> (try simp [-List.getD_eq_getElem?_getD] at h)) | (refine giv fun hg => ?_; (try simp only [byE] at hg)) | refine need (by first | kernel_rfl | omega | (simp; done) | (simp; omega)) ?_ | (exfalso; omega) | ((first | refine fin_au rfl ?_ | apply WkF.au); (conv => whnf); ((repeat' first | exact trivial | refine ⟨?_, ?_⟩ | exact rfl | exact oR | exact orB rfl | exact oL) <;> (try conv => whnf) <;> (try first | apply cgB | apply cgI | apply cgS | apply cgR | apply cgD | refine cgL ?_) <;> (try (rw [wrap_i64 (by omega) (by omega)]; first | rfl | omega)))) | apply altl))
     all_goals (dsimp only; rw [h5 (by omega)])
theorem r_l4Down {d : Nat} (hG : GiveR 77 d) : DownR 160 d := by
 intro lo hi r ms hr hm hb
 have hl := row_len hr
 have hph := row_phi hr
 have hok := down_ok (give_ok d) hr hm
 have hrp := row_phi hok.1
 have hrl := row_len hok.1
 have hst := row_srt hr
 rw [show downF (giveF d) r ms = jG (fun i k => kidX (giveF d) (ofKidF r.2 ms i) k) 0 r.1 r.2 from down_jG _ _ _ _ _ _] at *
 refine ret_vc hT hM Tryz.func160 rfl rfl (m := 0) (nx := 0) rfl (Nat.le_of_ble_eq_true rfl) ?_
 (repeat' ((conv => whnf); first | (apply nx; intro s) | (apply rg; intro s k) | ((first | refine cas (fun h => ?_) (fun h => ?_) | refine may (fun h => ?_) ?_) <;> (try simp [-List.getD_eq_getElem?_getD] at h)) | (refine giv fun hg => ?_; (try simp only [byE] at hg)) | refine need (by first | kernel_rfl | omega | (simp; done) | (simp; omega)) ?_ | ((first | refine fin_au rfl ?_ | apply WkF.au); (conv => whnf); ((repeat' first | exact trivial | refine ⟨?_, ?_⟩ | exact rfl | exact oR | exact orB rfl | exact oL) <;> (try conv => whnf) <;> (try first | apply cgB | apply cgI | apply cgS | apply cgR | apply cgD | refine cgL ?_) <;> (try (rw [wrap_i64 (by omega) (by omega)]; first | rfl | omega)))) | apply altl))
 (repeat ((conv => whnf); first | (apply nx; intro s) | (apply rg; intro s k))); (conv => whnf)
 refine Tri.loop (fun q : Nat × Rw => ⟨[(1, aL .ms ms), (2, .pt 0 0), (4, .pt 1 0), (5, .pt 2 0), (6, aI q.1)], [(0, .box ([C.sl .tr r.1, .sl .int r.2].map .c)), (1, .box [.nl, .nl]), (2, .box [.rw 3, .rw 4]), (3, .row .tr q.2.1), (4, .row .int q.2.2)], 5⟩) (fun q => JInv (fun i k => kidX (giveF d) (ofKidF r.2 ms i) k) r q.1 q.2) (fun q => r.1.length - q.1) (0, ([], [])) (jinv_zero _ r (by omega)) ?_ ?_
 · (apply WkF.au; (conv => whnf); ((repeat' first | exact trivial | refine ⟨?_, ?_⟩ | exact rfl | exact oR | exact orB rfl | exact oL) <;> (try conv => whnf) <;> (try first | apply cgB | apply cgI | apply cgS | apply cgR | apply cgD | refine cgL ?_) <;> (try (rw [wrap_i64 (by omega) (by omega)]; first | rfl | omega))))
 · intro ⟨i, o⟩ hI
   have hI' := hI
   obtain ⟨h1, _, h5⟩ := hI'
   dsimp only at h1 h5
   have hjl := jinv_len hI
   dsimp only at hjl
   refine vc_sound hT hM _ _ _ ?_
   by_cases hlt : i < r.1.length
   · obtain ⟨a, b, hk1, hk2, hk3⟩ := row_get hr hm hlt
     have hnx := jinv_step (o := o) hl hlt hI
     have hnl := jinv_len hnx
     have hgv := hG a b _ _ hk1 hk2 (by omega)
     have hok2 := give_ok d a b _ _ hk1 hk2
     have hxl := row_len hok2.1
     have hxp := row_phi hok2.1
     have hw2 : IntKind.i64.wrap ((i : Int) - 1) = (i : Int) - 1 := by rw [wrap_i64 (by omega) (by omega)]
     have hn1 : ((i : Int) - 1).toNat = i - 1 := by omega
     clear hI
     (repeat' ((conv => whnf); first | (apply nx; intro s) | (apply rg; intro s k) | ((first | refine cas (fun h => ?_) (fun h => ?_) | refine may (fun h => ?_) ?_) <;> (try simp [-List.getD_eq_getElem?_getD] at h)) | (refine giv fun hg => ?_; (try simp only [byE] at hg)) | (refine need (by simp only [hw2]; omega) ?_) | (refine need (by simp only [byE, chunk, List.length_append, List.length_cons, List.length_nil]; omega) ?_) | refine need (by first | kernel_rfl | omega | (simp; done) | (simp; omega)) ?_ | (refine call_n (r_l4Split r ms i hst (by omega)) rfl ?_ ?_ ?_; iterate 2 (focus (repeat' first | exact trivial | refine ⟨?_, ?_⟩ | exact rfl | exact oR | exact orB rfl | exact oL); (first | done | fail))) | (refine call_f (hgv) ?_ ?_ ?_ ?_; iterate 3 (focus (repeat' first | exact trivial | refine ⟨?_, ?_⟩ | exact rfl | exact oR | exact orB rfl | exact oL); (first | done | fail))) | (refine ⟨(i + 1, _), hnx, (by dsimp only; omega), ?_⟩) | ((first | refine fin_au rfl ?_ | apply WkF.au); (conv => whnf); ((repeat' first | exact trivial | refine ⟨?_, ?_⟩ | exact rfl | exact oR | exact orB rfl | exact oL) <;> (try conv => whnf) <;> (try first | apply cgB | apply cgI | apply cgS | apply cgR | apply cgD | refine cgL ?_) <;> (try (rw [wrap_i64 (by omega) (by omega)]; first | rfl | omega)))) | apply altl))
     all_goals dsimp only
     all_goals first
      | (rw [h5 (by omega)]; done)
      | (rw [kidX_pos (by assumption)]; done)
      | (rw [kidX_zero (by assumption)]; simp only [Int.toNat_natCast]; exact snoc_c .tr _ _ rfl)
      | (rw [kidX_pos (by assumption)]; unfold sepD; rw [if_neg (by omega)]; simp only [hw2, hn1]; rfl)
      | (rw [kidX_zero (by assumption)]; unfold sepD; rw [if_neg (by omega)]; simp only [hw2, hn1]; rfl)
      | (rw [kidX_pos (by assumption)]; unfold sepD; rw [if_pos (by assumption), List.append_nil]; done)
      | (rw [kidX_zero (by assumption)]; unfold sepD; rw [if_pos (by assumption), List.append_nil, List.append_nil]; done)
      | (rw [wrap_i64 (by omega) (by omega)]; omega)
   · (repeat' ((conv => whnf); first | (apply nx; intro s) | (apply rg; intro s k) | ((first | refine cas (fun h => ?_) (fun h => ?_) | refine may (fun h => ?_) ?_) <;> (try simp [-List.getD_eq_getElem?_getD] at h)) | (refine giv fun hg => ?_; (try simp only [byE] at hg)) | refine need (by first | kernel_rfl | omega | (simp; done) | (simp; omega)) ?_ | (exfalso; omega) | ((first | refine fin_au rfl ?_ | apply WkF.au); (conv => whnf); ((repeat' first | exact trivial | refine ⟨?_, ?_⟩ | exact rfl | exact oR | exact orB rfl | exact oL) <;> (try conv => whnf) <;> (try first | apply cgB | apply cgI | apply cgS | apply cgR | apply cgD | refine cgL ?_) <;> (try (rw [wrap_i64 (by omega) (by omega)]; first | rfl | omega)))) | apply altl))
     all_goals (dsimp only; rw [h5 (by omega)])
end Go.Proofs.YthbpdhppelaihaaGreat
/- Messages given to a tree, on either side, by depth. Conditions: none. -/
namespace Go.Proofs.YthbpdhppelaihaaGreat
open Go.RowKit
attribute [local irreducible] Tri Weak
set_option maxRecDepth 4000
set_option maxHeartbeats 4000000
theorem r_give0 : GiveR 85 0 := by
 intro lo hi t ms ⟨h1, h2, h3, h4, h5, h6, h7⟩ hm hb
 have hp := phi_leaf h1
 have hal := all_len ms t.pairs
 obtain ⟨tl, tp, tc, tk, tb⟩ := t
 dsimp only at h1 h2 h3 h4 h5 h6 h7 hp hal
 subst h1 h5 h6 h7
 show Ret _ _ _ _ _ (rwH (leavesF (allF tp ms)))
 refine ret_vc hT hM Tryz.func85 rfl rfl (m := 0) (nx := 0) rfl (Nat.le_of_ble_eq_true rfl) ?_
 (repeat' ((conv => whnf); first | (apply nx; intro s) | (apply rg; intro s k) | ((first | refine cas (fun h => ?_) (fun h => ?_) | refine may (fun h => ?_) ?_) <;> (try simp [-List.getD_eq_getElem?_getD] at h)) | (refine giv fun hg => ?_; (try simp only [byE] at hg)) | refine need (by first | kernel_rfl | omega | (simp; done) | (simp; omega)) ?_ | (refine call_f (r_implMapAll tp ms h2 (by omega)) ?_ ?_ ?_ ?_; iterate 3 (focus (repeat' first | exact trivial | refine ⟨?_, ?_⟩ | exact rfl | exact oR | exact orB rfl | exact oL); (first | done | fail))) | (refine call_f (r_leaves (allF tp ms) (by omega)) ?_ ?_ ?_ ?_; iterate 3 (focus (repeat' first | exact trivial | refine ⟨?_, ?_⟩ | exact rfl | exact oR | exact orB rfl | exact oL); (first | done | fail))) | ((first | refine fin_au rfl ?_ | apply WkF.au); (conv => whnf); ((repeat' first | exact trivial | refine ⟨?_, ?_⟩ | exact rfl | exact oR | exact orB rfl | exact oL) <;> (try conv => whnf) <;> (try first | apply cgB | apply cgI | apply cgS | apply cgR | apply cgD | refine cgL ?_) <;> (try (rw [wrap_i64 (by omega) (by omega)]; first | rfl | omega)))) | apply altl))
theorem r_l4Give0 : GiveR 77 0 := by
 intro lo hi t ms ⟨h1, h2, h3, h4, h5, h6, h7⟩ hm hb
 have hp := phi_leaf h1
 have hal := all_len ms t.pairs
 obtain ⟨tl, tp, tc, tk, tb⟩ := t
 dsimp only at h1 h2 h3 h4 h5 h6 h7 hp hal
 subst h1 h5 h6 h7
 show Ret _ _ _ _ _ (rwH (leavesF (allF tp ms)))
 refine ret_vc hT hM Tryz.func77 rfl rfl (m := 0) (nx := 0) rfl (Nat.le_of_ble_eq_true rfl) ?_
 (repeat' ((conv => whnf); first | (apply nx; intro s) | (apply rg; intro s k) | ((first | refine cas (fun h => ?_) (fun h => ?_) | refine may (fun h => ?_) ?_) <;> (try simp [-List.getD_eq_getElem?_getD] at h)) | (refine giv fun hg => ?_; (try simp only [byE] at hg)) | refine need (by first | kernel_rfl | omega | (simp; done) | (simp; omega)) ?_ | (refine call_f (r_specMapAll tp ms h2 (by omega)) ?_ ?_ ?_ ?_; iterate 3 (focus (repeat' first | exact trivial | refine ⟨?_, ?_⟩ | exact rfl | exact oR | exact orB rfl | exact oL); (first | done | fail))) | (refine call_f (r_l4Leaf (allF tp ms) (by omega)) ?_ ?_ ?_ ?_; iterate 3 (focus (repeat' first | exact trivial | refine ⟨?_, ?_⟩ | exact rfl | exact oR | exact orB rfl | exact oL); (first | done | fail))) | ((first | refine fin_au rfl ?_ | apply WkF.au); (conv => whnf); ((repeat' first | exact trivial | refine ⟨?_, ?_⟩ | exact rfl | exact oR | exact orB rfl | exact oL) <;> (try conv => whnf) <;> (try first | apply cgB | apply cgI | apply cgS | apply cgR | apply cgD | refine cgL ?_) <;> (try (rw [wrap_i64 (by omega) (by omega)]; first | rfl | omega)))) | apply altl))
def FInv (d : Nat) (lo hi : Int) (N : Nat) (fin : Rw × List Ms) (s : Rw × List Ms) : Prop := SOk d lo hi s ∧ phiS s ≤ N ∧ flush (giveF d) s = fin
theorem finv_next {d : Nat} {lo hi : Int} {N : Nat} {fin s : Rw × List Ms} (h : FInv d lo hi N fin s) (hl : 6 < s.2.length) : FInv d lo hi N fin (nextS (giveF d) s) := by
 obtain ⟨h1, h2, h3⟩ := h
 obtain ⟨h4, h5, h6⟩ := next_ok (give_ok d) h1 hl
 exact ⟨h4, Nat.le_trans h5 h2, by rw [← flush_step (give_ok d) h1 hl]; exact h3⟩
theorem r_give {d : Nat} (hG : GiveR 85 d) : GiveR 85 (d + 1) := by
 have hD := r_down hG
 intro lo hi t ms ⟨h1, h2, h3, h4⟩ hm hb
 have hp := phi_node h1
 obtain ⟨tl, tp, tc, tk, tb⟩ := t
 dsimp only at h1 h2 h3 h4 hp
 subst h1 h2
 show Ret _ _ _ _ _ (rwH (wrapUp (giveF d) (flush (giveF d) ((tk, tc), shrinkF (tb ++ ms)))))
 have hall : ∀ m ∈ tb ++ ms, MsP lo hi m := fun m hm' => (List.mem_append.1 hm').elim (h4 m) (hm m)
 have hsl := shrink_len (tb ++ ms)
 simp only [List.length_append] at hsl
 have hin : FInv d lo hi 68719476736 (flush (giveF d) ((tk, tc), shrinkF (tb ++ ms))) ((tk, tc), shrinkF (tb ++ ms)) := ⟨⟨h3, shrink_ok hall⟩, by unfold phiS; dsimp only; omega, rfl⟩
 have hrp := row_phi h3
 generalize flush (giveF d) ((tk, tc), shrinkF (tb ++ ms)) = fin at *
 have hcm := r_concatMs [tb, ms] (by simp; omega)
 rw [show [tb, ms].flatten = tb ++ ms by simp] at hcm
 refine ret_vc hT hM Tryz.func85 rfl rfl (m := 0) (nx := 0) rfl (Nat.le_of_ble_eq_true rfl) ?_
 (repeat' ((conv => whnf); first | (apply nx; intro s) | (apply rg; intro s k) | ((first | refine cas (fun h => ?_) (fun h => ?_) | refine may (fun h => ?_) ?_) <;> (try simp [-List.getD_eq_getElem?_getD] at h)) | (refine giv fun hg => ?_; (try simp only [byE] at hg)) | refine need (by first | kernel_rfl | omega | (simp; done) | (simp; omega)) ?_ | (refine call_n (r_cloneTr tk) rfl ?_ ?_ ?_; iterate 2 (focus (repeat' first | exact trivial | refine ⟨?_, ?_⟩ | exact rfl | exact oR | exact orB rfl | exact oL); (first | done | fail))) | (refine call_n (r_cloneIn tc) rfl ?_ ?_ ?_; iterate 2 (focus (repeat' first | exact trivial | refine ⟨?_, ?_⟩ | exact rfl | exact oR | exact orB rfl | exact oL); (first | done | fail))) | (refine call_f (hcm) ?_ ?_ ?_ ?_; iterate 3 (focus (repeat' first | exact trivial | refine ⟨?_, ?_⟩ | exact rfl | exact oR | exact orB rfl | exact oL); (first | done | fail))) | (refine call_f (r_implShrink (tb ++ ms) (by simp; omega)) ?_ ?_ ?_ ?_; iterate 3 (focus (repeat' first | exact trivial | refine ⟨?_, ?_⟩ | exact rfl | exact oR | exact orB rfl | exact oL); (first | done | fail))) | ((first | refine fin_au rfl ?_ | apply WkF.au); (conv => whnf); ((repeat' first | exact trivial | refine ⟨?_, ?_⟩ | exact rfl | exact oR | exact orB rfl | exact oL) <;> (try conv => whnf) <;> (try first | apply cgB | apply cgI | apply cgS | apply cgR | apply cgD | refine cgL ?_) <;> (try (rw [wrap_i64 (by omega) (by omega)]; first | rfl | omega)))) | apply altl))
 (repeat ((conv => whnf); first | (apply nx; intro s) | (apply rg; intro s k))); (conv => whnf)
 refine Tri.loop (fun s : Rw × List Ms => ⟨[(2, .pt 0 0), (4, .pt 1 0), (5, .pt 2 0), (6, .rw 3)], [(0, .box [.c (.bool false), .c (.sl .pr []), aL .int tc, aL .tr tk, aL .ms tb]), (1, .box [.nl, .nl]), (2, .box [aL .tr s.1.1, aL .int s.1.2]), (3, .row .ms s.2)], 4⟩) (fun s => FInv d lo hi 68719476736 fin s) (fun s => s.2.length) _ hin ?_ ?_
 · (apply WkF.au; (conv => whnf); ((repeat' first | exact trivial | refine ⟨?_, ?_⟩ | exact rfl | exact oR | exact orB rfl | exact oL) <;> (try conv => whnf) <;> (try first | apply cgB | apply cgI | apply cgS | apply cgR | apply cgD | refine cgL ?_) <;> (try (rw [wrap_i64 (by omega) (by omega)]; first | rfl | omega))))
 · intro ⟨r, buf⟩ hI
   obtain ⟨hI1, hI2, hI3⟩ := id hI
   have hl := row_len hI1.1
   have hrp := row_phi hI1.1
   unfold phiS at hI2
   dsimp only at hI1 hI2 hI3 hl hrp
   refine vc_sound hT hM _ _ _ ?_
   by_cases hlt : 6 < buf.length
   · have hnx : FInv d lo hi 68719476736 fin (nextS (giveF d) (r, buf)) := finv_next hI hlt
     have hdec : (nextS (giveF d) (r, buf)).2.length < buf.length := (next_ok (give_ok d) hI1 hlt).2.2
     have hfi : fullF r.1.length r.2 buf < r.1.length := full_lt (by omega)
     have hfu := r_fullest r buf (by omega)
     simp only [nextS] at hnx hdec
     generalize fullF r.1.length r.2 buf = i at *
     obtain ⟨a, b, hk1, hk2, hk3⟩ := row_get (r := r) (ms := buf) (i := i) hI1.1 hI1.2 hfi
     have hok2 := give_ok d a b _ _ hk1 hk2
     have hxl := row_len hok2.1
     have hxp := row_phi hok2.1
     have hgv := hG a b _ _ hk1 hk2 (by omega)
     have hde := del_give1 (isKid r.2 i) r.2 i (r_give1 r.2 i) buf
     have hof := r_ofKid r.2 buf i (by omega)
     have hpu := r_put r i (giveF d (r.1.getD i (dflt .tr)) (ofKidF r.2 buf i)) hfi (by omega) (by omega) (by omega)
     generalize giveF d (r.1.getD i (dflt .tr)) (ofKidF r.2 buf i) = x at *
     clear hI hI1 hok2 hk1 hk2
     (repeat' ((conv => whnf); first | (apply nx; intro s) | (apply rg; intro s k) | ((first | refine cas (fun h => ?_) (fun h => ?_) | refine may (fun h => ?_) ?_) <;> (try simp [-List.getD_eq_getElem?_getD] at h)) | (refine giv fun hg => ?_; (try simp only [byE] at hg)) | refine need (by first | kernel_rfl | omega | (simp; done) | (simp; omega)) ?_ | (exfalso; omega) | (refine call_b (hfu) ?_ ?_ ?_ ?_ ?_ ?_; iterate 5 (focus (repeat' first | exact trivial | refine ⟨?_, ?_⟩ | exact rfl | exact oR | exact orB rfl | exact oL); (first | done | fail))) | (refine call_b (hof) ?_ ?_ ?_ ?_ ?_ ?_; iterate 5 (focus (repeat' first | exact trivial | refine ⟨?_, ?_⟩ | exact rfl | exact oR | exact orB rfl | exact oL); (first | done | fail))) | (refine call_g [3,7,4] (hde) rfl rfl rfl ?_ ?_ ?_ ?_ ?_; iterate 4 (focus (repeat' first | exact trivial | refine ⟨?_, ?_⟩ | exact rfl | exact oR | exact orB rfl | exact oL); (first | done | fail))) | (refine call_f (hgv) ?_ ?_ ?_ ?_; iterate 3 (focus (repeat' first | exact trivial | refine ⟨?_, ?_⟩ | exact rfl | exact oR | exact orB rfl | exact oL); (first | done | fail))) | (refine call_f (hpu) ?_ ?_ ?_ ?_; iterate 3 (focus (repeat' first | exact trivial | refine ⟨?_, ?_⟩ | exact rfl | exact oR | exact orB rfl | exact oL); (first | done | fail))) | (refine ⟨_, hnx, (by dsimp only; omega), ?_⟩) | ((first | refine fin_au rfl ?_ | apply WkF.au); (conv => whnf); ((repeat' first | exact trivial | refine ⟨?_, ?_⟩ | exact rfl | exact oR | exact orB rfl | exact oL) <;> (try conv => whnf) <;> (try first | apply cgB | apply cgI | apply cgS | apply cgR | apply cgD | refine cgL ?_) <;> (try (rw [wrap_i64 (by omega) (by omega)]; first | rfl | omega)))) | apply altl))
   · rw [flush_stop (by dsimp only; omega)] at hI3
     subst hI3
     have hdn := hD lo hi r buf hI1.1 hI1.2 (by omega)
     have hok3 := down_ok (r := r) (ms := buf) (give_ok d) hI1.1 hI1.2
     have hdc := down_cuts (giveF d) r buf hl
     have hxl := row_len hok3.1
     have hxp := row_phi hok3.1
     unfold wrapUp
     by_cases h4 : 4 < r.1.length
     · rw [if_pos h4]
       dsimp only
       have hgr := r_grouped (downF (giveF d) r buf) hxl (by omega) (by omega)
       (repeat' ((conv => whnf); first | (apply nx; intro s) | (apply rg; intro s k) | ((first | refine cas (fun h => ?_) (fun h => ?_) | refine may (fun h => ?_) ?_) <;> (try simp [-List.getD_eq_getElem?_getD] at h)) | (refine giv fun hg => ?_; (try simp only [byE] at hg)) | refine need (by first | kernel_rfl | omega | (simp; done) | (simp; omega)) ?_ | (exfalso; omega) | (refine call_f (hdn) ?_ ?_ ?_ ?_; iterate 3 (focus (repeat' first | exact trivial | refine ⟨?_, ?_⟩ | exact rfl | exact oR | exact orB rfl | exact oL); (first | done | fail))) | (refine call_f (hgr) ?_ ?_ ?_ ?_; iterate 3 (focus (repeat' first | exact trivial | refine ⟨?_, ?_⟩ | exact rfl | exact oR | exact orB rfl | exact oL); (first | done | fail))) | ((first | refine fin_au rfl ?_ | apply WkF.au); (conv => whnf); ((repeat' first | exact trivial | refine ⟨?_, ?_⟩ | exact rfl | exact oR | exact orB rfl | exact oL) <;> (try conv => whnf) <;> (try first | apply cgB | apply cgI | apply cgS | apply cgR | apply cgD | refine cgL ?_) <;> (try (rw [wrap_i64 (by omega) (by omega)]; first | rfl | omega)))) | apply altl))
     · rw [if_neg h4]
       (repeat' ((conv => whnf); first | (apply nx; intro s) | (apply rg; intro s k) | ((first | refine cas (fun h => ?_) (fun h => ?_) | refine may (fun h => ?_) ?_) <;> (try simp [-List.getD_eq_getElem?_getD] at h)) | (refine giv fun hg => ?_; (try simp only [byE] at hg)) | refine need (by first | kernel_rfl | omega | (simp; done) | (simp; omega)) ?_ | (exfalso; omega) | ((first | refine fin_au rfl ?_ | apply WkF.au); (conv => whnf); ((repeat' first | exact trivial | refine ⟨?_, ?_⟩ | exact rfl | exact oR | exact orB rfl | exact oL) <;> (try conv => whnf) <;> (try first | apply cgB | apply cgI | apply cgS | apply cgR | apply cgD | refine cgL ?_) <;> (try (rw [wrap_i64 (by omega) (by omega)]; first | rfl | omega)))) | apply altl))
theorem r_l4Give {d : Nat} (hG : GiveR 77 d) : GiveR 77 (d + 1) := by
 have hD := r_l4Down hG
 intro lo hi t ms ⟨h1, h2, h3, h4⟩ hm hb
 have hp := phi_node h1
 obtain ⟨tl, tp, tc, tk, tb⟩ := t
 dsimp only at h1 h2 h3 h4 hp
 subst h1 h2
 show Ret _ _ _ _ _ (rwH (wrapUp (giveF d) (flush (giveF d) ((tk, tc), shrinkF (tb ++ ms)))))
 have hall : ∀ m ∈ tb ++ ms, MsP lo hi m := fun m hm' => (List.mem_append.1 hm').elim (h4 m) (hm m)
 have hsl := shrink_len (tb ++ ms)
 simp only [List.length_append] at hsl
 have hin : FInv d lo hi 68719476736 (flush (giveF d) ((tk, tc), shrinkF (tb ++ ms))) ((tk, tc), shrinkF (tb ++ ms)) := ⟨⟨h3, shrink_ok hall⟩, by unfold phiS; dsimp only; omega, rfl⟩
 have hrp := row_phi h3
 generalize flush (giveF d) ((tk, tc), shrinkF (tb ++ ms)) = fin at *
 refine ret_vc hT hM Tryz.func77 rfl rfl (m := 0) (nx := 0) rfl (Nat.le_of_ble_eq_true rfl) ?_
 (repeat' ((conv => whnf); first | (apply nx; intro s) | (apply rg; intro s k) | ((first | refine cas (fun h => ?_) (fun h => ?_) | refine may (fun h => ?_) ?_) <;> (try simp [-List.getD_eq_getElem?_getD] at h)) | (refine giv fun hg => ?_; (try simp only [byE] at hg)) | refine need (by first | kernel_rfl | omega | (simp; done) | (simp; omega)) ?_ | (refine need (by simp only [byE, chunk, List.length_append, List.length_nil]; omega) ?_) | (refine call_f (r_specShrink (tb ++ ms) (by simp; omega)) ?_ ?_ ?_ ?_; iterate 3 (focus (repeat' first | exact trivial | refine ⟨?_, ?_⟩ | exact rfl | exact oR | exact orB rfl | exact oL); (first | done | fail))) | ((first | refine fin_au rfl ?_ | apply WkF.au); (conv => whnf); ((repeat' first | exact trivial | refine ⟨?_, ?_⟩ | exact rfl | exact oR | exact orB rfl | exact oL) <;> (try conv => whnf) <;> (try first | apply cgB | apply cgI | apply cgS | apply cgR | apply cgD | refine cgL ?_) <;> (try (rw [wrap_i64 (by omega) (by omega)]; first | rfl | omega)))) | apply altl))
 (repeat ((conv => whnf); first | (apply nx; intro s) | (apply rg; intro s k))); (conv => whnf)
 refine Tri.loop (fun s : Rw × List Ms => ⟨[(2, .pt 0 0), (4, .pt 1 0), (5, .rw 3), (6, .pt 2 0)], [(0, .box [.c (.bool false), .c (.sl .pr []), aL .int tc, aL .tr tk, aL .ms tb]), (1, .box [.nl, .nl]), (2, .box [aL .tr s.1.1, aL .int s.1.2]), (3, .row .ms s.2)], 4⟩) (fun s => FInv d lo hi 68719476736 fin s) (fun s => s.2.length) _ hin ?_ ?_
 · (apply WkF.au; (conv => whnf); ((repeat' first | exact trivial | refine ⟨?_, ?_⟩ | exact rfl | exact oR | exact orB rfl | exact oL) <;> (try conv => whnf) <;> (try first | apply cgB | apply cgI | apply cgS | apply cgR | apply cgD | refine cgL ?_) <;> (try (rw [wrap_i64 (by omega) (by omega)]; first | rfl | omega))))
 · intro ⟨r, buf⟩ hI
   obtain ⟨hI1, hI2, hI3⟩ := id hI
   have hl := row_len hI1.1
   have hrp := row_phi hI1.1
   have hst := row_srt hI1.1
   unfold phiS at hI2
   dsimp only at hI1 hI2 hI3 hl hrp hst
   refine vc_sound hT hM _ _ _ ?_
   by_cases hlt : 6 < buf.length
   · have hnx : FInv d lo hi 68719476736 fin (nextS (giveF d) (r, buf)) := finv_next hI hlt
     have hdec : (nextS (giveF d) (r, buf)).2.length < buf.length := (next_ok (give_ok d) hI1 hlt).2.2
     have hfi : fullF r.1.length r.2 buf < r.1.length := full_lt (by omega)
     have hfu := r_l4Most r buf hst (by omega)
     simp only [nextS] at hnx hdec
     generalize fullF r.1.length r.2 buf = i at *
     obtain ⟨a, b, hk1, hk2, hk3⟩ := row_get (r := r) (ms := buf) (i := i) hI1.1 hI1.2 hfi
     have hok2 := give_ok d a b _ _ hk1 hk2
     have hxl := row_len hok2.1
     have hxp := row_phi hok2.1
     have hgv := hG a b _ _ hk1 hk2 (by omega)
     have hof := r_l4Split r buf i hst (by omega)
     have hpu := r_l4Put r i (giveF d (r.1.getD i (dflt .tr)) (ofKidF r.2 buf i)) hfi (by omega) (by omega) (by omega)
     generalize giveF d (r.1.getD i (dflt .tr)) (ofKidF r.2 buf i) = x at *
     clear hI hI1 hok2 hk1 hk2
     (repeat' ((conv => whnf); first | (apply nx; intro s) | (apply rg; intro s k) | ((first | refine cas (fun h => ?_) (fun h => ?_) | refine may (fun h => ?_) ?_) <;> (try simp [-List.getD_eq_getElem?_getD] at h)) | (refine giv fun hg => ?_; (try simp only [byE] at hg)) | refine need (by first | kernel_rfl | omega | (simp; done) | (simp; omega)) ?_ | (exfalso; omega) | (refine call_b (hfu) ?_ ?_ ?_ ?_ ?_ ?_; iterate 5 (focus (repeat' first | exact trivial | refine ⟨?_, ?_⟩ | exact rfl | exact oR | exact orB rfl | exact oL); (first | done | fail))) | (refine call_b (hof) ?_ ?_ ?_ ?_ ?_ ?_; iterate 5 (focus (repeat' first | exact trivial | refine ⟨?_, ?_⟩ | exact rfl | exact oR | exact orB rfl | exact oL); (first | done | fail))) | (refine call_f (hgv) ?_ ?_ ?_ ?_; iterate 3 (focus (repeat' first | exact trivial | refine ⟨?_, ?_⟩ | exact rfl | exact oR | exact orB rfl | exact oL); (first | done | fail))) | (refine call_f (hpu) ?_ ?_ ?_ ?_; iterate 3 (focus (repeat' first | exact trivial | refine ⟨?_, ?_⟩ | exact rfl | exact oR | exact orB rfl | exact oL); (first | done | fail))) | (refine ⟨_, hnx, (by dsimp only; omega), ?_⟩) | ((first | refine fin_au rfl ?_ | apply WkF.au); (conv => whnf); ((repeat' first | exact trivial | refine ⟨?_, ?_⟩ | exact rfl | exact oR | exact orB rfl | exact oL) <;> (try conv => whnf) <;> (try first | apply cgB | apply cgI | apply cgS | apply cgR | apply cgD | refine cgL ?_) <;> (try (rw [wrap_i64 (by omega) (by omega)]; first | rfl | omega)))) | apply altl))
   · rw [flush_stop (by dsimp only; omega)] at hI3
     subst hI3
     have hdn := hD lo hi r buf hI1.1 hI1.2 (by omega)
     have hok3 := down_ok (r := r) (ms := buf) (give_ok d) hI1.1 hI1.2
     have hdc := down_cuts (giveF d) r buf hl
     have hxl := row_len hok3.1
     have hxp := row_phi hok3.1
     unfold wrapUp
     by_cases h4 : 4 < r.1.length
     · rw [if_pos h4]
       dsimp only
       have hgr := r_l4Pack (downF (giveF d) r buf) hxl (by omega) (by omega)
       (repeat' ((conv => whnf); first | (apply nx; intro s) | (apply rg; intro s k) | ((first | refine cas (fun h => ?_) (fun h => ?_) | refine may (fun h => ?_) ?_) <;> (try simp [-List.getD_eq_getElem?_getD] at h)) | (refine giv fun hg => ?_; (try simp only [byE] at hg)) | refine need (by first | kernel_rfl | omega | (simp; done) | (simp; omega)) ?_ | (exfalso; omega) | (refine call_f (hdn) ?_ ?_ ?_ ?_; iterate 3 (focus (repeat' first | exact trivial | refine ⟨?_, ?_⟩ | exact rfl | exact oR | exact orB rfl | exact oL); (first | done | fail))) | (refine call_f (hgr) ?_ ?_ ?_ ?_; iterate 3 (focus (repeat' first | exact trivial | refine ⟨?_, ?_⟩ | exact rfl | exact oR | exact orB rfl | exact oL); (first | done | fail))) | ((first | refine fin_au rfl ?_ | apply WkF.au); (conv => whnf); ((repeat' first | exact trivial | refine ⟨?_, ?_⟩ | exact rfl | exact oR | exact orB rfl | exact oL) <;> (try conv => whnf) <;> (try first | apply cgB | apply cgI | apply cgS | apply cgR | apply cgD | refine cgL ?_) <;> (try (rw [wrap_i64 (by omega) (by omega)]; first | rfl | omega)))) | apply altl))
     · rw [if_neg h4]
       (repeat' ((conv => whnf); first | (apply nx; intro s) | (apply rg; intro s k) | ((first | refine cas (fun h => ?_) (fun h => ?_) | refine may (fun h => ?_) ?_) <;> (try simp [-List.getD_eq_getElem?_getD] at h)) | (refine giv fun hg => ?_; (try simp only [byE] at hg)) | refine need (by first | kernel_rfl | omega | (simp; done) | (simp; omega)) ?_ | (exfalso; omega) | ((first | refine fin_au rfl ?_ | apply WkF.au); (conv => whnf); ((repeat' first | exact trivial | refine ⟨?_, ?_⟩ | exact rfl | exact oR | exact orB rfl | exact oL) <;> (try conv => whnf) <;> (try first | apply cgB | apply cgI | apply cgS | apply cgR | apply cgD | refine cgL ?_) <;> (try (rw [wrap_i64 (by omega) (by omega)]; first | rfl | omega)))) | apply altl))
theorem give_all : ∀ d : Nat, GiveR 85 d
 | 0 => r_give0
 | d + 1 => r_give (give_all d)
theorem l4Give_all : ∀ d : Nat, GiveR 77 d
 | 0 => r_l4Give0
 | d + 1 => r_l4Give (l4Give_all d)
end Go.Proofs.YthbpdhppelaihaaGreat