/- A node read from bytes: the reference. Conditions: none. -/
import Derived.Test.YthbpdhppelaihaaGreatTG
set_option linter.unusedVariables false
set_option linter.unusedSimpArgs false
namespace Go.Proofs.YthbpdhppelaihaaGreat
open Go.RowKit
attribute [local irreducible] Tri Weak
set_option maxRecDepth 4000
set_option maxHeartbeats 4000000
theorem se_none {b : List UInt8} {u : Tr} {kd : List Int} {p : RS} (h : decO b = none) : SE b u kd p := fun t ks hd => by rw [h] at hd; cases hd
theorem s2_none {b : List UInt8} {lf : Bool} {n : Int} {p : RS} (h : S2 b lf n p) (h1 : (p.2 && inB n 0 4) = false) : decO b = none := none_of fun t ks hd => by
 obtain ⟨h2, h3, h4⟩ := s2_rng h hd
 rw [h4, inB_iff.2 ⟨h2, h3⟩] at h1
 cases h1
theorem sp_end' {b : List UInt8} {n : Int} {i : Nat} {ps : List Pr} {p1 : Nat} {p2 : Bool} (h : SP b n i ps (p1, p2)) (hi : ¬ ((i : Int) < n ∧ p2 = true)) : SE b ⟨true, ps, [], [], []⟩ [] (p1, p2) := by
 cases p2 with
 | true => exact sp_end h (by simp at hi; omega)
 | false => exact se_none (none_of fun t ks hd => by have := (h t ks hd).1; unfold At at this; injection this with _ this; cases this)
theorem sb_end' {b : List UInt8} {m n : Int} {kd cs : List Int} {i : Nat} {bf : List Ms} {p1 : Nat} {p2 : Bool} (h : SB b m n kd cs i bf (p1, p2)) (hi : ¬ ((i : Int) < m ∧ p2 = true)) : SE b ⟨false, [], cs, List.replicate n.toNat Tr0, bf⟩ kd (p1, p2) := by
 cases p2 with
 | true => exact sb_end h (by simp at hi; omega)
 | false => exact se_none (none_of fun t ks hd => by have := (h t ks hd).1; unfold At at this; injection this with _ this; cases this)
theorem se_fin' {b : List UInt8} {u : Tr} {kd : List Int} {p1 : Nat} {p2 : Bool} {pq : List UInt8 × Bool} (h : SE b u kd (p1, p2)) (hq : putNd u kd = pq) : (p2 = true ∧ p1 = b.length ∧ pq.2 = true ∧ pq.1 = b → decF b = (u, kd, true)) ∧ (¬ (p2 = true ∧ p1 = b.length ∧ pq.2 = true ∧ pq.1 = b) → decF b = (Tr0, [], false)) := by
 subst hq
 exact ⟨fun h1 => se_yes h (Prod.ext h1.2.2.2 h1.2.2.1), fun h1 => se_no' h h1⟩
theorem r_specGetNode (b : List UInt8) (hb : b.length ≤ 1099511627776) : Ret Tryz.prog 248 [aL .u8 b] [] (gnA (decF b)) (gnH (decF b)) := by
 have hs1 := s1_of (rd_S b)
 have hs2 := s2_of (rd_S b) hs1
 have hn1 := r_l5Num0 b hb
 have hn2 := r_l5Num b (rdS b (0, true)).2 hb
 generalize rdS b (0, true) = q1 at *
 generalize rdS b q1.2 = q2 at *
 obtain ⟨n, a0, ok0⟩ := q2
 dsimp only at hn2 hs2
 cases hok0 : ok0 && inB n 0 4 with
 | false =>
   have hno := s2_none hs2 hok0
   have hse : SE b ⟨decide (q1.1 = 1), [], [], [], []⟩ [] (a0, false) := se_none hno
   have hpn := r_specPutNode ⟨decide (q1.1 = 1), [], [], [], []⟩ []
   have hd := decF_none hno
   generalize putNd ⟨decide (q1.1 = 1), [], [], [], []⟩ [] = pq at *
   obtain ⟨w, ok⟩ := pq
   rw [hd]
   have hor : ok0 = false ∨ ok0 = true ∧ inB n 0 4 = false := by cases ok0 <;> simp_all
   rcases hor with h0 | ⟨h0, h1⟩
   · subst h0
     refine ret_vc hT hM Tryz.func248 rfl rfl (m := 0) (nx := 0) rfl (Nat.le_of_ble_eq_true rfl) ?_
     (repeat' ((conv => whnf); first | (apply nx; intro s) | (apply rg; intro s k) | ((first | refine cas (fun h => ?_) (fun h => ?_) | refine may (fun h => ?_) ?_) <;> (try simp [-List.getD_eq_getElem?_getD] at h)) | (refine giv fun hg => ?_; (try simp only [byE] at hg)) | refine need (by first | kernel_rfl | omega | (simp; done) | (simp; omega)) ?_ | (refine call_g [1] (hn1) rfl rfl rfl ?_ ?_ ?_ ?_ ?_; iterate 4 (focus (repeat' first | exact trivial | refine ⟨?_, ?_⟩ | exact rfl | exact oR | exact orB rfl | exact oL); (first | done | fail))) | (refine call_g [1] (hn2) rfl rfl rfl ?_ ?_ ?_ ?_ ?_; iterate 4 (focus (repeat' first | exact trivial | refine ⟨?_, ?_⟩ | exact rfl | exact oR | exact orB rfl | exact oL); (first | done | fail))) | (refine call_p (r_l1In n 0 4) rfl (by (repeat' first | exact trivial | refine ⟨?_, ?_⟩ | exact rfl | exact oR | exact orB rfl | exact oL); (first | done | fail)) ?_) | ((first | refine fin_au rfl ?_ | apply WkF.au); (conv => whnf); ((repeat' first | exact trivial | refine ⟨?_, ?_⟩ | exact rfl | exact oR | exact orB rfl | exact oL) <;> (try conv => whnf) <;> (try first | apply cgB | apply cgI | apply cgS | apply cgR | apply cgD | refine cgL ?_) <;> (try (rw [wrap_i64 (by omega) (by omega)]; first | rfl | omega)))) | apply altl))
     (repeat ((conv => whnf); first | (apply nx; intro s) | (apply rg; intro s k))); (conv => whnf)
     refine Tri.loop (fun q : Nat => ⟨[(0, aL .u8 b), (2, .pt 0 0), (5, .pt 1 0), (6, .pt 3 0), (7, .rw 5), (8, aI n), (9, aI 0)], [(0, .box [.kb false, .nl, .nl, .nl, .nl]), (1, rsB b (a0, false)), (3, .box [.c (.bool (decide (q1.1 = 1))), .nl, .nl, .nl, .nl]), (5, .row .int [])], 6⟩) (fun _ => True) (fun _ => 0) 0 trivial ?_ ?_
     · (apply WkF.au; (conv => whnf); ((repeat' first | exact trivial | refine ⟨?_, ?_⟩ | exact rfl | exact oR | exact orB rfl | exact oL) <;> (try conv => whnf) <;> (try first | apply cgB | apply cgI | apply cgS | apply cgR | apply cgD | refine cgL ?_) <;> (try (rw [wrap_i64 (by omega) (by omega)]; first | rfl | omega))))
     · intro _ _
       refine vc_sound hT hM _ _ _ ?_
       (repeat' ((conv => whnf); first | (apply nx; intro s) | (apply rg; intro s k) | ((first | refine cas (fun h => ?_) (fun h => ?_) | refine may (fun h => ?_) ?_) <;> (try simp [-List.getD_eq_getElem?_getD] at h)) | (refine giv fun hg => ?_; (try simp only [byE] at hg)) | refine need (by first | kernel_rfl | omega | (simp; done) | (simp; omega)) ?_ | (refine call_b (hpn) ?_ ?_ ?_ ?_ ?_ ?_; iterate 5 (focus (repeat' first | exact trivial | refine ⟨?_, ?_⟩ | exact rfl | exact oR | exact orB rfl | exact oL); (first | done | fail))) | ((first | refine fin_au rfl ?_ | apply WkF.au); (conv => whnf); ((repeat' first | exact trivial | refine ⟨?_, ?_⟩ | exact rfl | exact oR | exact orB rfl | exact oL) <;> (try conv => whnf) <;> (try first | apply cgB | apply cgI | apply cgS | apply cgR | apply cgD | refine cgL ?_) <;> (try (rw [wrap_i64 (by omega) (by omega)]; first | rfl | omega)))) | apply altl))
   · subst h0
     refine ret_vc hT hM Tryz.func248 rfl rfl (m := 0) (nx := 0) rfl (Nat.le_of_ble_eq_true rfl) ?_
     (repeat' ((conv => whnf); first | (apply nx; intro s) | (apply rg; intro s k) | ((first | refine cas (fun h => ?_) (fun h => ?_) | refine may (fun h => ?_) ?_) <;> (try simp [-List.getD_eq_getElem?_getD] at h)) | (refine giv fun hg => ?_; (try simp only [byE] at hg)) | refine need (by first | kernel_rfl | omega | (simp; done) | (simp; omega)) ?_ | (refine call_g [1] (hn1) rfl rfl rfl ?_ ?_ ?_ ?_ ?_; iterate 4 (focus (repeat' first | exact trivial | refine ⟨?_, ?_⟩ | exact rfl | exact oR | exact orB rfl | exact oL); (first | done | fail))) | (refine call_g [1] (hn2) rfl rfl rfl ?_ ?_ ?_ ?_ ?_; iterate 4 (focus (repeat' first | exact trivial | refine ⟨?_, ?_⟩ | exact rfl | exact oR | exact orB rfl | exact oL); (first | done | fail))) | (refine call_p (r_l1In n 0 4) rfl (by (repeat' first | exact trivial | refine ⟨?_, ?_⟩ | exact rfl | exact oR | exact orB rfl | exact oL); (first | done | fail)) ?_) | ((first | refine fin_au rfl ?_ | apply WkF.au); (conv => whnf); ((repeat' first | exact trivial | refine ⟨?_, ?_⟩ | exact rfl | exact oR | exact orB rfl | exact oL) <;> (try conv => whnf) <;> (try first | apply cgB | apply cgI | apply cgS | apply cgR | apply cgD | refine cgL ?_) <;> (try (rw [wrap_i64 (by omega) (by omega)]; first | rfl | omega)))) | apply altl))
     (repeat ((conv => whnf); first | (apply nx; intro s) | (apply rg; intro s k))); (conv => whnf)
     refine Tri.loop (fun q : Nat => ⟨[(0, aL .u8 b), (2, .pt 0 0), (5, .pt 1 0), (6, .pt 3 0), (7, .rw 5), (8, aI n), (9, aI 0)], [(0, .box [.kb false, .nl, .nl, .nl, .nl]), (1, rsB b (a0, false)), (3, .box [.c (.bool (decide (q1.1 = 1))), .nl, .nl, .nl, .nl]), (5, .row .int [])], 6⟩) (fun _ => True) (fun _ => 0) 0 trivial ?_ ?_
     · (apply WkF.au; (conv => whnf); ((repeat' first | exact trivial | refine ⟨?_, ?_⟩ | exact rfl | exact oR | exact orB rfl | exact oL) <;> (try conv => whnf) <;> (try first | apply cgB | apply cgI | apply cgS | apply cgR | apply cgD | refine cgL ?_) <;> (try (rw [wrap_i64 (by omega) (by omega)]; first | rfl | omega))))
       all_goals exact h1
     · intro _ _
       refine vc_sound hT hM _ _ _ ?_
       (repeat' ((conv => whnf); first | (apply nx; intro s) | (apply rg; intro s k) | ((first | refine cas (fun h => ?_) (fun h => ?_) | refine may (fun h => ?_) ?_) <;> (try simp [-List.getD_eq_getElem?_getD] at h)) | (refine giv fun hg => ?_; (try simp only [byE] at hg)) | refine need (by first | kernel_rfl | omega | (simp; done) | (simp; omega)) ?_ | (refine call_b (hpn) ?_ ?_ ?_ ?_ ?_ ?_; iterate 5 (focus (repeat' first | exact trivial | refine ⟨?_, ?_⟩ | exact rfl | exact oR | exact orB rfl | exact oL); (first | done | fail))) | ((first | refine fin_au rfl ?_ | apply WkF.au); (conv => whnf); ((repeat' first | exact trivial | refine ⟨?_, ?_⟩ | exact rfl | exact oR | exact orB rfl | exact oL) <;> (try conv => whnf) <;> (try first | apply cgB | apply cgI | apply cgS | apply cgR | apply cgD | refine cgL ?_) <;> (try (rw [wrap_i64 (by omega) (by omega)]; first | rfl | omega)))) | apply altl))
 | true =>
   have h0 : ok0 = true := by cases ok0 <;> simp_all
   have h1 : inB n 0 4 = true := by cases ok0 <;> simp_all
   subst h0
   have hr2 := inB_iff.1 h1
   by_cases hx : q1.1 = 1
   · rw [decide_eq_true hx] at hs2
     have hp0 := sp_zero hs2
     refine ret_vc hT hM Tryz.func248 rfl rfl (m := 0) (nx := 0) rfl (Nat.le_of_ble_eq_true rfl) ?_
     (repeat' ((conv => whnf); first | (apply nx; intro s) | (apply rg; intro s k) | ((first | refine cas (fun h => ?_) (fun h => ?_) | refine may (fun h => ?_) ?_) <;> (try simp [-List.getD_eq_getElem?_getD] at h)) | (refine giv fun hg => ?_; (try simp only [byE] at hg)) | refine need (by first | kernel_rfl | omega | (simp; done) | (simp; omega)) ?_ | (exfalso; omega) | (refine call_g [1] (hn1) rfl rfl rfl ?_ ?_ ?_ ?_ ?_; iterate 4 (focus (repeat' first | exact trivial | refine ⟨?_, ?_⟩ | exact rfl | exact oR | exact orB rfl | exact oL); (first | done | fail))) | (refine call_g [1] (hn2) rfl rfl rfl ?_ ?_ ?_ ?_ ?_; iterate 4 (focus (repeat' first | exact trivial | refine ⟨?_, ?_⟩ | exact rfl | exact oR | exact orB rfl | exact oL); (first | done | fail))) | (refine call_p (r_l1In n 0 4) rfl (by (repeat' first | exact trivial | refine ⟨?_, ?_⟩ | exact rfl | exact oR | exact orB rfl | exact oL); (first | done | fail)) ?_) | ((first | refine fin_au rfl ?_ | apply WkF.au); (conv => whnf); ((repeat' first | exact trivial | refine ⟨?_, ?_⟩ | exact rfl | exact oR | exact orB rfl | exact oL) <;> (try conv => whnf) <;> (try first | apply cgB | apply cgI | apply cgS | apply cgR | apply cgD | refine cgL ?_) <;> (try (rw [wrap_i64 (by omega) (by omega)]; first | rfl | omega)))) | apply altl))
     (repeat ((conv => whnf); first | (apply nx; intro s) | (apply rg; intro s k))); (conv => whnf)
     refine Tri.loop (fun q : Nat × List Pr × RS => ⟨[(0, aL .u8 b), (2, .pt 0 0), (5, .pt 1 0), (6, .pt 3 0), (7, .rw 5), (8, aI n), (9, aI q.1)], [(0, .box [.kb false, .nl, .nl, .nl, .nl]), (1, rsB b q.2.2), (3, .box [.c (.bool true), .rw 6, .nl, .nl, .nl]), (5, .row .int []), (6, .row .pr q.2.1)], 7⟩) (fun q => SP b n q.1 q.2.1 q.2.2 ∧ (q.1 : Int) ≤ n ∧ q.2.1.length = q.1) (fun q => n.toNat - q.1) (0, [], (a0, true)) ⟨hp0, hr2.1, rfl⟩ ?_ ?_
     · (apply WkF.au; (conv => whnf); ((repeat' first | exact trivial | refine ⟨?_, ?_⟩ | exact rfl | exact oR | exact orB rfl | exact oL) <;> (try conv => whnf) <;> (try first | apply cgB | apply cgI | apply cgS | apply cgR | apply cgD | refine cgL ?_) <;> (try (rw [wrap_i64 (by omega) (by omega)]; first | rfl | omega))))
       all_goals first
        | exact decide_eq_true hx
        | exact h1
     · intro ⟨i, ps, p1, p2⟩ ⟨hI, h2, h3⟩
       dsimp only at hI h2 h3
       refine vc_sound hT hM _ _ _ ?_
       try dsimp only
       by_cases hi : (i : Int) < n ∧ p2 = true
       · obtain ⟨hi, rfl⟩ := hi
         have hst := sp_step (rd_S b) hI hi
         have hc1 := r_l5Num b (p1, true) hb
         have hc2 := r_l5Num b (rdS b (p1, true)).2 hb
         (try dsimp only at hc1 hc2 hst)
         generalize rdS b (p1, true) = q3 at *
         generalize rdS b q3.2 = q4 at *
         (repeat' ((conv => whnf); first | (apply nx; intro s) | (apply rg; intro s k) | ((first | refine cas (fun h => ?_) (fun h => ?_) | refine may (fun h => ?_) ?_) <;> (try simp [-List.getD_eq_getElem?_getD] at h)) | (refine giv fun hg => ?_; (try simp only [byE] at hg)) | refine need (by first | kernel_rfl | omega | (simp; done) | (simp; omega)) ?_ | (exfalso; omega) | (refine call_g [1] (hc1) rfl rfl rfl ?_ ?_ ?_ ?_ ?_; iterate 4 (focus (repeat' first | exact trivial | refine ⟨?_, ?_⟩ | exact rfl | exact oR | exact orB rfl | exact oL); (first | done | fail))) | (refine call_g [1] (hc2) rfl rfl rfl ?_ ?_ ?_ ?_ ?_; iterate 4 (focus (repeat' first | exact trivial | refine ⟨?_, ?_⟩ | exact rfl | exact oR | exact orB rfl | exact oL); (first | done | fail))) | (refine need (by simp only [byE, chunk, List.length_append, List.length_cons, List.length_nil]; omega) ?_) | (refine ⟨(i + 1, ps ++ [⟨q3.1, q4.1⟩], q4.2), ⟨hst, by dsimp only; omega, by simp [h3]⟩, by dsimp only; omega, ?_⟩) | ((first | refine fin_au rfl ?_ | apply WkF.au); (conv => whnf); ((repeat' first | exact trivial | refine ⟨?_, ?_⟩ | exact rfl | exact oR | exact orB rfl | exact oL) <;> (try conv => whnf) <;> (try first | apply cgB | apply cgI | apply cgS | apply cgR | apply cgD | refine cgL ?_) <;> (try (rw [wrap_i64 (by omega) (by omega)]; first | rfl | omega)))) | apply altl))
       · have hse := sp_end' hI hi
         have hpn := r_specPutNode ⟨true, ps, [], [], []⟩ []
         have hfin := se_fin' hse rfl
         generalize putNd ⟨true, ps, [], [], []⟩ [] = pq at *
         obtain ⟨w, ok⟩ := pq
         (try dsimp only at hpn hfin)
         by_cases hok : p2 = true ∧ p1 = b.length ∧ ok = true ∧ w = b
         · rw [hfin.1 hok]
           obtain ⟨hk1, hk2, hk3, hk4⟩ := hok
           (repeat' ((conv => whnf); first | (apply nx; intro s) | (apply rg; intro s k) | ((first | refine cas (fun h => ?_) (fun h => ?_) | refine may (fun h => ?_) ?_) <;> (try simp [-List.getD_eq_getElem?_getD, hk1, hk2, hk3, hk4] at h)) | (refine giv fun hg => ?_; (try simp only [byE] at hg)) | refine need (by first | kernel_rfl | omega | (simp; done) | (simp; omega)) ?_ | (exfalso; omega) | ((exfalso; exact hi ⟨by omega, by assumption⟩)) | (refine call_b (hpn) ?_ ?_ ?_ ?_ ?_ ?_; iterate 5 (focus (repeat' first | exact trivial | refine ⟨?_, ?_⟩ | exact rfl | exact oR | exact orB rfl | exact oL); (first | done | fail))) | ((first | refine fin_au rfl ?_ | apply WkF.au); (conv => whnf); ((repeat' first | exact trivial | refine ⟨?_, ?_⟩ | exact rfl | exact oR | exact orB rfl | exact oL) <;> (try conv => whnf) <;> (try first | apply cgB | apply cgI | apply cgS | apply cgR | apply cgD | refine cgL ?_) <;> (try (rw [wrap_i64 (by omega) (by omega)]; first | rfl | omega)))) | apply altl))
         · rw [hfin.2 hok]
           (repeat' ((conv => whnf); first | (apply nx; intro s) | (apply rg; intro s k) | ((first | refine cas (fun h => ?_) (fun h => ?_) | refine may (fun h => ?_) ?_) <;> (try simp [-List.getD_eq_getElem?_getD] at h)) | (refine giv fun hg => ?_; (try simp only [byE] at hg)) | refine need (by first | kernel_rfl | omega | (simp; done) | (simp; omega)) ?_ | (exfalso; omega) | ((exfalso; exact hi ⟨by omega, by assumption⟩)) | (refine call_b (hpn) ?_ ?_ ?_ ?_ ?_ ?_; iterate 5 (focus (repeat' first | exact trivial | refine ⟨?_, ?_⟩ | exact rfl | exact oR | exact orB rfl | exact oL); (first | done | fail))) | ((exfalso; apply hok; refine ⟨?_, ?_, ?_, ?_⟩ <;> first | assumption | omega)) | ((first | refine fin_au rfl ?_ | apply WkF.au); (conv => whnf); ((repeat' first | exact trivial | refine ⟨?_, ?_⟩ | exact rfl | exact oR | exact orB rfl | exact oL) <;> (try conv => whnf) <;> (try first | apply cgB | apply cgI | apply cgS | apply cgR | apply cgD | refine cgL ?_) <;> (try (rw [wrap_i64 (by omega) (by omega)]; first | rfl | omega)))) | apply altl))
   · rw [decide_eq_false hx] at hs2
     have hk0 := sk_zero hs2
     refine ret_vc hT hM Tryz.func248 rfl rfl (m := 0) (nx := 0) rfl (Nat.le_of_ble_eq_true rfl) ?_
     (repeat' ((conv => whnf); first | (apply nx; intro s) | (apply rg; intro s k) | ((first | refine cas (fun h => ?_) (fun h => ?_) | refine may (fun h => ?_) ?_) <;> (try simp [-List.getD_eq_getElem?_getD] at h)) | (refine giv fun hg => ?_; (try simp only [byE] at hg)) | refine need (by first | kernel_rfl | omega | (simp; done) | (simp; omega)) ?_ | (exfalso; omega) | (refine call_g [1] (hn1) rfl rfl rfl ?_ ?_ ?_ ?_ ?_; iterate 4 (focus (repeat' first | exact trivial | refine ⟨?_, ?_⟩ | exact rfl | exact oR | exact orB rfl | exact oL); (first | done | fail))) | (refine call_g [1] (hn2) rfl rfl rfl ?_ ?_ ?_ ?_ ?_; iterate 4 (focus (repeat' first | exact trivial | refine ⟨?_, ?_⟩ | exact rfl | exact oR | exact orB rfl | exact oL); (first | done | fail))) | (refine call_p (r_l1In n 0 4) rfl (by (repeat' first | exact trivial | refine ⟨?_, ?_⟩ | exact rfl | exact oR | exact orB rfl | exact oL); (first | done | fail)) ?_) | ((first | refine fin_au rfl ?_ | apply WkF.au); (conv => whnf); ((repeat' first | exact trivial | refine ⟨?_, ?_⟩ | exact rfl | exact oR | exact orB rfl | exact oL) <;> (try conv => whnf) <;> (try first | apply cgB | apply cgI | apply cgS | apply cgR | apply cgD | refine cgL ?_) <;> (try (rw [wrap_i64 (by omega) (by omega)]; first | rfl | omega)))) | apply altl))
     (repeat ((conv => whnf); first | (apply nx; intro s) | (apply rg; intro s k))); (conv => whnf)
     refine Tri.loop (fun q : Nat => ⟨[(0, aL .u8 b), (2, .pt 0 0), (5, .pt 1 0), (6, .pt 3 0), (7, .rw 5), (8, aI n), (9, aI 0)], [(0, .box [.kb false, .nl, .nl, .nl, .nl]), (1, rsB b (a0, true)), (3, .box [.c (.bool false), .nl, .nl, .nl, .nl]), (5, .row .int [])], 6⟩) (fun _ => True) (fun _ => 0) 0 trivial ?_ ?_
     · (apply WkF.au; (conv => whnf); ((repeat' first | exact trivial | refine ⟨?_, ?_⟩ | exact rfl | exact oR | exact orB rfl | exact oL) <;> (try conv => whnf) <;> (try first | apply cgB | apply cgI | apply cgS | apply cgR | apply cgD | refine cgL ?_) <;> (try (rw [wrap_i64 (by omega) (by omega)]; first | rfl | omega))))
       all_goals first
        | exact decide_eq_false hx
        | exact h1
     · intro _ _
       refine vc_sound hT hM _ _ _ ?_
       (repeat' ((conv => whnf); first | (apply nx; intro s) | (apply rg; intro s k) | ((first | refine cas (fun h => ?_) (fun h => ?_) | refine may (fun h => ?_) ?_) <;> (try simp [-List.getD_eq_getElem?_getD] at h)) | (refine giv fun hg => ?_; (try simp only [byE] at hg)) | refine need (by first | kernel_rfl | omega | (simp; done) | (simp; omega)) ?_ | ((first | refine fin_au rfl ?_ | apply WkF.au); (conv => whnf); ((repeat' first | exact trivial | refine ⟨?_, ?_⟩ | exact rfl | exact oR | exact orB rfl | exact oL) <;> (try conv => whnf) <;> (try first | apply cgB | apply cgI | apply cgS | apply cgR | apply cgD | refine cgL ?_) <;> (try (rw [wrap_i64 (by omega) (by omega)]; first | rfl | omega)))) | apply altl))
       (repeat ((conv => whnf); first | (apply nx; intro s) | (apply rg; intro s k))); (conv => whnf)
       all_goals
        refine Tri.loop (fun q : Nat × List Int × RS => ⟨[(0, aL .u8 b), (2, .pt 0 0), (5, .pt 1 0), (6, .pt 3 0), (7, .rw 5), (8, aI n), (11, aI q.1)], [(0, .box [.kb false, .nl, .nl, .nl, .nl]), (1, rsB b q.2.2), (3, .box [.c (.bool false), .nl, .nl, .rw 6, .nl]), (5, .row .int q.2.1), (6, .row .tr (List.replicate q.1 Tr0))], 7⟩) (fun q => SK b n q.1 q.2.1 q.2.2 ∧ (q.1 : Int) ≤ n ∧ q.2.1.length = q.1) (fun q => n.toNat - q.1) (0, [], (a0, true)) ⟨hk0, hr2.1, rfl⟩ ?_ ?_
        · (apply WkF.au; (conv => whnf); ((repeat' first | exact trivial | refine ⟨?_, ?_⟩ | exact rfl | exact oR | exact orB rfl | exact oL) <;> (try conv => whnf) <;> (try first | apply cgB | apply cgI | apply cgS | apply cgR | apply cgD | refine cgL ?_) <;> (try (rw [wrap_i64 (by omega) (by omega)]; first | rfl | omega))))
        · intro ⟨i, kd, p1, p2⟩ ⟨hI, h2, h3⟩
          dsimp only at hI h2 h3
          refine vc_sound hT hM _ _ _ ?_
          try dsimp only
          by_cases hi : (i : Int) < n
          · have hst := sk_step (rd_S b) hI hi
            have hc1 := r_l5Num b (p1, p2) hb
            (try dsimp only at hc1 hst)
            generalize rdS b (p1, p2) = q3 at *
            (repeat' ((conv => whnf); first | (apply nx; intro s) | (apply rg; intro s k) | ((first | refine cas (fun h => ?_) (fun h => ?_) | refine may (fun h => ?_) ?_) <;> (try simp [-List.getD_eq_getElem?_getD] at h)) | (refine giv fun hg => ?_; (try simp only [byE] at hg)) | refine need (by first | kernel_rfl | omega | (simp; done) | (simp; omega)) ?_ | (exfalso; omega) | (refine call_g [1] (hc1) rfl rfl rfl ?_ ?_ ?_ ?_ ?_; iterate 4 (focus (repeat' first | exact trivial | refine ⟨?_, ?_⟩ | exact rfl | exact oR | exact orB rfl | exact oL); (first | done | fail))) | (refine need (by simp only [byE, chunk, List.length_append, List.length_cons, List.length_nil, List.length_replicate]; omega) ?_) | (refine ⟨(i + 1, kd ++ [q3.1], q3.2), ⟨hst, by dsimp only; omega, by simp [h3]⟩, by dsimp only; omega, ?_⟩) | ((first | refine fin_au rfl ?_ | apply WkF.au); (conv => whnf); ((repeat' first | exact trivial | refine ⟨?_, ?_⟩ | exact rfl | exact oR | exact orB rfl | exact oL) <;> (try conv => whnf) <;> (try first | apply cgB | apply cgI | apply cgS | apply cgR | apply cgD | refine cgL ?_) <;> (try (rw [wrap_i64 (by omega) (by omega)]; first | rfl | omega)))) | apply altl))
            all_goals exact repl_snoc i
          · have hc0 := sc_zero hI (by omega) h2
            have hin : (i : Int) = n := by omega
            (repeat' ((conv => whnf); first | (apply nx; intro s) | (apply rg; intro s k) | ((first | refine cas (fun h => ?_) (fun h => ?_) | refine may (fun h => ?_) ?_) <;> (try simp [-List.getD_eq_getElem?_getD] at h)) | (refine giv fun hg => ?_; (try simp only [byE] at hg)) | refine need (by first | kernel_rfl | omega | (simp; done) | (simp; omega)) ?_ | (exfalso; omega) | ((first | refine fin_au rfl ?_ | apply WkF.au); (conv => whnf); ((repeat' first | exact trivial | refine ⟨?_, ?_⟩ | exact rfl | exact oR | exact orB rfl | exact oL) <;> (try conv => whnf) <;> (try first | apply cgB | apply cgI | apply cgS | apply cgR | apply cgD | refine cgL ?_) <;> (try (rw [wrap_i64 (by omega) (by omega)]; first | rfl | omega)))) | apply altl))
            (repeat ((conv => whnf); first | (apply nx; intro s) | (apply rg; intro s k))); (conv => whnf)
            have hm : ((n - 1).toNat : Int) = max 0 (n - 1) := by omega
            generalize (n - 1).toNat = m at *
            refine Tri.loop (fun q : Nat × List Int × RS => ⟨[(0, aL .u8 b), (2, .pt 0 0), (5, .pt 1 0), (6, .pt 3 0), (7, .rw 5), (8, aI n), (12, aI ((q.1 : Int) + 1))], [(0, .box [.kb false, .nl, .nl, .nl, .nl]), (1, rsB b q.2.2), (3, .box [.c (.bool false), .nl, .rw 7, .rw 6, .nl]), (5, .row .int kd), (6, .row .tr (List.replicate i Tr0)), (7, .row .int q.2.1)], 8⟩) (fun q => SC b n kd q.1 q.2.1 q.2.2 ∧ q.1 ≤ m ∧ q.2.1.length = q.1) (fun q => m - q.1) (0, [], (p1, p2)) ⟨hc0, Nat.zero_le _, rfl⟩ ?_ ?_
            · (apply WkF.au; (conv => whnf); ((repeat' first | exact trivial | refine ⟨?_, ?_⟩ | exact rfl | exact oR | exact orB rfl | exact oL) <;> (try conv => whnf) <;> (try first | apply cgB | apply cgI | apply cgS | apply cgR | apply cgD | refine cgL ?_) <;> (try (rw [wrap_i64 (by omega) (by omega)]; first | rfl | omega))))
            · clear hI h2 h3 hc0 hk0
              intro ⟨j, cs, p1, p2⟩ ⟨hI, h2, h3⟩
              dsimp only at hI h2 h3
              refine vc_sound hT hM _ _ _ ?_
              try dsimp only
              by_cases hj : j < m
              · have hst := sc_step (rd_S b) hI (by omega)
                have hc1 := r_l5Num b (p1, p2) hb
                (try dsimp only at hc1 hst)
                generalize rdS b (p1, p2) = q3 at *
                (repeat' ((conv => whnf); first | (apply nx; intro s) | (apply rg; intro s k) | ((first | refine cas (fun h => ?_) (fun h => ?_) | refine may (fun h => ?_) ?_) <;> (try simp [-List.getD_eq_getElem?_getD] at h)) | (refine giv fun hg => ?_; (try simp only [byE] at hg)) | refine need (by first | kernel_rfl | omega | (simp; done) | (simp; omega)) ?_ | (exfalso; omega) | (refine call_g [1] (hc1) rfl rfl rfl ?_ ?_ ?_ ?_ ?_; iterate 4 (focus (repeat' first | exact trivial | refine ⟨?_, ?_⟩ | exact rfl | exact oR | exact orB rfl | exact oL); (first | done | fail))) | (refine need (by simp only [byE, chunk, List.length_append, List.length_cons, List.length_nil, List.length_replicate]; omega) ?_) | (refine ⟨(j + 1, cs ++ [q3.1], q3.2), ⟨hst, by dsimp only; omega, by simp [h3]⟩, by dsimp only; omega, ?_⟩) | ((first | refine fin_au rfl ?_ | apply WkF.au); (conv => whnf); ((repeat' first | exact trivial | refine ⟨?_, ?_⟩ | exact rfl | exact oR | exact orB rfl | exact oL) <;> (try conv => whnf) <;> (try first | apply cgB | apply cgI | apply cgS | apply cgR | apply cgD | refine cgL ?_) <;> (try (rw [wrap_i64 (by omega) (by omega)]; first | rfl | omega)))) | apply altl))
              · have hb0 := sb_zero (rd_S b) hI (by omega) (by omega)
                have hc6 := r_l5Num b (p1, p2) hb
                generalize rdS b (p1, p2) = q6 at *
                obtain ⟨k6, a6, ok6⟩ := q6
                dsimp only at hb0 hc6
                have hb6 : SB b k6 n kd cs 0 [] (a6, ok6 && inB k6 0 6) := fun t ks hd => by
                 obtain ⟨e1, e2, e3⟩ := sb_rng hb0 hd
                 dsimp only at e3
                 rw [inB_iff.2 ⟨e1, e2⟩, Bool.and_true]
                 exact hb0 t ks hd
                have hr6 : (ok6 && inB k6 0 6) = true → 0 ≤ k6 ∧ k6 ≤ 6 := fun h => by
                 simp only [Bool.and_eq_true] at h
                 exact inB_iff.1 h.2
                have hok6 : ok6 = false → (ok6 && inB k6 0 6) = false := fun h => by rw [h]; rfl
                have hok6' : ok6 = true → (ok6 && inB k6 0 6) = inB k6 0 6 := fun h => by rw [h]; rfl
                generalize (ok6 && inB k6 0 6) = o6 at *
                (repeat' ((conv => whnf); first | (apply nx; intro s) | (apply rg; intro s k) | ((first | refine cas (fun h => ?_) (fun h => ?_) | refine may (fun h => ?_) ?_) <;> (try simp [-List.getD_eq_getElem?_getD] at h)) | (refine giv fun hg => ?_; (try simp only [byE] at hg)) | refine need (by first | kernel_rfl | omega | (simp; done) | (simp; omega)) ?_ | (exfalso; omega) | (refine call_g [1] (hc6) rfl rfl rfl ?_ ?_ ?_ ?_ ?_; iterate 4 (focus (repeat' first | exact trivial | refine ⟨?_, ?_⟩ | exact rfl | exact oR | exact orB rfl | exact oL); (first | done | fail))) | (refine call_p (r_l1In k6 0 6) rfl (by (repeat' first | exact trivial | refine ⟨?_, ?_⟩ | exact rfl | exact oR | exact orB rfl | exact oL); (first | done | fail)) ?_) | ((first | refine fin_au rfl ?_ | apply WkF.au); (conv => whnf); ((repeat' first | exact trivial | refine ⟨?_, ?_⟩ | exact rfl | exact oR | exact orB rfl | exact oL) <;> (try conv => whnf) <;> (try first | apply cgB | apply cgI | apply cgS | apply cgR | apply cgD | refine cgL ?_) <;> (try (rw [wrap_i64 (by omega) (by omega)]; first | rfl | omega)))) | apply altl))
                (repeat ((conv => whnf); first | (apply nx; intro s) | (apply rg; intro s k))); (conv => whnf)
                all_goals
                 refine Tri.loop (fun q : Nat × List Ms × RS => ⟨[(0, aL .u8 b), (2, .pt 0 0), (5, .pt 1 0), (6, .pt 3 0), (7, .rw 5), (8, aI n), (13, aI k6), (14, aI q.1)], [(0, .box [.kb false, .nl, .nl, .nl, .nl]), (1, rsB b q.2.2), (3, .box [.c (.bool false), .nl, .rw 7, .rw 6, .rw 8]), (5, .row .int kd), (6, .row .tr (List.replicate i Tr0)), (7, .row .int cs), (8, .row .ms q.2.1)], 9⟩) (fun q => SB b k6 n kd cs q.1 q.2.1 q.2.2 ∧ q.2.1.length = q.1 ∧ (q.2.2.2 = true → k6 ≤ 6)) (fun q => k6.toNat - q.1) (0, [], (a6, o6)) ⟨hb6, rfl, fun h => (hr6 h).2⟩ ?_ ?_
                 · (apply WkF.au; (conv => whnf); ((repeat' first | exact trivial | refine ⟨?_, ?_⟩ | exact rfl | exact oR | exact orB rfl | exact oL) <;> (try conv => whnf) <;> (try first | apply cgB | apply cgI | apply cgS | apply cgR | apply cgD | refine cgL ?_) <;> (try (rw [wrap_i64 (by omega) (by omega)]; first | rfl | omega))))
                   all_goals first
                    | exact (hok6 (by assumption)).symm
                    | exact (hok6' (by assumption)).symm
                 · clear hI h2 h3 hb6 hb0 hr6 hok6 hok6'
                   intro ⟨l, bf, p1, p2⟩ ⟨hI, h2, h3⟩
                   dsimp only at hI h2 h3
                   refine vc_sound hT hM _ _ _ ?_
                   try dsimp only
                   by_cases hi : (l : Int) < k6 ∧ p2 = true
                   · obtain ⟨hi, rfl⟩ := hi
                     have h6 := h3 rfl
                     have hst := sb_step (rd_S b) hI hi
                     have hc1 := r_l5Num b (p1, true) hb
                     have hc2 := r_l5Num b (rdS b (p1, true)).2 hb
                     have hc3 := r_l5Num b (rdS b (rdS b (p1, true)).2).2 hb
                     (try dsimp only at hc1 hc2 hc3 hst)
                     generalize rdS b (p1, true) = q3 at *
                     generalize rdS b q3.2 = q4 at *
                     generalize rdS b q4.2 = q5 at *
                     (repeat' ((conv => whnf); first | (apply nx; intro s) | (apply rg; intro s k) | ((first | refine cas (fun h => ?_) (fun h => ?_) | refine may (fun h => ?_) ?_) <;> (try simp [-List.getD_eq_getElem?_getD] at h)) | (refine giv fun hg => ?_; (try simp only [byE] at hg)) | refine need (by first | kernel_rfl | omega | (simp; done) | (simp; omega)) ?_ | (exfalso; omega) | (refine call_g [1] (hc1) rfl rfl rfl ?_ ?_ ?_ ?_ ?_; iterate 4 (focus (repeat' first | exact trivial | refine ⟨?_, ?_⟩ | exact rfl | exact oR | exact orB rfl | exact oL); (first | done | fail))) | (refine call_g [1] (hc2) rfl rfl rfl ?_ ?_ ?_ ?_ ?_; iterate 4 (focus (repeat' first | exact trivial | refine ⟨?_, ?_⟩ | exact rfl | exact oR | exact orB rfl | exact oL); (first | done | fail))) | (refine call_g [1] (hc3) rfl rfl rfl ?_ ?_ ?_ ?_ ?_; iterate 4 (focus (repeat' first | exact trivial | refine ⟨?_, ?_⟩ | exact rfl | exact oR | exact orB rfl | exact oL); (first | done | fail))) | (refine need (by simp only [byE, chunk, List.length_append, List.length_cons, List.length_nil]; omega) ?_) | (refine ⟨(l + 1, bf ++ [⟨q3.1, q4.1, q5.1⟩], q5.2), ⟨hst, by simp [h2], fun _ => h6⟩, by dsimp only; omega, ?_⟩) | ((first | refine fin_au rfl ?_ | apply WkF.au); (conv => whnf); ((repeat' first | exact trivial | refine ⟨?_, ?_⟩ | exact rfl | exact oR | exact orB rfl | exact oL) <;> (try conv => whnf) <;> (try first | apply cgB | apply cgI | apply cgS | apply cgR | apply cgD | refine cgL ?_) <;> (try (rw [wrap_i64 (by omega) (by omega)]; first | rfl | omega)))) | apply altl))
                   · have hse := sb_end' hI hi
                     rw [show n.toNat = i by omega] at hse
                     have hpn := r_specPutNode ⟨false, [], cs, List.replicate i Tr0, bf⟩ kd
                     have hfin := se_fin' hse rfl
                     generalize putNd ⟨false, [], cs, List.replicate i Tr0, bf⟩ kd = pq at *
                     obtain ⟨w, ok⟩ := pq
                     (try dsimp only at hpn hfin)
                     by_cases hok : p2 = true ∧ p1 = b.length ∧ ok = true ∧ w = b
                     · rw [hfin.1 hok]
                       obtain ⟨hk1, hk2, hk3, hk4⟩ := hok
                       (repeat' ((conv => whnf); first | (apply nx; intro s) | (apply rg; intro s k) | ((first | refine cas (fun h => ?_) (fun h => ?_) | refine may (fun h => ?_) ?_) <;> (try simp [-List.getD_eq_getElem?_getD, hk1, hk2, hk3, hk4] at h)) | (refine giv fun hg => ?_; (try simp only [byE] at hg)) | refine need (by first | kernel_rfl | omega | (simp; done) | (simp; omega)) ?_ | (exfalso; omega) | ((exfalso; exact hi ⟨by omega, by assumption⟩)) | (refine call_b (hpn) ?_ ?_ ?_ ?_ ?_ ?_; iterate 5 (focus (repeat' first | exact trivial | refine ⟨?_, ?_⟩ | exact rfl | exact oR | exact orB rfl | exact oL); (first | done | fail))) | ((first | refine fin_au rfl ?_ | apply WkF.au); (conv => whnf); ((repeat' first | exact trivial | refine ⟨?_, ?_⟩ | exact rfl | exact oR | exact orB rfl | exact oL) <;> (try conv => whnf) <;> (try first | apply cgB | apply cgI | apply cgS | apply cgR | apply cgD | refine cgL ?_) <;> (try (rw [wrap_i64 (by omega) (by omega)]; first | rfl | omega)))) | apply altl))
                     · rw [hfin.2 hok]
                       (repeat' ((conv => whnf); first | (apply nx; intro s) | (apply rg; intro s k) | ((first | refine cas (fun h => ?_) (fun h => ?_) | refine may (fun h => ?_) ?_) <;> (try simp [-List.getD_eq_getElem?_getD] at h)) | (refine giv fun hg => ?_; (try simp only [byE] at hg)) | refine need (by first | kernel_rfl | omega | (simp; done) | (simp; omega)) ?_ | (exfalso; omega) | ((exfalso; exact hi ⟨by omega, by assumption⟩)) | (refine call_b (hpn) ?_ ?_ ?_ ?_ ?_ ?_; iterate 5 (focus (repeat' first | exact trivial | refine ⟨?_, ?_⟩ | exact rfl | exact oR | exact orB rfl | exact oL); (first | done | fail))) | ((exfalso; apply hok; refine ⟨?_, ?_, ?_, ?_⟩ <;> first | assumption | omega)) | ((first | refine fin_au rfl ?_ | apply WkF.au); (conv => whnf); ((repeat' first | exact trivial | refine ⟨?_, ?_⟩ | exact rfl | exact oR | exact orB rfl | exact oL) <;> (try conv => whnf) <;> (try first | apply cgB | apply cgI | apply cgS | apply cgR | apply cgD | refine cgL ?_) <;> (try (rw [wrap_i64 (by omega) (by omega)]; first | rfl | omega)))) | apply altl))
end Go.Proofs.YthbpdhppelaihaaGreat