/- What is drawn: trees. Conditions: none. -/
import Derived.Test.YthbpdhppelaihaaGreatBT
import Derived.Test.YthbpdhppelaihaaGreatBV
set_option linter.unusedVariables false
set_option linter.unusedSimpArgs false
namespace Go.Proofs.YthbpdhppelaihaaGreat
open Go.RowKit
attribute [local irreducible] Tri Weak
set_option maxRecDepth 4000
set_option maxHeartbeats 4000000
theorem r_specTreeNew : Ret Tryz.prog 51 [] [] (trA (lf [])) (trH (lf [])) := by
 refine ret_vc hT hM Tryz.func51 rfl rfl (m := 0) (nx := 0) rfl (Nat.le_of_ble_eq_true rfl) ?_
 (repeat' ((conv => whnf); first | (apply nx; intro s) | (apply rg; intro s k) | ((first | refine cas (fun h => ?_) (fun h => ?_) | refine may (fun h => ?_) ?_) <;> (try simp [-List.getD_eq_getElem?_getD] at h)) | (refine giv fun hg => ?_; (try simp only [byE] at hg)) | refine need (by first | kernel_rfl | omega | (simp; done) | (simp; omega)) ?_ | ((first | refine fin_au rfl ?_ | apply WkF.au); (conv => whnf); ((repeat' first | exact trivial | refine ⟨?_, ?_⟩ | exact rfl | exact oR | exact orB rfl | exact oL) <;> (try conv => whnf) <;> (try first | apply cgB | apply cgI | apply cgS | apply cgR | apply cgD | refine cgL ?_) <;> (try (rw [wrap_i64 (by omega) (by omega)]; first | rfl | omega)))) | apply altl))
theorem r_specInjectR (t : Tr) (m : Ms) : Ret Tryz.prog 19 [agE .tr t, agE .ms m] [] (trA (injF t m)) (trH (injF t m)) := ret_tree (r_specInject t m)
theorem r_specDrainR (t : Tr) : Ret Tryz.prog 23 [agE .tr t] [] (trA (drnF t)) (trH (drnF t)) := ret_tree (r_specDrain t)
theorem r_l2CopyR (t : Tr) : Ret Tryz.prog 75 [agE .tr t] [] (trA t) (trH t) := ret_tree (r_l2Copy t)
theorem okT_inj {t : Tr} {m : Ms} (h : okT t = true) : okT (injF t m) = true := by
 unfold injF
 split
 · rename_i h1; exact h1.2.2.2
 · exact h
def rtI (b : List UInt8) (q : Tr × Cu) : Nat → Tr × Cu
 | 0 => q
 | i + 1 => (injF (rtI b q i).1 (msF b (rtI b q i).2).1, (msF b (rtI b q i).2).2)
def rtN (b : List UInt8) (p : Cu) : Int × Cu := beF b (lgF b 30 90) p
def rtF (b : List UInt8) (p : Cu) : Tr × Cu :=
 let q := rtI b (lf [], (rtN b p).2) (rtN b p).1.toNat
 (if (beF b 8 q.2).1 = 0 then drnF q.1 else q.1, (beF b 8 q.2).2)
abbrev trRA (t : Tr) : A := .ag [.c (.bool t.leaf), .rw 1, .rw 2, .rw 3, .rw 4]
abbrev trRH (t : Tr) : Hp := [(1, .row .pr t.pairs), (2, .row .int t.cuts), (3, .row .tr t.kids), (4, .row .ms t.buf)]
theorem lg_rng (b : List UInt8) : 30 ≤ lgF b 30 90 ∧ lgF b 30 90 ≤ 90 := by
 unfold lgF
 split <;> omega
theorem r_l2DrawRight (b : List UInt8) (hb : b.length ≤ 1099511627776) (p : Cu) : Ret Tryz.prog 199 [.pt 0 0, aL .u8 b] [(0, cuB b p)] (trRA (rtF b p).1) ((0, cuB b (rtF b p).2) :: trRH (rtF b p).1) := by
 have h1 := r_l1Long b 30 90 (by omega) hb
 have h2 := r_l1Below b (lgF b 30 90) (by have := lg_rng b; omega) p
 have h3 := beF_rng b (n := lgF b 30 90) (by have := lg_rng b; omega) p
 have h4 := lg_rng b
 unfold rtF rtN
 generalize lgF b 30 90 = n0 at *
 generalize beF b n0 p = q at *
 obtain ⟨n, p1⟩ := q
 dsimp only at h2 h3 ⊢
 refine ret_vc hT hM Tryz.func199 rfl rfl (m := 1) (nx := 1) rfl (Nat.le_of_ble_eq_true rfl) ?_
 (repeat' ((conv => whnf); first | (apply nx; intro s) | (apply rg; intro s k) | ((first | refine cas (fun h => ?_) (fun h => ?_) | refine may (fun h => ?_) ?_) <;> (try simp [-List.getD_eq_getElem?_getD] at h)) | (refine giv fun hg => ?_; (try simp only [byE] at hg)) | refine need (by first | kernel_rfl | omega | (simp; done) | (simp; omega)) ?_ | (refine call_n (r_specTreeNew) rfl ?_ ?_ ?_; iterate 2 (focus (repeat' first | exact trivial | refine ⟨?_, ?_⟩ | exact rfl | exact oR | exact orB rfl | exact oL); (first | done | fail))) | (refine call_p (h1) rfl (by (repeat' first | exact trivial | refine ⟨?_, ?_⟩ | exact rfl | exact oR | exact orB rfl | exact oL); (first | done | fail)) ?_) | (refine call_g [0] (h2) rfl rfl rfl ?_ ?_ ?_ ?_ ?_; iterate 4 (focus (repeat' first | exact trivial | refine ⟨?_, ?_⟩ | exact rfl | exact oR | exact orB rfl | exact oL); (first | done | fail))) | ((first | refine fin_au rfl ?_ | apply WkF.au); (conv => whnf); ((repeat' first | exact trivial | refine ⟨?_, ?_⟩ | exact rfl | exact oR | exact orB rfl | exact oL) <;> (try conv => whnf) <;> (try first | apply cgB | apply cgI | apply cgS | apply cgR | apply cgD | refine cgL ?_) <;> (try (rw [wrap_i64 (by omega) (by omega)]; first | rfl | omega)))) | apply altl))
 (repeat ((conv => whnf); first | (apply nx; intro s) | (apply rg; intro s k))); (conv => whnf)
 refine Tri.loop (fun i : Nat => ⟨[(0, .pt 0 0), (4, .pt 1 0), (5, .pt 2 0), (6, aI n), (7, aI i)], [(0, cuB b (rtI b (lf [], p1) i).2), (1, .box [.kb false, .nl, .nl, .nl, .nl]), (2, .box [.c (.bool (rtI b (lf [], p1) i).1.leaf), .rw 3, .rw 4, .rw 5, .rw 6]), (3, .row .pr (rtI b (lf [], p1) i).1.pairs), (4, .row .int (rtI b (lf [], p1) i).1.cuts), (5, .row .tr (rtI b (lf [], p1) i).1.kids), (6, .row .ms (rtI b (lf [], p1) i).1.buf)], 7⟩) (fun i => (i : Int) ≤ n) (fun i => n.toNat - i) 0 h3.1 ?_ ?_
 · (apply WkF.au; (conv => whnf); ((repeat' first | exact trivial | refine ⟨?_, ?_⟩ | exact rfl | exact oR | exact orB rfl | exact oL) <;> (try conv => whnf) <;> (try first | apply cgB | apply cgI | apply cgS | apply cgR | apply cgD | refine cgL ?_) <;> (try (rw [wrap_i64 (by omega) (by omega)]; first | rfl | omega))))
 · intro i h5
   refine vc_sound hT hM _ _ _ ?_
   by_cases hi : (i : Int) < n
   · have hnx : rtI b (lf [], p1) (i + 1) = (injF (rtI b (lf [], p1) i).1 (msF b (rtI b (lf [], p1) i).2).1, (msF b (rtI b (lf [], p1) i).2).2) := rfl
     have hm := r_l1DrawMsg b (rtI b (lf [], p1) i).2
     have him := r_specInjectR (rtI b (lf [], p1) i).1 (msF b (rtI b (lf [], p1) i).2).1
     generalize rtI b (lf [], p1) i = z at *
     generalize msF b z.2 = m at *
     generalize injF z.1 m.1 = t2 at *
     (repeat' ((conv => whnf); first | (apply nx; intro s) | (apply rg; intro s k) | ((first | refine cas (fun h => ?_) (fun h => ?_) | refine may (fun h => ?_) ?_) <;> (try simp [-List.getD_eq_getElem?_getD] at h)) | (refine giv fun hg => ?_; (try simp only [byE] at hg)) | refine need (by first | kernel_rfl | omega | (simp; done) | (simp; omega)) ?_ | (exfalso; omega) | (refine call_g [0] (hm) rfl rfl rfl ?_ ?_ ?_ ?_ ?_; iterate 4 (focus (repeat' first | exact trivial | refine ⟨?_, ?_⟩ | exact rfl | exact oR | exact orB rfl | exact oL); (first | done | fail))) | (refine call_f (him) ?_ ?_ ?_ ?_; iterate 3 (focus (repeat' first | exact trivial | refine ⟨?_, ?_⟩ | exact rfl | exact oR | exact orB rfl | exact oL); (first | done | fail))) | (refine ⟨i + 1, by omega, by omega, ?_⟩) | ((first | refine fin_au rfl ?_ | apply WkF.au); (conv => whnf); ((repeat' first | exact trivial | refine ⟨?_, ?_⟩ | exact rfl | exact oR | exact orB rfl | exact oL) <;> (try conv => whnf) <;> (try first | apply cgB | apply cgI | apply cgS | apply cgR | apply cgD | refine cgL ?_) <;> (try (rw [wrap_i64 (by omega) (by omega)]; first | rfl | omega)))) | apply altl))
     all_goals (rw [hnx])
   · obtain rfl : i = n.toNat := by omega
     generalize rtI b (lf [], p1) n.toNat = z at *
     obtain ⟨t, p2⟩ := z
     have ho := r_l1Once b 8 (by omega) p2
     have hdr := r_specDrainR t
     dsimp only
     generalize beF b 8 p2 = o at *
     by_cases hz : o.1 = 0
     · rw [if_pos hz]
       generalize drnF t = t2 at *
       (repeat' ((conv => whnf); first | (apply nx; intro s) | (apply rg; intro s k) | ((first | refine cas (fun h => ?_) (fun h => ?_) | refine may (fun h => ?_) ?_) <;> (try simp [-List.getD_eq_getElem?_getD, hz] at h)) | (refine giv fun hg => ?_; (try simp only [byE] at hg)) | refine need (by first | kernel_rfl | omega | (simp; done) | (simp; omega)) ?_ | (exfalso; omega) | (refine call_g [0] (ho) rfl rfl rfl ?_ ?_ ?_ ?_ ?_; iterate 4 (focus (repeat' first | exact trivial | refine ⟨?_, ?_⟩ | exact rfl | exact oR | exact orB rfl | exact oL); (first | done | fail))) | (refine call_f (hdr) ?_ ?_ ?_ ?_; iterate 3 (focus (repeat' first | exact trivial | refine ⟨?_, ?_⟩ | exact rfl | exact oR | exact orB rfl | exact oL); (first | done | fail))) | ((first | refine fin_au rfl ?_ | apply WkF.au); (conv => whnf); ((repeat' first | exact trivial | refine ⟨?_, ?_⟩ | exact rfl | exact oR | exact orB rfl | exact oL) <;> (try conv => whnf) <;> (try first | apply cgB | apply cgI | apply cgS | apply cgR | apply cgD | refine cgL ?_) <;> (try (rw [wrap_i64 (by omega) (by omega)]; first | rfl | omega)))) | apply altl))
     · rw [if_neg hz]
       (repeat' ((conv => whnf); first | (apply nx; intro s) | (apply rg; intro s k) | ((first | refine cas (fun h => ?_) (fun h => ?_) | refine may (fun h => ?_) ?_) <;> (try simp [-List.getD_eq_getElem?_getD, hz] at h)) | (refine giv fun hg => ?_; (try simp only [byE] at hg)) | refine need (by first | kernel_rfl | omega | (simp; done) | (simp; omega)) ?_ | (exfalso; omega) | (refine call_g [0] (ho) rfl rfl rfl ?_ ?_ ?_ ?_ ?_; iterate 4 (focus (repeat' first | exact trivial | refine ⟨?_, ?_⟩ | exact rfl | exact oR | exact orB rfl | exact oL); (first | done | fail))) | ((first | refine fin_au rfl ?_ | apply WkF.au); (conv => whnf); ((repeat' first | exact trivial | refine ⟨?_, ?_⟩ | exact rfl | exact oR | exact orB rfl | exact oL) <;> (try conv => whnf) <;> (try first | apply cgB | apply cgI | apply cgS | apply cgR | apply cgD | refine cgL ?_) <;> (try (rw [wrap_i64 (by omega) (by omega)]; first | rfl | omega)))) | apply altl))
theorem ok_lens {t : Tr} (h : NodeOk t) : t.buf.length ≤ 6 ∧ t.pairs.length ≤ 4 ∧ t.cuts.length ≤ 4 := by
 have h1 := h (List.replicate t.kids.length 0) (by simp) fun x hx => by rw [(List.mem_replicate.1 hx).2]; decide
 have h2 := (good_put.2 (Prod.ext rfl h1 : putNd t (List.replicate t.kids.length 0) = ((putNd t (List.replicate t.kids.length 0)).1, true))).1
 cases hl : t.leaf with
 | true => rw [nodeB_leaf hl] at h2; omega
 | false => rw [nodeB_node hl, List.length_replicate] at h2; omega
theorem okT_lens {t : Tr} (h : okT t = true) : t.buf.length ≤ 6 ∧ t.pairs.length ≤ 4 ∧ t.cuts.length ≤ 4 := ok_lens (okT_nice h).1
theorem okT_drn {t : Tr} (h : okT t = true) : okT (drnF t) = true := by
 unfold drnF
 split
 · rename_i h1; exact h1.2
 · exact h
theorem okT_rtI (b : List UInt8) {q : Tr × Cu} (h : okT q.1 = true) : ∀ i, okT (rtI b q i).1 = true
 | 0 => h
 | i + 1 => okT_inj (okT_rtI b h i)
theorem okT_rt (b : List UInt8) (p : Cu) : okT (rtF b p).1 = true := by
 unfold rtF
 dsimp only
 have h := okT_rtI b (q := (lf [], (rtN b p).2)) (show okT (lf []) = true by decide) (rtN b p).1.toNat
 split
 · exact okT_drn h
 · exact h
def twF (b : List UInt8) (p : Cu) : Tr × Cu :=
 let q := rtF b p
 let s := beF b 25 q.2
 if s.1 = 0 then (⟨!q.1.leaf, q.1.pairs, q.1.cuts, q.1.kids, q.1.buf⟩, s.2)
 else if s.1 = 1 then (⟨q.1.leaf, q.1.pairs, q.1.cuts, q.1.kids, q.1.buf ++ [(bdF b s.2).1]⟩, (bdF b s.2).2)
 else if s.1 = 2 then (⟨q.1.leaf, q.1.pairs ++ [⟨(beF b 40 s.2).1, 0⟩], q.1.cuts, q.1.kids, q.1.buf⟩, (beF b 40 s.2).2)
 else if s.1 = 3 then (if 0 < q.1.cuts.length then (⟨q.1.leaf, q.1.pairs, q.1.cuts.set 0 (beF b 40 s.2).1, q.1.kids, q.1.buf⟩, (beF b 40 s.2).2) else (q.1, s.2))
 else if s.1 = 4 then (if 0 < q.1.kids.length then (⟨q.1.leaf, q.1.pairs, q.1.cuts, q.1.kids.set 0 (lf []), q.1.buf⟩, s.2) else (q.1, s.2))
 else if s.1 = 5 then (if 1 < q.1.kids.length then (⟨q.1.leaf, q.1.pairs, q.1.cuts, q.1.kids.set 0 (q.1.kids.getD 1 (dflt .tr)), q.1.buf⟩, s.2) else (q.1, s.2))
 else (q.1, s.2)
theorem r_l2Draw (b : List UInt8) (hb : b.length ≤ 1099511627776) (p : Cu) : Ret Tryz.prog 134 [.pt 0 0, aL .u8 b] [(0, cuB b p)] (agE .tr (twF b p).1) [(0, cuB b (twF b p).2)] := by
 have h1 := r_l2DrawRight b hb p
 have hok := okT_lens (okT_rt b p)
 unfold twF
 generalize rtF b p = q at *
 obtain ⟨⟨tl, tp, tc, tk, tb⟩, p1⟩ := q
 dsimp only at h1 hok ⊢
 have h2 := r_l1Below b 25 (by omega) p1
 generalize beF b 25 p1 = s0 at *
 obtain ⟨s1, p2⟩ := s0
 dsimp only at h2 ⊢
 have h3 := r_l1DrawBad b p2
 generalize bdF b p2 = m at *
 have h4 := r_l1Below b 40 (by omega) p2
 generalize beF b 40 p2 = k1 at *
 have hcp := r_l2CopyR (tk.getD 1 (dflt .tr))
 have htn := r_specTreeNew
 by_cases z0 : s1 = 0
 · rw [if_pos z0]
   refine ret_vc hT hM Tryz.func134 rfl rfl (m := 1) (nx := 1) rfl (Nat.le_of_ble_eq_true rfl) ?_
   (repeat' ((conv => whnf); first | (apply nx; intro s) | (apply rg; intro s k) | ((first | refine cas (fun h => ?_) (fun h => ?_) | refine may (fun h => ?_) ?_) <;> (try simp [-List.getD_eq_getElem?_getD, -List.length_eq_zero_iff] at h)) | (refine giv fun hg => ?_; (try simp only [byE] at hg)) | refine need (by first | kernel_rfl | omega | (simp; done) | (simp; omega)) ?_ | (exfalso; omega) | (refine call_g [0] (h1) rfl rfl rfl ?_ ?_ ?_ ?_ ?_; iterate 4 (focus (repeat' first | exact trivial | refine ⟨?_, ?_⟩ | exact rfl | exact oR | exact orB rfl | exact oL); (first | done | fail))) | (refine call_g [0] (h2) rfl rfl rfl ?_ ?_ ?_ ?_ ?_; iterate 4 (focus (repeat' first | exact trivial | refine ⟨?_, ?_⟩ | exact rfl | exact oR | exact orB rfl | exact oL); (first | done | fail))) | (refine need (by simp only [byE, chunk, List.length_append, List.length_cons, List.length_nil]; omega) ?_) | ((first | refine fin_au rfl ?_ | apply WkF.au); (conv => whnf); ((repeat' first | exact trivial | refine ⟨?_, ?_⟩ | exact rfl | exact oR | exact orB rfl | exact oL) <;> (try conv => whnf) <;> (try first | apply cgB | apply cgI | apply cgS | apply cgR | apply cgD | refine cgL ?_) <;> (try (rw [wrap_i64 (by omega) (by omega)]; first | rfl | omega)))) | apply altl))
 · rw [if_neg z0]
   by_cases z1 : s1 = 1
   · rw [if_pos z1]
     refine ret_vc hT hM Tryz.func134 rfl rfl (m := 1) (nx := 1) rfl (Nat.le_of_ble_eq_true rfl) ?_
     (repeat' ((conv => whnf); first | (apply nx; intro s) | (apply rg; intro s k) | ((first | refine cas (fun h => ?_) (fun h => ?_) | refine may (fun h => ?_) ?_) <;> (try simp [-List.getD_eq_getElem?_getD, -List.length_eq_zero_iff] at h)) | (refine giv fun hg => ?_; (try simp only [byE] at hg)) | refine need (by first | kernel_rfl | omega | (simp; done) | (simp; omega)) ?_ | (exfalso; omega) | (refine call_g [0] (h1) rfl rfl rfl ?_ ?_ ?_ ?_ ?_; iterate 4 (focus (repeat' first | exact trivial | refine ⟨?_, ?_⟩ | exact rfl | exact oR | exact orB rfl | exact oL); (first | done | fail))) | (refine call_g [0] (h2) rfl rfl rfl ?_ ?_ ?_ ?_ ?_; iterate 4 (focus (repeat' first | exact trivial | refine ⟨?_, ?_⟩ | exact rfl | exact oR | exact orB rfl | exact oL); (first | done | fail))) | (refine call_g [0] (h3) rfl rfl rfl ?_ ?_ ?_ ?_ ?_; iterate 4 (focus (repeat' first | exact trivial | refine ⟨?_, ?_⟩ | exact rfl | exact oR | exact orB rfl | exact oL); (first | done | fail))) | (refine need (by simp only [byE, chunk, List.length_append, List.length_cons, List.length_nil]; omega) ?_) | ((first | refine fin_au rfl ?_ | apply WkF.au); (conv => whnf); ((repeat' first | exact trivial | refine ⟨?_, ?_⟩ | exact rfl | exact oR | exact orB rfl | exact oL) <;> (try conv => whnf) <;> (try first | apply cgB | apply cgI | apply cgS | apply cgR | apply cgD | refine cgL ?_) <;> (try (rw [wrap_i64 (by omega) (by omega)]; first | rfl | omega)))) | apply altl))
   · rw [if_neg z1]
     by_cases z2 : s1 = 2
     · rw [if_pos z2]
       refine ret_vc hT hM Tryz.func134 rfl rfl (m := 1) (nx := 1) rfl (Nat.le_of_ble_eq_true rfl) ?_
       (repeat' ((conv => whnf); first | (apply nx; intro s) | (apply rg; intro s k) | ((first | refine cas (fun h => ?_) (fun h => ?_) | refine may (fun h => ?_) ?_) <;> (try simp [-List.getD_eq_getElem?_getD, -List.length_eq_zero_iff] at h)) | (refine giv fun hg => ?_; (try simp only [byE] at hg)) | refine need (by first | kernel_rfl | omega | (simp; done) | (simp; omega)) ?_ | (exfalso; omega) | (refine call_g [0] (h1) rfl rfl rfl ?_ ?_ ?_ ?_ ?_; iterate 4 (focus (repeat' first | exact trivial | refine ⟨?_, ?_⟩ | exact rfl | exact oR | exact orB rfl | exact oL); (first | done | fail))) | (refine call_g [0] (h2) rfl rfl rfl ?_ ?_ ?_ ?_ ?_; iterate 4 (focus (repeat' first | exact trivial | refine ⟨?_, ?_⟩ | exact rfl | exact oR | exact orB rfl | exact oL); (first | done | fail))) | (refine call_g [0] (h4) rfl rfl rfl ?_ ?_ ?_ ?_ ?_; iterate 4 (focus (repeat' first | exact trivial | refine ⟨?_, ?_⟩ | exact rfl | exact oR | exact orB rfl | exact oL); (first | done | fail))) | (refine need (by simp only [byE, chunk, List.length_append, List.length_cons, List.length_nil]; omega) ?_) | ((first | refine fin_au rfl ?_ | apply WkF.au); (conv => whnf); ((repeat' first | exact trivial | refine ⟨?_, ?_⟩ | exact rfl | exact oR | exact orB rfl | exact oL) <;> (try conv => whnf) <;> (try first | apply cgB | apply cgI | apply cgS | apply cgR | apply cgD | refine cgL ?_) <;> (try (rw [wrap_i64 (by omega) (by omega)]; first | rfl | omega)))) | apply altl))
     · rw [if_neg z2]
       by_cases z3 : s1 = 3
       · rw [if_pos z3]
         by_cases hc : 0 < tc.length
         · rw [if_pos hc]
           refine ret_vc hT hM Tryz.func134 rfl rfl (m := 1) (nx := 1) rfl (Nat.le_of_ble_eq_true rfl) ?_
           (repeat' ((conv => whnf); first | (apply nx; intro s) | (apply rg; intro s k) | ((first | refine cas (fun h => ?_) (fun h => ?_) | refine may (fun h => ?_) ?_) <;> (try simp [-List.getD_eq_getElem?_getD, -List.length_eq_zero_iff] at h)) | (refine giv fun hg => ?_; (try simp only [byE] at hg)) | refine need (by first | kernel_rfl | omega | (simp; done) | (simp; omega)) ?_ | (exfalso; omega) | (refine call_g [0] (h1) rfl rfl rfl ?_ ?_ ?_ ?_ ?_; iterate 4 (focus (repeat' first | exact trivial | refine ⟨?_, ?_⟩ | exact rfl | exact oR | exact orB rfl | exact oL); (first | done | fail))) | (refine call_g [0] (h2) rfl rfl rfl ?_ ?_ ?_ ?_ ?_; iterate 4 (focus (repeat' first | exact trivial | refine ⟨?_, ?_⟩ | exact rfl | exact oR | exact orB rfl | exact oL); (first | done | fail))) | (refine call_g [0] (h4) rfl rfl rfl ?_ ?_ ?_ ?_ ?_; iterate 4 (focus (repeat' first | exact trivial | refine ⟨?_, ?_⟩ | exact rfl | exact oR | exact orB rfl | exact oL); (first | done | fail))) | (refine need (by simp only [byE, chunk, List.length_append, List.length_cons, List.length_nil]; omega) ?_) | ((first | refine fin_au rfl ?_ | apply WkF.au); (conv => whnf); ((repeat' first | exact trivial | refine ⟨?_, ?_⟩ | exact rfl | exact oR | exact orB rfl | exact oL) <;> (try conv => whnf) <;> (try first | apply cgB | apply cgI | apply cgS | apply cgR | apply cgD | refine cgL ?_) <;> (try (rw [wrap_i64 (by omega) (by omega)]; first | rfl | omega)))) | apply altl))
         · rw [if_neg hc]
           refine ret_vc hT hM Tryz.func134 rfl rfl (m := 1) (nx := 1) rfl (Nat.le_of_ble_eq_true rfl) ?_
           (repeat' ((conv => whnf); first | (apply nx; intro s) | (apply rg; intro s k) | ((first | refine cas (fun h => ?_) (fun h => ?_) | refine may (fun h => ?_) ?_) <;> (try simp [-List.getD_eq_getElem?_getD, -List.length_eq_zero_iff] at h)) | (refine giv fun hg => ?_; (try simp only [byE] at hg)) | refine need (by first | kernel_rfl | omega | (simp; done) | (simp; omega)) ?_ | (exfalso; omega) | (refine call_g [0] (h1) rfl rfl rfl ?_ ?_ ?_ ?_ ?_; iterate 4 (focus (repeat' first | exact trivial | refine ⟨?_, ?_⟩ | exact rfl | exact oR | exact orB rfl | exact oL); (first | done | fail))) | (refine call_g [0] (h2) rfl rfl rfl ?_ ?_ ?_ ?_ ?_; iterate 4 (focus (repeat' first | exact trivial | refine ⟨?_, ?_⟩ | exact rfl | exact oR | exact orB rfl | exact oL); (first | done | fail))) | (refine call_g [0] (h4) rfl rfl rfl ?_ ?_ ?_ ?_ ?_; iterate 4 (focus (repeat' first | exact trivial | refine ⟨?_, ?_⟩ | exact rfl | exact oR | exact orB rfl | exact oL); (first | done | fail))) | (refine need (by simp only [byE, chunk, List.length_append, List.length_cons, List.length_nil]; omega) ?_) | ((first | refine fin_au rfl ?_ | apply WkF.au); (conv => whnf); ((repeat' first | exact trivial | refine ⟨?_, ?_⟩ | exact rfl | exact oR | exact orB rfl | exact oL) <;> (try conv => whnf) <;> (try first | apply cgB | apply cgI | apply cgS | apply cgR | apply cgD | refine cgL ?_) <;> (try (rw [wrap_i64 (by omega) (by omega)]; first | rfl | omega)))) | apply altl))
       · rw [if_neg z3]
         by_cases z4 : s1 = 4
         · rw [if_pos z4]
           by_cases hc : 0 < tk.length
           · rw [if_pos hc]
             refine ret_vc hT hM Tryz.func134 rfl rfl (m := 1) (nx := 1) rfl (Nat.le_of_ble_eq_true rfl) ?_
             (repeat' ((conv => whnf); first | (apply nx; intro s) | (apply rg; intro s k) | ((first | refine cas (fun h => ?_) (fun h => ?_) | refine may (fun h => ?_) ?_) <;> (try simp [-List.getD_eq_getElem?_getD, -List.length_eq_zero_iff] at h)) | (refine giv fun hg => ?_; (try simp only [byE] at hg)) | refine need (by first | kernel_rfl | omega | (simp; done) | (simp; omega)) ?_ | (exfalso; omega) | (refine call_g [0] (h1) rfl rfl rfl ?_ ?_ ?_ ?_ ?_; iterate 4 (focus (repeat' first | exact trivial | refine ⟨?_, ?_⟩ | exact rfl | exact oR | exact orB rfl | exact oL); (first | done | fail))) | (refine call_g [0] (h2) rfl rfl rfl ?_ ?_ ?_ ?_ ?_; iterate 4 (focus (repeat' first | exact trivial | refine ⟨?_, ?_⟩ | exact rfl | exact oR | exact orB rfl | exact oL); (first | done | fail))) | (refine call_n (htn) rfl ?_ ?_ ?_; iterate 2 (focus (repeat' first | exact trivial | refine ⟨?_, ?_⟩ | exact rfl | exact oR | exact orB rfl | exact oL); (first | done | fail))) | (refine need (by simp only [byE, chunk, List.length_append, List.length_cons, List.length_nil]; omega) ?_) | ((first | refine fin_au rfl ?_ | apply WkF.au); (conv => whnf); ((repeat' first | exact trivial | refine ⟨?_, ?_⟩ | exact rfl | exact oR | exact orB rfl | exact oL) <;> (try conv => whnf) <;> (try first | apply cgB | apply cgI | apply cgS | apply cgR | apply cgD | refine cgL ?_) <;> (try (rw [wrap_i64 (by omega) (by omega)]; first | rfl | omega)))) | apply altl))
           · rw [if_neg hc]
             refine ret_vc hT hM Tryz.func134 rfl rfl (m := 1) (nx := 1) rfl (Nat.le_of_ble_eq_true rfl) ?_
             (repeat' ((conv => whnf); first | (apply nx; intro s) | (apply rg; intro s k) | ((first | refine cas (fun h => ?_) (fun h => ?_) | refine may (fun h => ?_) ?_) <;> (try simp [-List.getD_eq_getElem?_getD, -List.length_eq_zero_iff] at h)) | (refine giv fun hg => ?_; (try simp only [byE] at hg)) | refine need (by first | kernel_rfl | omega | (simp; done) | (simp; omega)) ?_ | (exfalso; omega) | (refine call_g [0] (h1) rfl rfl rfl ?_ ?_ ?_ ?_ ?_; iterate 4 (focus (repeat' first | exact trivial | refine ⟨?_, ?_⟩ | exact rfl | exact oR | exact orB rfl | exact oL); (first | done | fail))) | (refine call_g [0] (h2) rfl rfl rfl ?_ ?_ ?_ ?_ ?_; iterate 4 (focus (repeat' first | exact trivial | refine ⟨?_, ?_⟩ | exact rfl | exact oR | exact orB rfl | exact oL); (first | done | fail))) | (refine call_n (htn) rfl ?_ ?_ ?_; iterate 2 (focus (repeat' first | exact trivial | refine ⟨?_, ?_⟩ | exact rfl | exact oR | exact orB rfl | exact oL); (first | done | fail))) | (refine need (by simp only [byE, chunk, List.length_append, List.length_cons, List.length_nil]; omega) ?_) | ((first | refine fin_au rfl ?_ | apply WkF.au); (conv => whnf); ((repeat' first | exact trivial | refine ⟨?_, ?_⟩ | exact rfl | exact oR | exact orB rfl | exact oL) <;> (try conv => whnf) <;> (try first | apply cgB | apply cgI | apply cgS | apply cgR | apply cgD | refine cgL ?_) <;> (try (rw [wrap_i64 (by omega) (by omega)]; first | rfl | omega)))) | apply altl))
         · rw [if_neg z4]
           by_cases z5 : s1 = 5
           · rw [if_pos z5]
             by_cases hc : 1 < tk.length
             · rw [if_pos hc]
               refine ret_vc hT hM Tryz.func134 rfl rfl (m := 1) (nx := 1) rfl (Nat.le_of_ble_eq_true rfl) ?_
               (repeat' ((conv => whnf); first | (apply nx; intro s) | (apply rg; intro s k) | ((first | refine cas (fun h => ?_) (fun h => ?_) | refine may (fun h => ?_) ?_) <;> (try simp [-List.getD_eq_getElem?_getD, -List.length_eq_zero_iff] at h)) | (refine giv fun hg => ?_; (try simp only [byE] at hg)) | refine need (by first | kernel_rfl | omega | (simp; done) | (simp; omega)) ?_ | (exfalso; omega) | (refine call_g [0] (h1) rfl rfl rfl ?_ ?_ ?_ ?_ ?_; iterate 4 (focus (repeat' first | exact trivial | refine ⟨?_, ?_⟩ | exact rfl | exact oR | exact orB rfl | exact oL); (first | done | fail))) | (refine call_g [0] (h2) rfl rfl rfl ?_ ?_ ?_ ?_ ?_; iterate 4 (focus (repeat' first | exact trivial | refine ⟨?_, ?_⟩ | exact rfl | exact oR | exact orB rfl | exact oL); (first | done | fail))) | (refine call_n (hcp) rfl ?_ ?_ ?_; iterate 2 (focus (repeat' first | exact trivial | refine ⟨?_, ?_⟩ | exact rfl | exact oR | exact orB rfl | exact oL); (first | done | fail))) | (refine need (by simp only [byE, chunk, List.length_append, List.length_cons, List.length_nil]; omega) ?_) | ((first | refine fin_au rfl ?_ | apply WkF.au); (conv => whnf); ((repeat' first | exact trivial | refine ⟨?_, ?_⟩ | exact rfl | exact oR | exact orB rfl | exact oL) <;> (try conv => whnf) <;> (try first | apply cgB | apply cgI | apply cgS | apply cgR | apply cgD | refine cgL ?_) <;> (try (rw [wrap_i64 (by omega) (by omega)]; first | rfl | omega)))) | apply altl))
               all_goals (dsimp only; generalize tk.getD 1 (dflt .tr) = y; cases y; rfl)
             · rw [if_neg hc]
               refine ret_vc hT hM Tryz.func134 rfl rfl (m := 1) (nx := 1) rfl (Nat.le_of_ble_eq_true rfl) ?_
               (repeat' ((conv => whnf); first | (apply nx; intro s) | (apply rg; intro s k) | ((first | refine cas (fun h => ?_) (fun h => ?_) | refine may (fun h => ?_) ?_) <;> (try simp [-List.getD_eq_getElem?_getD, -List.length_eq_zero_iff] at h)) | (refine giv fun hg => ?_; (try simp only [byE] at hg)) | refine need (by first | kernel_rfl | omega | (simp; done) | (simp; omega)) ?_ | (exfalso; omega) | (refine call_g [0] (h1) rfl rfl rfl ?_ ?_ ?_ ?_ ?_; iterate 4 (focus (repeat' first | exact trivial | refine ⟨?_, ?_⟩ | exact rfl | exact oR | exact orB rfl | exact oL); (first | done | fail))) | (refine call_g [0] (h2) rfl rfl rfl ?_ ?_ ?_ ?_ ?_; iterate 4 (focus (repeat' first | exact trivial | refine ⟨?_, ?_⟩ | exact rfl | exact oR | exact orB rfl | exact oL); (first | done | fail))) | (refine call_n (hcp) rfl ?_ ?_ ?_; iterate 2 (focus (repeat' first | exact trivial | refine ⟨?_, ?_⟩ | exact rfl | exact oR | exact orB rfl | exact oL); (first | done | fail))) | (refine need (by simp only [byE, chunk, List.length_append, List.length_cons, List.length_nil]; omega) ?_) | ((first | refine fin_au rfl ?_ | apply WkF.au); (conv => whnf); ((repeat' first | exact trivial | refine ⟨?_, ?_⟩ | exact rfl | exact oR | exact orB rfl | exact oL) <;> (try conv => whnf) <;> (try first | apply cgB | apply cgI | apply cgS | apply cgR | apply cgD | refine cgL ?_) <;> (try (rw [wrap_i64 (by omega) (by omega)]; first | rfl | omega)))) | apply altl))
           · rw [if_neg z5]
             refine ret_vc hT hM Tryz.func134 rfl rfl (m := 1) (nx := 1) rfl (Nat.le_of_ble_eq_true rfl) ?_
             (repeat' ((conv => whnf); first | (apply nx; intro s) | (apply rg; intro s k) | ((first | refine cas (fun h => ?_) (fun h => ?_) | refine may (fun h => ?_) ?_) <;> (try simp [-List.getD_eq_getElem?_getD, -List.length_eq_zero_iff] at h)) | (refine giv fun hg => ?_; (try simp only [byE] at hg)) | refine need (by first | kernel_rfl | omega | (simp; done) | (simp; omega)) ?_ | (exfalso; omega) | (refine call_g [0] (h1) rfl rfl rfl ?_ ?_ ?_ ?_ ?_; iterate 4 (focus (repeat' first | exact trivial | refine ⟨?_, ?_⟩ | exact rfl | exact oR | exact orB rfl | exact oL); (first | done | fail))) | (refine call_g [0] (h2) rfl rfl rfl ?_ ?_ ?_ ?_ ?_; iterate 4 (focus (repeat' first | exact trivial | refine ⟨?_, ?_⟩ | exact rfl | exact oR | exact orB rfl | exact oL); (first | done | fail))) | (refine need (by simp only [byE, chunk, List.length_append, List.length_cons, List.length_nil]; omega) ?_) | ((first | refine fin_au rfl ?_ | apply WkF.au); (conv => whnf); ((repeat' first | exact trivial | refine ⟨?_, ?_⟩ | exact rfl | exact oR | exact orB rfl | exact oL) <;> (try conv => whnf) <;> (try first | apply cgB | apply cgI | apply cgS | apply cgR | apply cgD | refine cgL ?_) <;> (try (rw [wrap_i64 (by omega) (by omega)]; first | rfl | omega)))) | apply altl))
end Go.Proofs.YthbpdhppelaihaaGreat