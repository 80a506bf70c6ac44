/- The planner: pages and trees. Conditions: none. -/
import Derived.Test.YthbpdhppelaihaaGreatBM
import Derived.Test.YthbpdhppelaihaaGreatBK
set_option linter.unusedVariables false
set_option linter.unusedSimpArgs false
namespace Go.Proofs.YthbpdhppelaihaaGreat
open Go.RowKit
attribute [local irreducible] Tri Weak
set_option maxRecDepth 4000
set_option maxHeartbeats 4000000
theorem skip_go {tk : List Bool} {a : Nat} (h : a < tk.length) (ht : tk.getD a (dflt .bool) = true) : skipT tk (a + 1) = skipT tk a := by
 unfold skipT
 rw [drop_getD h (dflt .bool), ht, List.takeWhile_cons, if_pos rfl, List.length_cons]
 omega
theorem skip_stop {tk : List Bool} {a : Nat} (h : a < tk.length → tk.getD a (dflt .bool) = false) : skipT tk a = a := by
 unfold skipT
 by_cases hl : a < tk.length
 · rw [drop_getD hl (dflt .bool), h hl, List.takeWhile_cons, if_neg (by decide)]; rfl
 · rw [List.drop_of_length_le (by omega)]; rfl
abbrev plO (tk : List Bool) (q : PSt) : Hp := [(0, .box [.rw 1, aI q.at_, .rw 2, .c (.bool q.bad)]), (1, .row .bool tk), (2, .row .wr q.list)]
abbrev plN (tk : List Bool) (q : PSt) : Hp := [(0, .box [.rw 1, aI q.at_, .rw 3, .c (.bool q.bad)]), (1, .row .bool tk), (2, .gone), (3, .row .wr q.list)]
theorem r_page (tk : List Bool) (htk : tk.length ≤ 1099511627776) (q : PSt) (hq : q.at_ ≤ tk.length) : Ret Tryz.prog 203 [.pt 0 0] (plO tk q) (aI (pageF tk q).1) (plO tk (pageF tk q).2) := by
 have hsl := (skip_laws hq).2.1
 have hgo := @skip_go tk
 have hstop := @skip_stop tk
 obtain ⟨a0, ls, bd⟩ := q
 dsimp only at hq hsl
 unfold pageF
 dsimp only
 refine ret_vc hT hM Tryz.func203 rfl rfl (m := 3) (nx := 3) rfl (Nat.le_of_ble_eq_true rfl) ?_
 (repeat' ((conv => whnf); first | (apply nx; intro s) | (apply rg; intro s k) | ((first | refine cas (fun h => ?_) (fun h => ?_) | refine may (fun h => ?_) ?_) <;> (try simp [-List.getD_eq_getElem?_getD] at h)) | (refine giv fun hg => ?_; (try simp only [byE] at hg)) | refine need (by first | kernel_rfl | omega | (simp; done) | (simp; omega)) ?_ | ((first | refine fin_au rfl ?_ | apply WkF.au); (conv => whnf); ((repeat' first | exact trivial | refine ⟨?_, ?_⟩ | exact rfl | exact oR | exact orB rfl | exact oL) <;> (try conv => whnf) <;> (try first | apply cgB | apply cgI | apply cgS | apply cgR | apply cgD | refine cgL ?_) <;> (try (rw [wrap_i64 (by omega) (by omega)]; first | rfl | omega)))) | apply altl))
 (repeat ((conv => whnf); first | (apply nx; intro s) | (apply rg; intro s k))); (conv => whnf)
 refine Tri.loop (fun a : Nat => ⟨[(0, .pt 0 0)], [(0, .box [.rw 1, aI a, .rw 2, .c (.bool bd)]), (1, .row .bool tk), (2, .row .wr ls)], 3⟩) (fun a => a ≤ tk.length ∧ skipT tk a = skipT tk a0) (fun a => tk.length - a) a0 ⟨hq, rfl⟩ ?_ ?_
 · (apply WkF.au; (conv => whnf); ((repeat' first | exact trivial | refine ⟨?_, ?_⟩ | exact rfl | exact oR | exact orB rfl | exact oL) <;> (try conv => whnf) <;> (try first | apply cgB | apply cgI | apply cgS | apply cgR | apply cgD | refine cgL ?_) <;> (try (rw [wrap_i64 (by omega) (by omega)]; first | rfl | omega))))
 · intro a ⟨h1, h2⟩
   refine vc_sound hT hM _ _ _ ?_
   by_cases hlt : a < tk.length
   · have hgo' := hgo hlt
     have hst' := @hstop a
     by_cases hv : tk.getD a (dflt .bool) = true
     · (repeat' ((conv => whnf); first | (apply nx; intro s) | (apply rg; intro s k) | ((first | refine cas (fun h => ?_) (fun h => ?_) | refine may (fun h => ?_) ?_) <;> (try simp [-List.getD_eq_getElem?_getD, hv] at h)) | (refine giv fun hg => ?_; (try simp only [byE] at hg)) | refine need (by first | kernel_rfl | omega | (simp; done) | (simp; omega)) ?_ | (exfalso; omega) | (refine ⟨a + 1, ⟨by omega, (hgo' hv).trans h2⟩, by omega, ?_⟩) | ((first | refine fin_au rfl ?_ | apply WkF.au); (conv => whnf); ((repeat' first | exact trivial | refine ⟨?_, ?_⟩ | exact rfl | exact oR | exact orB rfl | exact oL) <;> (try conv => whnf) <;> (try first | apply cgB | apply cgI | apply cgS | apply cgR | apply cgD | refine cgL ?_) <;> (try (rw [wrap_i64 (by omega) (by omega)]; first | rfl | omega)))) | apply altl))
     · have hv' : tk.getD a (dflt .bool) = false := by simpa [-List.getD_eq_getElem?_getD] using hv
       rw [hst' fun _ => hv'] at h2
       rw [← h2, if_pos hlt]
       (repeat' ((conv => whnf); first | (apply nx; intro s) | (apply rg; intro s k) | ((first | refine cas (fun h => ?_) (fun h => ?_) | refine may (fun h => ?_) ?_) <;> (try simp [-List.getD_eq_getElem?_getD, hv'] at h)) | (refine giv fun hg => ?_; (try simp only [byE] at hg)) | refine need (by first | kernel_rfl | omega | (simp; done) | (simp; omega)) ?_ | (exfalso; omega) | ((first | refine fin_au rfl ?_ | apply WkF.au); (conv => whnf); ((repeat' first | exact trivial | refine ⟨?_, ?_⟩ | exact rfl | exact oR | exact orB rfl | exact oL) <;> (try conv => whnf) <;> (try first | apply cgB | apply cgI | apply cgS | apply cgR | apply cgD | refine cgL ?_) <;> (try (rw [wrap_i64 (by omega) (by omega)]; first | rfl | omega)))) | apply altl))
       all_goals (dsimp only; rw [wrap_i64 (n := (a : Int) + 1) (by omega) (by omega), wrap_i64 (by omega) (by omega)]; omega)
   · rw [hstop fun h => (hlt h).elim] at h2
     rw [← h2, if_neg hlt]
     (repeat' ((conv => whnf); first | (apply nx; intro s) | (apply rg; intro s k) | ((first | refine cas (fun h => ?_) (fun h => ?_) | refine may (fun h => ?_) ?_) <;> (try simp [-List.getD_eq_getElem?_getD] at h)) | (refine giv fun hg => ?_; (try simp only [byE] at hg)) | refine need (by first | kernel_rfl | omega | (simp; done) | (simp; omega)) ?_ | (exfalso; omega) | ((first | refine fin_au rfl ?_ | apply WkF.au); (conv => whnf); ((repeat' first | exact trivial | refine ⟨?_, ?_⟩ | exact rfl | exact oR | exact orB rfl | exact oL) <;> (try conv => whnf) <;> (try first | apply cgB | apply cgI | apply cgS | apply cgR | apply cgD | refine cgL ?_) <;> (try (rw [wrap_i64 (by omega) (by omega)]; first | rfl | omega)))) | apply altl))
theorem page_le {tk : List Bool} {q : PSt} (hq : q.at_ ≤ tk.length) : (pageF tk q).2.at_ ≤ tk.length ∧ (pageF tk q).2.list = q.list := by
 have := (skip_laws hq).2.1
 unfold pageF
 split
 · exact ⟨by dsimp only; omega, rfl⟩
 · exact ⟨by dsimp only; omega, rfl⟩
theorem put_le {tk : List Bool} {t : Tr} {r : List Int × PSt} (hq : r.2.at_ ≤ tk.length) : (putP tk t r).2.at_ ≤ tk.length ∧ (putP tk t r).2.list.length = r.2.list.length + 1 := by
 obtain ⟨h1, h2⟩ := page_le hq
 unfold putP
 dsimp only
 exact ⟨h1, by rw [h2, List.length_append]; rfl⟩
mutual
theorem plT_le {tk : List Bool} : ∀ (t : Tr) (q : PSt), q.at_ ≤ tk.length → (plT tk t q).2.at_ ≤ tk.length ∧ (plT tk t q).2.list.length = q.list.length + nodes t
 | ⟨l, ps, cs, kd, bf⟩, q, h => by
   obtain ⟨h1, h2⟩ := plL_le kd q h
   obtain ⟨h3, h4⟩ := put_le (tk := tk) (t := ⟨l, ps, cs, kd, bf⟩) h1
   rw [plT_eq, nodes_eq]
   exact ⟨h3, by rw [h4, h2]; dsimp only; omega⟩
theorem plL_le {tk : List Bool} : ∀ (ts : List Tr) (q : PSt), q.at_ ≤ tk.length → (plL tk ts q).2.at_ ≤ tk.length ∧ (plL tk ts q).2.list.length = q.list.length + nodes.nodesL ts
 | [], q, h => ⟨h, by simp [plL, nodes.nodesL]⟩
 | t :: ts, q, h => by
   obtain ⟨h1, h2⟩ := plT_le t q h
   obtain ⟨h3, h4⟩ := plL_le ts (plT tk t q).2 h1
   rw [plL_cons]
   exact ⟨h3, by dsimp only; rw [h4, h2]; simp only [nodes.nodesL]; omega⟩
end
theorem nodesL_app : ∀ a b : List Tr, nodes.nodesL (a ++ b) = nodes.nodesL a + nodes.nodesL b
 | [], b => by simp [nodes.nodesL]
 | t :: a, b => by simp only [List.cons_append, nodes.nodesL, nodesL_app a b]; omega
theorem nodesL_take {ts : List Tr} {i : Nat} (h : i < ts.length) : nodes.nodesL (ts.take i) + nodes (ts.getD i (dflt .tr)) ≤ nodes.nodesL ts := by
 have h1 : ts = ts.take i ++ ts.drop i := (List.take_append_drop i ts).symm
 have h2 := nodesL_app (ts.take i) (ts.drop i)
 rw [← h1, drop_getD h (dflt .tr)] at h2
 simp only [nodes.nodesL] at h2
 omega
theorem nodesL_len : ∀ ts : List Tr, ts.length ≤ nodes.nodesL ts
 | [] => by simp [nodes.nodesL]
 | t :: ts => by have := nodesL_len ts; have := nodes_eq t; simp only [nodes.nodesL, List.length_cons]; omega
def plS (i : Nat) (tk : List Bool) (q : PSt) (t : Tr) (ks : List Int) : St :=
 match i with
 | 0 => ⟨[(0, .pt 0 0), (3, .pt 3 0), (5, .rw 4), (14, aL .tr t.kids), (15, aI t.kids.length), (16, aI 0)], [(0, .box [.rw 1, aI q.at_, .rw 2, .c (.bool q.bad)]), (1, .row .bool tk), (2, .row .wr q.list), (3, .box ((cells .tr t).map .c)), (4, .row .int ks)], 5⟩
 | i + 1 => ⟨[(0, .pt 0 0), (3, .pt 3 0), (5, .rw 4), (14, aL .tr t.kids), (15, aI t.kids.length), (16, aI ((i + 1 : Nat) : Int))], [(0, .box [.rw 1, aI q.at_, .rw 5, .c (.bool q.bad)]), (1, .row .bool tk), (2, .gone), (3, .box ((cells .tr t).map .c)), (4, .row .int ks), (5, .row .wr q.list)], 6⟩
theorem planTree' (tk : List Bool) (htk : tk.length ≤ 1099511627776) : ∀ (n : Nat) (t : Tr), SizeOf.sizeOf t < n → ∀ (q : PSt), q.at_ ≤ tk.length → q.list.length + nodes t ≤ 1073741824 → Ret Tryz.prog 136 [.pt 0 0, agE .tr t] (plO tk q) (aI (plT tk t q).1) (plN tk (plT tk t q).2) := by
 intro n
 induction n with
 | zero => intro t h; omega
 | succ n ih =>
   intro t hn q hq hsz
   have hst := @plL_step tk t.kids q
   have hle := fun i => plL_le (tk := tk) (t.kids.take i) q hq
   have hnt := @nodesL_take t.kids
   have hnl := nodesL_len t.kids
   have hz : plL tk (t.kids.take 0) q = ([], q) := rfl
   rw [nodes_eq] at hsz
   refine ret_vc hT hM Tryz.func136 rfl rfl (m := 3) (nx := 3) rfl (Nat.le_of_ble_eq_true rfl) ?_
   (repeat' ((conv => whnf); first | (apply nx; intro s) | (apply rg; intro s k) | ((first | refine cas (fun h => ?_) (fun h => ?_) | refine may (fun h => ?_) ?_) <;> (try simp [-List.getD_eq_getElem?_getD] at h)) | (refine giv fun hg => ?_; (try simp only [byE] at hg)) | refine need (by first | kernel_rfl | omega | (simp; done) | (simp; omega)) ?_ | ((first | refine fin_au rfl ?_ | apply WkF.au); (conv => whnf); ((repeat' first | exact trivial | refine ⟨?_, ?_⟩ | exact rfl | exact oR | exact orB rfl | exact oL) <;> (try conv => whnf) <;> (try first | apply cgB | apply cgI | apply cgS | apply cgR | apply cgD | refine cgL ?_) <;> (try (rw [wrap_i64 (by omega) (by omega)]; first | rfl | omega)))) | apply altl))
   (repeat ((conv => whnf); first | (apply nx; intro s) | (apply rg; intro s k))); (conv => whnf)
   refine Tri.loop (fun i : Nat => plS i tk (plL tk (t.kids.take i) q).2 t (plL tk (t.kids.take i) q).1) (fun i => i ≤ t.kids.length ∧ (plL tk (t.kids.take i) q).1.length = i) (fun i => t.kids.length - i) 0 ⟨Nat.zero_le _, rfl⟩ ?_ ?_
   · (apply WkF.au; (conv => whnf); ((repeat' first | exact trivial | refine ⟨?_, ?_⟩ | exact rfl | exact oR | exact orB rfl | exact oL) <;> (try conv => whnf) <;> (try first | apply cgB | apply cgI | apply cgS | apply cgR | apply cgD | refine cgL ?_) <;> (try (rw [wrap_i64 (by omega) (by omega)]; first | rfl | omega))))
   · intro i ⟨h1, h2⟩
     have hle' := hle i
     by_cases hi : i < t.kids.length
     · have hst' := hst hi
       have hnt' := hnt hi
       have hkd : SizeOf.sizeOf (t.kids.getD i (dflt .tr)) < n := by
        have h3 := kid_lt (List.mem_of_getElem? (getD_some hi (dflt .tr)))
        omega
       have hc := ih (t.kids.getD i (dflt .tr)) hkd (plL tk (t.kids.take i) q).2 hle'.1 (by omega)
       generalize plL tk (t.kids.take i) q = z at *
       obtain ⟨ks, q1⟩ := z
       dsimp only at h2 hle' hst' hc ⊢
       generalize plT tk (t.kids.getD i (dflt .tr)) q1 = z2 at *
       obtain ⟨k2, q2⟩ := z2
       dsimp only at hst' hc ⊢
       cases i with
       | zero =>
         unfold plS
         dsimp only
         refine vc_sound hT hM _ _ _ ?_
         (repeat' ((conv => whnf); first | (apply nx; intro s) | (apply rg; intro s k) | ((first | refine cas (fun h => ?_) (fun h => ?_) | refine may (fun h => ?_) ?_) <;> (try simp [-List.getD_eq_getElem?_getD, hi] at h)) | (refine giv fun hg => ?_; (try simp only [byE] at hg)) | refine need (by first | kernel_rfl | omega | (simp; done) | (simp; omega)) ?_ | (exfalso; omega) | (refine call_g [0,1,2] (hc) rfl rfl rfl ?_ ?_ ?_ ?_ ?_; iterate 4 (focus (repeat' first | exact trivial | refine ⟨?_, ?_⟩ | exact rfl | exact oR | exact orB rfl | exact oL); (first | done | fail))) | (refine need (by simp only [byE, chunk, List.length_append, List.length_cons, List.length_nil]; omega) ?_) | (refine ⟨0 + 1, ⟨by omega, ?_⟩, by omega, ?_⟩) | ((first | refine fin_au rfl ?_ | apply WkF.au); (conv => whnf); ((repeat' first | exact trivial | refine ⟨?_, ?_⟩ | exact rfl | exact oR | exact orB rfl | exact oL) <;> (try conv => whnf) <;> (try first | apply cgB | apply cgI | apply cgS | apply cgR | apply cgD | refine cgL ?_) <;> (try (rw [wrap_i64 (by omega) (by omega)]; first | rfl | omega)))) | apply altl))
         all_goals first
          | (rw [hst']; done)
          | (rw [hst']; rfl)
          | (rw [hst']; simp [h2]; done)
       | succ i =>
         unfold plS
         dsimp only
         refine vc_sound hT hM _ _ _ ?_
         (repeat' ((conv => whnf); first | (apply nx; intro s) | (apply rg; intro s k) | ((first | refine cas (fun h => ?_) (fun h => ?_) | refine may (fun h => ?_) ?_) <;> (try simp [-List.getD_eq_getElem?_getD] at h)) | (refine giv fun hg => ?_; (try simp only [byE] at hg)) | refine need (by first | kernel_rfl | omega | (simp; done) | (simp; omega)) ?_ | (exfalso; omega) | (refine call_g [0,1,5] (hc) rfl rfl rfl ?_ ?_ ?_ ?_ ?_; iterate 4 (focus (repeat' first | exact trivial | refine ⟨?_, ?_⟩ | exact rfl | exact oR | exact orB rfl | exact oL); (first | done | fail))) | (refine need (by simp only [byE, chunk, List.length_append, List.length_cons, List.length_nil]; omega) ?_) | (refine ⟨i + 1 + 1, ⟨by omega, ?_⟩, by omega, ?_⟩) | ((first | refine fin_au rfl ?_ | apply WkF.au); (conv => whnf); ((repeat' first | exact trivial | refine ⟨?_, ?_⟩ | exact rfl | exact oR | exact orB rfl | exact oL) <;> (try conv => whnf) <;> (try first | apply cgB | apply cgI | apply cgS | apply cgR | apply cgD | refine cgL ?_) <;> (try (rw [wrap_i64 (by omega) (by omega)]; first | rfl | omega)))) | apply altl))
         all_goals first
          | (rw [hst']; done)
          | (rw [hst']; rfl)
          | (rw [hst']; simp [h2]; done)
     · have hte : t.kids.take i = t.kids := List.take_of_length_le (by omega)
       rw [hte] at h2 hle'
       rw [plT_eq, hte]
       clear hst hle hnt ih hz hte
       generalize plL tk t.kids q = z at *
       obtain ⟨ks, q1⟩ := z
       dsimp only at h2 hle'
       have hc := r_page tk htk q1 hle'.1
       have hpl := page_le hle'.1
       have hpn := r_implPutNode t ks
       unfold putP
       dsimp only
       generalize pageF tk q1 = pg at *
       obtain ⟨pr, q2⟩ := pg
       obtain ⟨qa, ql, qb⟩ := q2
       dsimp only at hpl hc hpn ⊢
       obtain ⟨hp1, hp2⟩ := hpl
       subst hp2
       have hwl := putNd_le t ks
       generalize putNd t ks = w at *
       obtain ⟨w1, w2⟩ := w
       dsimp only at hwl hpn ⊢
       cases i with
       | zero =>
         unfold plS
         dsimp only
         refine vc_sound hT hM _ _ _ ?_
         (repeat' ((conv => whnf); first | (apply nx; intro s) | (apply rg; intro s k) | ((first | refine cas (fun h => ?_) (fun h => ?_) | refine may (fun h => ?_) ?_) <;> (try simp [-List.getD_eq_getElem?_getD] at h)) | (refine giv fun hg => ?_; (try simp only [byE] at hg)) | refine need (by first | kernel_rfl | omega | (simp; done) | (simp; omega)) ?_ | (exfalso; omega) | (refine call_g [0,1,2] (hc) rfl rfl rfl ?_ ?_ ?_ ?_ ?_; iterate 4 (focus (repeat' first | exact trivial | refine ⟨?_, ?_⟩ | exact rfl | exact oR | exact orB rfl | exact oL); (first | done | fail))) | (refine call_b (hpn) ?_ ?_ ?_ ?_ ?_ ?_; iterate 5 (focus (repeat' first | exact trivial | refine ⟨?_, ?_⟩ | exact rfl | exact oR | exact orB rfl | exact oL); (first | done | fail))) | (refine need (by simp only [byE, chunk, List.length_append, List.length_cons, List.length_nil]; omega) ?_) | ((first | refine fin_au rfl ?_ | apply WkF.au); (conv => whnf); ((repeat' first | exact trivial | refine ⟨?_, ?_⟩ | exact rfl | exact oR | exact orB rfl | exact oL) <;> (try conv => whnf) <;> (try first | apply cgB | apply cgI | apply cgS | apply cgR | apply cgD | refine cgL ?_) <;> (try (rw [wrap_i64 (by omega) (by omega)]; first | rfl | omega)))) | apply altl))
         all_goals (dsimp only; simp [h])
       | succ i =>
         unfold plS
         dsimp only
         refine vc_sound hT hM _ _ _ ?_
         (repeat' ((conv => whnf); first | (apply nx; intro s) | (apply rg; intro s k) | ((first | refine cas (fun h => ?_) (fun h => ?_) | refine may (fun h => ?_) ?_) <;> (try simp [-List.getD_eq_getElem?_getD] at h)) | (refine giv fun hg => ?_; (try simp only [byE] at hg)) | refine need (by first | kernel_rfl | omega | (simp; done) | (simp; omega)) ?_ | (exfalso; omega) | (refine call_g [0,1,5] (hc) rfl rfl rfl ?_ ?_ ?_ ?_ ?_; iterate 4 (focus (repeat' first | exact trivial | refine ⟨?_, ?_⟩ | exact rfl | exact oR | exact orB rfl | exact oL); (first | done | fail))) | (refine call_b (hpn) ?_ ?_ ?_ ?_ ?_ ?_; iterate 5 (focus (repeat' first | exact trivial | refine ⟨?_, ?_⟩ | exact rfl | exact oR | exact orB rfl | exact oL); (first | done | fail))) | (refine need (by simp only [byE, chunk, List.length_append, List.length_cons, List.length_nil]; omega) ?_) | ((first | refine fin_au rfl ?_ | apply WkF.au); (conv => whnf); ((repeat' first | exact trivial | refine ⟨?_, ?_⟩ | exact rfl | exact oR | exact orB rfl | exact oL) <;> (try conv => whnf) <;> (try first | apply cgB | apply cgI | apply cgS | apply cgR | apply cgD | refine cgL ?_) <;> (try (rw [wrap_i64 (by omega) (by omega)]; first | rfl | omega)))) | apply altl))
         all_goals (dsimp only; simp [h])
theorem r_planTree (tk : List Bool) (htk : tk.length ≤ 1099511627776) (t : Tr) (q : PSt) (hq : q.at_ ≤ tk.length) (hs : q.list.length + nodes t ≤ 1073741824) : Ret Tryz.prog 136 [.pt 0 0, agE .tr t] (plO tk q) (aI (plT tk t q).1) (plN tk (plT tk t q).2) := planTree' tk htk _ t (Nat.lt_succ_self _) q hq hs
end Go.Proofs.YthbpdhppelaihaaGreat