/- Plans, on either side: the program. Conditions: none. -/
import Derived.Test.YthbpdhppelaihaaGreatBN
import Derived.Test.YthbpdhppelaihaaGreatBO
set_option linter.unusedVariables false
set_option linter.unusedSimpArgs false
namespace Go.Proofs.YthbpdhppelaihaaGreat
open Go.RowKit
attribute [local irreducible] Tri Weak
set_option maxRecDepth 4000
set_option maxHeartbeats 4000000
theorem nodesL_le {B : Nat} : ∀ {ts : List Tr}, (∀ k ∈ ts, nodes k ≤ B) → nodes.nodesL ts ≤ ts.length * B
 | [], _ => by simp [nodes.nodesL]
 | t :: ts, h => by
   have h1 := h t (by simp)
   have h2 := nodesL_le (B := B) (ts := ts) fun k hk => h k (by simp [hk])
   simp only [nodes.nodesL, List.length_cons, Nat.succ_mul]
   omega
theorem ok_kids {t : Tr} (h : NodeOk t) : t.kids.length ≤ 4 := by
 have h1 := h (List.replicate t.kids.length 0) (by simp) fun x hx => by rw [(List.mem_replicate.1 hx).2]; decide
 have h2 := (good_put.2 (Prod.ext rfl h1 : putNd t (List.replicate t.kids.length 0) = ((putNd t (List.replicate t.kids.length 0)).1, true))).1
 cases hl : t.leaf with
 | true => rw [nodeB_leaf hl] at h2; omega
 | false => rw [nodeB_node hl, List.length_replicate] at h2; omega
theorem nice_nodes : ∀ (n : Nat) (t : Tr), Nice n t → nodes t ≤ pgB n
 | 0, _, h => h.elim
 | n + 1, t, ⟨h1, h2⟩ => by
   have h3 := nodesL_le fun k hk => nice_nodes n k (h2 k hk)
   have h4 : t.kids.length * pgB n ≤ 4 * pgB n := Nat.mul_le_mul_right _ (ok_kids h1)
   rw [nodes_eq]
   simp only [pgB]
   omega
theorem okT_nodes {t : Tr} (h : okT t = true) : nodes t ≤ 5461 := nice_nodes 7 t (okT_nice h)
def SuOk (ss : List Su) : Prop := ∀ s ∈ ss, -1099511627776 ≤ s.ver ∧ s.ver ≤ 1099511627776
theorem su_get {ss : List Su} (h : SuOk ss) {i : Nat} (hi : i < ss.length) : -1099511627776 ≤ (ss.getD i (dflt .su)).ver ∧ (ss.getD i (dflt .su)).ver ≤ 1099511627776 := h _ (getD_mem (dflt .su) hi)
def lastW (ss : List Su) (root : Int) : Wr := ⟨if (ss.getD 1 (dflt .su)).ver < (ss.getD 0 (dflt .su)).ver then -2 else -1, [], ⟨max (ss.getD 0 (dflt .su)).ver (ss.getD 1 (dflt .su)).ver + 1, root⟩⟩
noncomputable def planR (ps : List (List UInt8)) (ss : List Su) (t : Tr) : Int × PSt := plT (takenF ps ss) t ⟨0, [], false⟩
noncomputable def planF (ps : List (List UInt8)) (ss : List Su) (t : Tr) : List Wr × Bool :=
 if okT t = true ∧ ss.length = 2 ∧ (planR ps ss t).2.bad = false then ((planR ps ss t).2.list ++ [lastW ss (planR ps ss t).1], true) else ([], false)
theorem plan_yes {ps : List (List UInt8)} {ss : List Su} {t : Tr} (h : okT t = true ∧ ss.length = 2 ∧ (planR ps ss t).2.bad = false) : planF ps ss t = ((planR ps ss t).2.list ++ [lastW ss (planR ps ss t).1], true) := if_pos h
theorem plan_no {ps : List (List UInt8)} {ss : List Su} {t : Tr} (h : ¬ (okT t = true ∧ ss.length = 2 ∧ (planR ps ss t).2.bad = false)) : planF ps ss t = ([], false) := if_neg h
theorem mark_step {l : List Int} {O : List Bool} {j : Nat} (h : j < l.length) : mark (l.take (j + 1)) O = (mark (l.take j) O).set (l.getD j (dflt .int)).toNat true := by
 rw [← take_snoc' l (dflt .int) h, mark_app]; rfl
abbrev wrA (q : List Wr × Bool) : A := .tp [.rw 0, .c (.bool q.2)]
abbrev wrH (q : List Wr × Bool) : Hp := [(0, .row .wr q.1)]
theorem ver_max {a b : Int} (ha : -1099511627776 ≤ a ∧ a ≤ 1099511627776) (hb : -1099511627776 ≤ b ∧ b ≤ 1099511627776) : IntKind.i64.wrap ((if b > a then b else a) + 1) = max a b + 1 := by
 split
 · rw [wrap_i64 (by omega) (by omega)]; omega
 · rw [wrap_i64 (by omega) (by omega)]; omega
theorem last_a {ss : List Su} {rt : Int} (ha : -1099511627776 ≤ (ss.getD 0 (dflt .su)).ver ∧ (ss.getD 0 (dflt .su)).ver ≤ 1099511627776) (hb : -1099511627776 ≤ (ss.getD 1 (dflt .su)).ver ∧ (ss.getD 1 (dflt .su)).ver ≤ 1099511627776) (h : (ss.getD 1 (dflt .su)).ver < (ss.getD 0 (dflt .su)).ver) : chunk .wr 1 [C.int .i64 (-2), C.str [], C.int .i64 (IntKind.i64.wrap ((if (ss.getD 1 (dflt .su)).ver > (ss.getD 0 (dflt .su)).ver then (ss.getD 1 (dflt .su)).ver else (ss.getD 0 (dflt .su)).ver) + 1)), C.int .i64 rt] = [lastW ss rt] := by
 rw [ver_max ha hb]
 unfold lastW
 rw [if_pos h]
 rfl
theorem last_b {ss : List Su} {rt : Int} (ha : -1099511627776 ≤ (ss.getD 0 (dflt .su)).ver ∧ (ss.getD 0 (dflt .su)).ver ≤ 1099511627776) (hb : -1099511627776 ≤ (ss.getD 1 (dflt .su)).ver ∧ (ss.getD 1 (dflt .su)).ver ≤ 1099511627776) (h : (ss.getD 0 (dflt .su)).ver ≤ (ss.getD 1 (dflt .su)).ver) : chunk .wr 1 [C.int .i64 (-1), C.str [], C.int .i64 (IntKind.i64.wrap ((if (ss.getD 1 (dflt .su)).ver > (ss.getD 0 (dflt .su)).ver then (ss.getD 1 (dflt .su)).ver else (ss.getD 0 (dflt .su)).ver) + 1)), C.int .i64 rt] = [lastW ss rt] := by
 rw [ver_max ha hb]
 unfold lastW
 rw [if_neg (by omega)]
 rfl
theorem idx_ok2 {x : Int} {n : Nat} {L : List Bool} (hx : 0 ≤ x ∧ x < n) (h : L.length = n) : 0 ≤ x ∧ x < (L.length : Int) := by omega
theorem idx_ok {x : Int} {n : Nat} {L : List Bool} (hx : 0 ≤ x ∧ x < n) (h : L.length = n) : x.toNat < L.length := by omega
theorem r_implPlan {ps : List (List UInt8)} {ss : List Su} (hs : Short ps) (hpl : ps.length ≤ 1099511627776) (hss : SuOk ss) (t : Tr) : Ret Tryz.prog 44 [dkA ps ss, agE .tr t] [] (wrA (planF ps ss t)) (wrH (planF ps ss t)) := by
 cases hok : okT t with
 | false =>
   rw [plan_no (by rw [hok]; simp)]
   refine ret_vc hT hM Tryz.func44 rfl rfl (m := 0) (nx := 0) rfl (Nat.le_of_ble_eq_true rfl) ?_
   (repeat' ((conv => whnf); first | (apply nx; intro s) | (apply rg; intro s k) | ((first | refine cas (fun h => ?_) (fun h => ?_) | refine may (fun h => ?_) ?_) <;> (try simp [-List.getD_eq_getElem?_getD, hok] at h)) | (refine giv fun hg => ?_; (try simp only [byE] at hg)) | refine need (by first | kernel_rfl | omega | (simp; done) | (simp; omega)) ?_ | (refine call_p (r_implTreeOk t) rfl (by (repeat' first | exact trivial | refine ⟨?_, ?_⟩ | exact rfl | exact oR | exact orB rfl | exact oL); (first | done | fail)) ?_) | ((first | refine fin_au rfl ?_ | apply WkF.au); (conv => whnf); ((repeat' first | exact trivial | refine ⟨?_, ?_⟩ | exact rfl | exact oR | exact orB rfl | exact oL) <;> (try conv => whnf) <;> (try first | apply cgB | apply cgI | apply cgS | apply cgR | apply cgD | refine cgL ?_) <;> (try (rw [wrap_i64 (by omega) (by omega)]; first | rfl | omega)))) | apply altl))
 | true =>
   by_cases h2 : ss.length = 2
   · have hnd := okT_nodes hok
     have hst := @taken_step ps ss
     have hlen := fun i => taken_len ps (ss.take i)
     have hz : takenF ps (ss.take 0) = List.replicate ps.length false := rfl
     have hy := @plan_yes ps ss t
     have hn := @plan_no ps ss t
     have hv0 := su_get hss (i := 0) (by omega)
     have hv1 := su_get hss (i := 1) (by omega)
     refine ret_vc hT hM Tryz.func44 rfl rfl (m := 0) (nx := 0) rfl (Nat.le_of_ble_eq_true rfl) ?_
     (repeat' ((conv => whnf); first | (apply nx; intro s) | (apply rg; intro s k) | ((first | refine cas (fun h => ?_) (fun h => ?_) | refine may (fun h => ?_) ?_) <;> (try simp [-List.getD_eq_getElem?_getD, hok] at h)) | (refine giv fun hg => ?_; (try simp only [byE] at hg)) | refine need (by first | kernel_rfl | omega | (simp; done) | (simp; omega)) ?_ | (exfalso; omega) | (refine call_p (r_implTreeOk t) rfl (by (repeat' first | exact trivial | refine ⟨?_, ?_⟩ | exact rfl | exact oR | exact orB rfl | exact oL); (first | done | fail)) ?_) | ((first | refine fin_au rfl ?_ | apply WkF.au); (conv => whnf); ((repeat' first | exact trivial | refine ⟨?_, ?_⟩ | exact rfl | exact oR | exact orB rfl | exact oL) <;> (try conv => whnf) <;> (try first | apply cgB | apply cgI | apply cgS | apply cgR | apply cgD | refine cgL ?_) <;> (try (rw [wrap_i64 (by omega) (by omega)]; first | rfl | omega)))) | apply altl))
     (repeat ((conv => whnf); first | (apply nx; intro s) | (apply rg; intro s k))); (conv => whnf)
     refine Tri.loop (fun i : Nat => ⟨[(2, .pt 0 0), (3, .pt 1 0), (6, .pt 2 0), (32, aL .su ss), (33, aI ss.length), (34, aI i)], [(0, .box [.c (.sl .str ps), .c (.sl .su ss)]), (1, .box ((cells .tr t).map .c)), (2, .box [.rw 3, aI 0, .rw 4, .c (.bool false)]), (3, .row .bool (takenF ps (ss.take i))), (4, .row .wr [])], 5⟩) (fun i => i ≤ ss.length) (fun i => ss.length - i) 0 (Nat.zero_le _) ?_ ?_
     · (apply WkF.au; (conv => whnf); ((repeat' first | exact trivial | refine ⟨?_, ?_⟩ | exact rfl | exact oR | exact orB rfl | exact oL) <;> (try conv => whnf) <;> (try first | apply cgB | apply cgI | apply cgS | apply cgR | apply cgD | refine cgL ?_) <;> (try (rw [wrap_i64 (by omega) (by omega)]; first | rfl | omega))))
     · intro i h1
       refine vc_sound hT hM _ _ _ ?_
       by_cases hi : i < ss.length
       · have hst' := hst hi
         have hlen' := hlen i
         have hin := ofSu_in ps (ss.getD i (dflt .su))
         have hc := (r_pagesOf ss hs hpl 7 (by omega) (ss.getD i (dflt .su)).root).2
         have hof : (ofSu ps (ss.getD i (dflt .su))) = if 0 < (ss.getD i (dflt .su)).ver ∧ (pgF ps 7 (ss.getD i (dflt .su)).root).2 = true then (pgF ps 7 (ss.getD i (dflt .su)).root).1 else [] := rfl
         rw [hof] at hst' hin
         clear hof hst hlen hz
         generalize takenF ps (ss.take i) = O at *
         generalize pgF ps 7 (ss.getD i (dflt .su)).root = z at *
         obtain ⟨zl, zo⟩ := z
         unfold pgO at hc
         dsimp only at hc hst' hin
         have hno : ¬ (0 < (ss.getD i (dflt .su)).ver ∧ zo = true) → takenF ps (ss.take (i + 1)) = O := fun h => by rw [hst', if_neg h]; rfl
         by_cases hv : 0 < (ss.getD i (dflt .su)).ver ∧ zo = true
         · rw [if_pos hv] at hst' hin
           obtain ⟨hv, rfl⟩ := hv
           rw [if_pos rfl, List.nil_append] at hc
           (repeat' ((conv => whnf); first | (apply nx; intro s) | (apply rg; intro s k) | ((first | refine cas (fun h => ?_) (fun h => ?_) | refine may (fun h => ?_) ?_) <;> (try simp [-List.getD_eq_getElem?_getD] at h)) | (refine giv fun hg => ?_; (try simp only [byE] at hg)) | refine need (by first | kernel_rfl | omega | (simp; done) | (simp; omega)) ?_ | (exfalso; omega) | (refine call_n (hc) rfl ?_ ?_ ?_; iterate 2 (focus (repeat' first | exact trivial | refine ⟨?_, ?_⟩ | exact rfl | exact oR | exact orB rfl | exact oL); (first | done | fail))) | ((first | refine fin_au rfl ?_ | apply WkF.au); (conv => whnf); ((repeat' first | exact trivial | refine ⟨?_, ?_⟩ | exact rfl | exact oR | exact orB rfl | exact oL) <;> (try conv => whnf) <;> (try first | apply cgB | apply cgI | apply cgS | apply cgR | apply cgD | refine cgL ?_) <;> (try (rw [wrap_i64 (by omega) (by omega)]; first | rfl | omega)))) | apply altl))
           (repeat ((conv => whnf); first | (apply nx; intro s) | (apply rg; intro s k))); (conv => whnf)
           have hmk := fun j => @mark_step zl O j
           have hml := fun j => mark_len (zl.take j) O
           refine Tri.loop (fun j : Nat => ⟨[(2, .pt 0 0), (3, .pt 1 0), (6, .pt 2 0), (32, aL .su ss), (33, aI ss.length), (34, aI i), (52, .rw 5), (53, aI zl.length), (54, aI j)], [(0, .box [.c (.sl .str ps), .c (.sl .su ss)]), (1, .box ((cells .tr t).map .c)), (2, .box [.rw 3, aI 0, .rw 4, .c (.bool false)]), (3, .row .bool (mark (zl.take j) O)), (4, .row .wr []), (5, .row .int zl)], 6⟩) (fun j => j ≤ zl.length) (fun j => zl.length - j) 0 (Nat.zero_le _) ?_ ?_
           · (apply WkF.au; (conv => whnf); ((repeat' first | exact trivial | refine ⟨?_, ?_⟩ | exact rfl | exact oR | exact orB rfl | exact oL) <;> (try conv => whnf) <;> (try first | apply cgB | apply cgI | apply cgS | apply cgR | apply cgD | refine cgL ?_) <;> (try (rw [wrap_i64 (by omega) (by omega)]; first | rfl | omega))))
           · intro j h3
             refine vc_sound hT hM _ _ _ ?_
             by_cases hj : j < zl.length
             · have hmk' := hmk j hj
               have hml' := hml j
               have hx := hin _ (getD_mem (dflt .int) hj)
               (repeat' ((conv => whnf); first | (apply nx; intro s) | (apply rg; intro s k) | ((first | refine cas (fun h => ?_) (fun h => ?_) | refine may (fun h => ?_) ?_) <;> (try simp [-List.getD_eq_getElem?_getD] at h)) | (refine giv fun hg => ?_; (try simp only [byE] at hg)) | refine need (by first | kernel_rfl | omega | (simp; done) | (simp; omega)) ?_ | (exfalso; omega) | (refine need (idx_ok hx (hml'.trans hlen')) ?_) | (refine need (idx_ok2 hx (hml'.trans hlen')) ?_) | (refine ⟨j + 1, by omega, by omega, ?_⟩) | ((first | refine fin_au rfl ?_ | apply WkF.au); (conv => whnf); ((repeat' first | exact trivial | refine ⟨?_, ?_⟩ | exact rfl | exact oR | exact orB rfl | exact oL) <;> (try conv => whnf) <;> (try first | apply cgB | apply cgI | apply cgS | apply cgR | apply cgD | refine cgL ?_) <;> (try (rw [wrap_i64 (by omega) (by omega)]; first | rfl | omega)))) | apply altl))
               all_goals (rw [hmk']; rfl)
             · rw [List.take_of_length_le (by omega), ← hst']
               (repeat' ((conv => whnf); first | (apply nx; intro s) | (apply rg; intro s k) | ((first | refine cas (fun h => ?_) (fun h => ?_) | refine may (fun h => ?_) ?_) <;> (try simp [-List.getD_eq_getElem?_getD] at h)) | (refine giv fun hg => ?_; (try simp only [byE] at hg)) | refine need (by first | kernel_rfl | omega | (simp; done) | (simp; omega)) ?_ | (exfalso; omega) | (refine ⟨i + 1, by omega, by omega, ?_⟩) | ((first | refine fin_au rfl ?_ | apply WkF.au); (conv => whnf); ((repeat' first | exact trivial | refine ⟨?_, ?_⟩ | exact rfl | exact oR | exact orB rfl | exact oL) <;> (try conv => whnf) <;> (try first | apply cgB | apply cgI | apply cgS | apply cgR | apply cgD | refine cgL ?_) <;> (try (rw [wrap_i64 (by omega) (by omega)]; first | rfl | omega)))) | apply altl))
         · have hO := hno hv
           (repeat' ((conv => whnf); first | (apply nx; intro s) | (apply rg; intro s k) | ((first | refine cas (fun h => ?_) (fun h => ?_) | refine may (fun h => ?_) ?_) <;> (try simp [-List.getD_eq_getElem?_getD] at h)) | (refine giv fun hg => ?_; (try simp only [byE] at hg)) | refine need (by first | kernel_rfl | omega | (simp; done) | (simp; omega)) ?_ | (exfalso; omega) | ((exfalso; exact hv ⟨by assumption, by assumption⟩)) | (refine call_n (hc) rfl ?_ ?_ ?_; iterate 2 (focus (repeat' first | exact trivial | refine ⟨?_, ?_⟩ | exact rfl | exact oR | exact orB rfl | exact oL); (first | done | fail))) | (refine ⟨i + 1, by omega, by omega, ?_⟩) | ((first | refine fin_au rfl ?_ | apply WkF.au); (conv => whnf); ((repeat' first | exact trivial | refine ⟨?_, ?_⟩ | exact rfl | exact oR | exact orB rfl | exact oL) <;> (try conv => whnf) <;> (try first | apply cgB | apply cgI | apply cgS | apply cgR | apply cgD | refine cgL ?_) <;> (try (rw [wrap_i64 (by omega) (by omega)]; first | rfl | omega)))) | apply altl))
           all_goals exact hO.symm
       · rw [List.take_of_length_le (by omega)]
         have hpt : Ret Tryz.prog 136 [.pt 0 0, agE .tr t] (plO (takenF ps ss) ⟨0, [], false⟩) (aI (planR ps ss t).1) (plN (takenF ps ss) (planR ps ss t).2) := r_planTree (takenF ps ss) (by rw [taken_len]; omega) t ⟨0, [], false⟩ (Nat.zero_le _) (by dsimp only; simp only [List.length_nil]; omega)
         have hpl2 : (planR ps ss t).2.list.length = 0 + nodes t := (plT_le (tk := takenF ps ss) t ⟨0, [], false⟩ (Nat.zero_le _)).2
         generalize planR ps ss t = pr at *
         clear hst hlen hz
         obtain ⟨rt, qa, ql, qb⟩ := pr
         dsimp only at hpt hpl2 hy hn
         cases qb with
         | true =>
           rw [hn (by simp)]
           (repeat' ((conv => whnf); first | (apply nx; intro s) | (apply rg; intro s k) | ((first | refine cas (fun h => ?_) (fun h => ?_) | refine may (fun h => ?_) ?_) <;> (try simp [-List.getD_eq_getElem?_getD] at h)) | (refine giv fun hg => ?_; (try simp only [byE] at hg)) | refine need (by first | kernel_rfl | omega | (simp; done) | (simp; omega)) ?_ | (exfalso; omega) | (refine call_g [2,3,4] (hpt) rfl rfl rfl ?_ ?_ ?_ ?_ ?_; iterate 4 (focus (repeat' first | exact trivial | refine ⟨?_, ?_⟩ | exact rfl | exact oR | exact orB rfl | exact oL); (first | done | fail))) | ((first | refine fin_au rfl ?_ | apply WkF.au); (conv => whnf); ((repeat' first | exact trivial | refine ⟨?_, ?_⟩ | exact rfl | exact oR | exact orB rfl | exact oL) <;> (try conv => whnf) <;> (try first | apply cgB | apply cgI | apply cgS | apply cgR | apply cgD | refine cgL ?_) <;> (try (rw [wrap_i64 (by omega) (by omega)]; first | rfl | omega)))) | apply altl))
         | false =>
           rw [hy ⟨hok, h2, rfl⟩]
           (repeat' ((conv => whnf); first | (apply nx; intro s) | (apply rg; intro s k) | ((first | refine cas (fun h => ?_) (fun h => ?_) | refine may (fun h => ?_) ?_) <;> (try simp [-List.getD_eq_getElem?_getD] at h)) | (refine giv fun hg => ?_; (try simp only [byE] at hg)) | refine need (by first | kernel_rfl | omega | (simp; done) | (simp; omega)) ?_ | (exfalso; omega) | (refine call_g [2,3,4] (hpt) rfl rfl rfl ?_ ?_ ?_ ?_ ?_; iterate 4 (focus (repeat' first | exact trivial | refine ⟨?_, ?_⟩ | exact rfl | exact oR | exact orB rfl | exact oL); (first | done | fail))) | (refine need (by simp only [byE, chunk, List.length_append, List.length_cons, List.length_nil]; omega) ?_) | ((first | refine fin_au rfl ?_ | apply WkF.au); (conv => whnf); ((repeat' first | exact trivial | refine ⟨?_, ?_⟩ | exact rfl | exact oR | exact orB rfl | exact oL) <;> (try conv => whnf) <;> (try first | apply cgB | apply cgI | apply cgS | apply cgR | apply cgD | refine cgL ?_) <;> (try (rw [wrap_i64 (by omega) (by omega)]; first | rfl | omega)))) | apply altl))
           all_goals first
            | exact congrArg (ql ++ ·) (last_a hv0 hv1 (by assumption))
            | exact congrArg (ql ++ ·) (last_b hv0 hv1 (by assumption))
   · rw [plan_no (by omega)]
     refine ret_vc hT hM Tryz.func44 rfl rfl (m := 0) (nx := 0) rfl (Nat.le_of_ble_eq_true rfl) ?_
     (repeat' ((conv => whnf); first | (apply nx; intro s) | (apply rg; intro s k) | ((first | refine cas (fun h => ?_) (fun h => ?_) | refine may (fun h => ?_) ?_) <;> (try simp [-List.getD_eq_getElem?_getD, hok] at h)) | (refine giv fun hg => ?_; (try simp only [byE] at hg)) | refine need (by first | kernel_rfl | omega | (simp; done) | (simp; omega)) ?_ | (exfalso; omega) | (refine call_p (r_implTreeOk t) rfl (by (repeat' first | exact trivial | refine ⟨?_, ?_⟩ | exact rfl | exact oR | exact orB rfl | exact oL); (first | done | fail)) ?_) | ((first | refine fin_au rfl ?_ | apply WkF.au); (conv => whnf); ((repeat' first | exact trivial | refine ⟨?_, ?_⟩ | exact rfl | exact oR | exact orB rfl | exact oL) <;> (try conv => whnf) <;> (try first | apply cgB | apply cgI | apply cgS | apply cgR | apply cgD | refine cgL ?_) <;> (try (rw [wrap_i64 (by omega) (by omega)]; first | rfl | omega)))) | apply altl))
end Go.Proofs.YthbpdhppelaihaaGreat