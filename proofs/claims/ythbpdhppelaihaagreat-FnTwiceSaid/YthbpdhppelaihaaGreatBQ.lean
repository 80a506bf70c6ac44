/- Plans: the reference. Conditions: none. -/
import Derived.Test.YthbpdhppelaihaaGreatBP
set_option linter.unusedVariables false
set_option linter.unusedSimpArgs false
namespace Go.Proofs.YthbpdhppelaihaaGreat
open Go.RowKit
attribute [local irreducible] Tri Weak
set_option maxRecDepth 4000
set_option maxHeartbeats 4000000
abbrev SpS := List Bool × List Wr
def spPut (t : Tr) (ks : List Int) (q : SpS) : Option (Nat × SpS) :=
 if skipT q.1 0 < q.1.length then some (skipT q.1 0, (q.1.set (skipT q.1 0) true, q.2 ++ [⟨(skipT q.1 0 : Nat), (putNd t ks).1, ⟨0, 0⟩⟩])) else none
mutual
def spT : Tr → SpS → Option (Nat × SpS)
 | ⟨l, ps, cs, kd, bf⟩, q => (spL kd q).bind fun r => spPut ⟨l, ps, cs, kd, bf⟩ r.1 r.2
def spL : List Tr → SpS → Option (List Int × SpS)
 | [], q => some ([], q)
 | t :: ts, q => (spT t q).bind fun r => (spL ts r.2).map fun x => ((r.1 : Int) :: x.1, x.2)
end
theorem spT_eq (t : Tr) (q : SpS) : spT t q = (spL t.kids q).bind fun r => spPut t r.1 r.2 := by cases t; unfold spT; rfl
theorem spL_cons (t : Tr) (ts : List Tr) (q : SpS) : spL (t :: ts) q = (spT t q).bind fun r => (spL ts r.2).map fun x => ((r.1 : Int) :: x.1, x.2) := by conv => lhs; unfold spL
theorem spL_none : ∀ {ts : List Tr} {i : Nat} {q : SpS} {ks : List Int} {q1 : SpS}, i < ts.length → spL (ts.take i) q = some (ks, q1) → spT (ts.getD i (dflt .tr)) q1 = none → spL ts q = none
 | [], i, _, _, _, h, _, _ => by simp at h
 | t :: ts, 0, q, ks, q1, _, h, hn => by
   rw [List.take_zero] at h
   simp only [spL, Option.some.injEq, Prod.mk.injEq] at h
   obtain ⟨rfl, rfl⟩ := h
   rw [spL_cons, show spT t q = none from hn]; rfl
 | t :: ts, i + 1, q, ks, q1, hi, h, hn => by
   rw [List.take_succ_cons, spL_cons] at h
   rw [spL_cons]
   cases h1 : spT t q with
   | none => rfl
   | some r =>
     rw [h1] at h
     simp only [Option.bind_some] at h ⊢
     cases h2 : spL (ts.take i) r.2 with
     | none => rw [h2] at h; cases h
     | some x =>
       rw [h2] at h
       simp only [Option.map_some, Option.some.injEq, Prod.mk.injEq] at h
       rw [spL_none (i := i) (by simpa using hi) h2 (by rw [h.2]; exact hn)]
       rfl
theorem spL_some : ∀ {ts : List Tr} {i : Nat} {q : SpS} {ks : List Int} {q1 : SpS} {a : Nat} {q2 : SpS}, i < ts.length → spL (ts.take i) q = some (ks, q1) → spT (ts.getD i (dflt .tr)) q1 = some (a, q2) → spL (ts.take (i + 1)) q = some (ks ++ [(a : Int)], q2)
 | [], i, _, _, _, _, _, h, _, _ => by simp at h
 | t :: ts, 0, q, ks, q1, a, q2, _, h, hn => by
   rw [List.take_zero] at h
   simp only [spL, Option.some.injEq, Prod.mk.injEq] at h
   obtain ⟨rfl, rfl⟩ := h
   rw [List.take_succ_cons, List.take_zero, spL_cons, show spT t q = some (a, q2) from hn]; rfl
 | t :: ts, i + 1, q, ks, q1, a, q2, hi, h, hn => by
   rw [List.take_succ_cons, spL_cons] at h
   rw [List.take_succ_cons, spL_cons]
   cases h1 : spT t q with
   | none => rw [h1] at h; cases h
   | some r =>
     rw [h1] at h
     simp only [Option.bind_some] at h ⊢
     cases h2 : spL (ts.take i) r.2 with
     | none => rw [h2] at h; cases h
     | some x =>
       rw [h2] at h
       simp only [Option.map_some, Option.some.injEq, Prod.mk.injEq] at h
       rw [spL_some (i := i) (by simpa using hi) h2 (by rw [h.2]; exact hn), ← h.1]
       rfl
theorem spPut_len {t : Tr} {ks : List Int} {q q2 : SpS} {a : Nat} (h : spPut t ks q = some (a, q2)) : q2.1.length = q.1.length ∧ q2.2.length = q.2.length + 1 ∧ a < q.1.length := by
 unfold spPut at h
 split at h
 · rename_i h1
   simp only [Option.some.injEq, Prod.mk.injEq] at h
   obtain ⟨rfl, rfl⟩ := h
   exact ⟨by simp, by simp, h1⟩
 · cases h
mutual
theorem spT_len : ∀ {t : Tr} {q q2 : SpS} {a : Nat}, spT t q = some (a, q2) → q2.1.length = q.1.length ∧ q2.2.length = q.2.length + nodes t
 | ⟨l, ps, cs, kd, bf⟩, q, q2, a, h => by
   rw [spT_eq] at h
   cases h1 : spL kd q with
   | none => rw [h1] at h; cases h
   | some r =>
     rw [h1] at h
     simp only [Option.bind_some] at h
     obtain ⟨h2, h3⟩ := spL_len (ts := kd) (ks := r.1) (q2 := r.2) h1
     obtain ⟨h4, h5, _⟩ := spPut_len h
     rw [nodes_eq]
     exact ⟨by rw [h4, h2], by dsimp only; omega⟩
theorem spL_len : ∀ {ts : List Tr} {q q2 : SpS} {ks : List Int}, spL ts q = some (ks, q2) → q2.1.length = q.1.length ∧ q2.2.length = q.2.length + nodes.nodesL ts
 | [], q, q2, ks, h => by
   simp only [spL, Option.some.injEq, Prod.mk.injEq] at h
   obtain ⟨_, rfl⟩ := h
   exact ⟨rfl, by simp [nodes.nodesL]⟩
 | t :: ts, q, q2, ks, h => by
   rw [spL_cons] at h
   cases h1 : spT t q with
   | none => rw [h1] at h; cases h
   | some r =>
     rw [h1] at h
     simp only [Option.bind_some] at h
     cases h2 : spL ts r.2 with
     | none => rw [h2] at h; cases h
     | some x =>
       rw [h2] at h
       simp only [Option.map_some, Option.some.injEq, Prod.mk.injEq] at h
       obtain ⟨h3, h4⟩ := spT_len (t := t) (a := r.1) (q2 := r.2) h1
       obtain ⟨h5, h6⟩ := spL_len (ts := ts) (ks := x.1) (q2 := x.2) h2
       rw [← h.2]
       simp only [nodes.nodesL]
       exact ⟨by rw [h5, h3], by omega⟩
end
def spA : Option (Nat × SpS) → A
 | some (a, _) => .tp [.rw 2, aI a]
 | none => .tp [.un, aI (-1)]
def spH : Option (Nat × SpS) → Hp
 | some (_, q) => [(0, .row .bool q.1), (1, .gone), (2, .row .wr q.2)]
 | none => [(0, .gone), (1, .gone)]
def spS (i : Nat) (q : SpS) (t : Tr) (ks : List Int) : St :=
 match i with
 | 0 => ⟨[(1, .rw 0), (2, .rw 1), (3, .pt 2 0), (8, .rw 3), (9, aI 0)], [(0, .row .bool q.1), (1, .row .wr q.2), (2, .box ((cells .tr t).map .c)), (3, .row .int ks)], 4⟩
 | i + 1 => ⟨[(1, .rw 0), (2, .rw 4), (3, .pt 2 0), (8, .rw 3), (9, aI ((i + 1 : Nat) : Int))], [(0, .row .bool q.1), (1, .gone), (2, .box ((cells .tr t).map .c)), (3, .row .int ks), (4, .row .wr q.2)], 5⟩
theorem l6Plan' : ∀ (n : Nat) (t : Tr), SizeOf.sizeOf t < n → ∀ (q : SpS), q.1.length ≤ 1099511627776 → q.2.length + nodes t ≤ 1073741824 → Ret Tryz.prog 137 [agE .tr t, .rw 0, .rw 1] [(0, .row .bool q.1), (1, .row .wr q.2)] (spA (spT t q)) (spH (spT t q)) := by
 intro n
 induction n with
 | zero => intro t h; omega
 | succ n ih =>
   intro t hn q hq hsz
   have hnt := @nodesL_take t.kids
   have hnl := nodesL_len t.kids
   rw [nodes_eq] at hsz
   have hte := spT_eq t q
   refine ret_vc hT hM Tryz.func137 rfl rfl (m := 2) (nx := 2) rfl (Nat.le_of_ble_eq_true rfl) ?_
   (repeat' ((conv => whnf); first | (apply nx; intro s) | (apply rg; intro s k) | ((first | refine cas (fun h => ?_) (fun h => ?_) | refine may (fun h => ?_) ?_) <;> (try simp [-List.getD_eq_getElem?_getD] at h)) | (refine giv fun hg => ?_; (try simp only [byE] at hg)) | refine need (by first | kernel_rfl | omega | (simp; done) | (simp; omega)) ?_ | ((first | refine fin_au rfl ?_ | apply WkF.au); (conv => whnf); ((repeat' first | exact trivial | refine ⟨?_, ?_⟩ | exact rfl | exact oR | exact orB rfl | exact oL) <;> (try conv => whnf) <;> (try first | apply cgB | apply cgI | apply cgS | apply cgR | apply cgD | refine cgL ?_) <;> (try (rw [wrap_i64 (by omega) (by omega)]; first | rfl | omega)))) | apply altl))
   (repeat ((conv => whnf); first | (apply nx; intro s) | (apply rg; intro s k))); (conv => whnf)
   refine Tri.loop (fun x : Nat × List Int × SpS => spS x.1 x.2.2 t x.2.1) (fun x => x.1 ≤ t.kids.length ∧ x.2.1.length = x.1 ∧ spL (t.kids.take x.1) q = some (x.2.1, x.2.2)) (fun x => t.kids.length - x.1) (0, [], q) ⟨Nat.zero_le _, rfl, by simp [spL]⟩ ?_ ?_
   · (apply WkF.au; (conv => whnf); ((repeat' first | exact trivial | refine ⟨?_, ?_⟩ | exact rfl | exact oR | exact orB rfl | exact oL) <;> (try conv => whnf) <;> (try first | apply cgB | apply cgI | apply cgS | apply cgR | apply cgD | refine cgL ?_) <;> (try (rw [wrap_i64 (by omega) (by omega)]; first | rfl | omega))))
   · intro ⟨i, ks, q1⟩ ⟨h1, h2, h3⟩
     dsimp only at h1 h2 h3
     obtain ⟨hl1, hl2⟩ := spL_len h3
     by_cases hi : i < t.kids.length
     · have hnt' := hnt hi
       have hkd : SizeOf.sizeOf (t.kids.getD i (dflt .tr)) < n := by
        have h3 := kid_lt (List.mem_of_getElem? (getD_some hi (dflt .tr)))
        omega
       have hc := ih (t.kids.getD i (dflt .tr)) hkd q1 (by omega) (by omega)
       obtain ⟨tk1, ls1⟩ := q1
       dsimp only at hc hl1 hl2
       cases hk : spT (t.kids.getD i (dflt .tr)) (tk1, ls1) with
       | none =>
         rw [spL_none hi h3 hk] at hte
         rw [hte]
         rw [hk] at hc
         simp only [spA, spH, Option.bind_none] at hc ⊢
         cases i with
         | zero =>
           unfold spS
           dsimp only
           refine vc_sound hT hM _ _ _ ?_
           (repeat' ((conv => whnf); first | (apply nx; intro s) | (apply rg; intro s k) | ((first | refine cas (fun h => ?_) (fun h => ?_) | refine may (fun h => ?_) ?_) <;> (try simp [-List.getD_eq_getElem?_getD, hi] at h)) | (refine giv fun hg => ?_; (try simp only [byE] at hg)) | refine need (by first | kernel_rfl | omega | (simp; done) | (simp; omega)) ?_ | (exfalso; omega) | (refine call_g [0,1] (hc) rfl rfl rfl ?_ ?_ ?_ ?_ ?_; iterate 4 (focus (repeat' first | exact trivial | refine ⟨?_, ?_⟩ | exact rfl | exact oR | exact orB rfl | exact oL); (first | done | fail))) | ((first | refine fin_au rfl ?_ | apply WkF.au); (conv => whnf); ((repeat' first | exact trivial | refine ⟨?_, ?_⟩ | exact rfl | exact oR | exact orB rfl | exact oL) <;> (try conv => whnf) <;> (try first | apply cgB | apply cgI | apply cgS | apply cgR | apply cgD | refine cgL ?_) <;> (try (rw [wrap_i64 (by omega) (by omega)]; first | rfl | omega)))) | apply altl))
         | succ i =>
           unfold spS
           dsimp only
           refine vc_sound hT hM _ _ _ ?_
           (repeat' ((conv => whnf); first | (apply nx; intro s) | (apply rg; intro s k) | ((first | refine cas (fun h => ?_) (fun h => ?_) | refine may (fun h => ?_) ?_) <;> (try simp [-List.getD_eq_getElem?_getD] at h)) | (refine giv fun hg => ?_; (try simp only [byE] at hg)) | refine need (by first | kernel_rfl | omega | (simp; done) | (simp; omega)) ?_ | (exfalso; omega) | (refine call_g [0,4] (hc) rfl rfl rfl ?_ ?_ ?_ ?_ ?_; iterate 4 (focus (repeat' first | exact trivial | refine ⟨?_, ?_⟩ | exact rfl | exact oR | exact orB rfl | exact oL); (first | done | fail))) | ((first | refine fin_au rfl ?_ | apply WkF.au); (conv => whnf); ((repeat' first | exact trivial | refine ⟨?_, ?_⟩ | exact rfl | exact oR | exact orB rfl | exact oL) <;> (try conv => whnf) <;> (try first | apply cgB | apply cgI | apply cgS | apply cgR | apply cgD | refine cgL ?_) <;> (try (rw [wrap_i64 (by omega) (by omega)]; first | rfl | omega)))) | apply altl))
       | some z =>
         obtain ⟨a, q2⟩ := z
         have hnx := spL_some hi h3 hk
         rw [hk] at hc
         obtain ⟨tk2, ls2⟩ := q2
         simp only [spA, spH] at hc
         cases i with
         | zero =>
           unfold spS
           dsimp only
           refine vc_sound hT hM _ _ _ ?_
           (repeat' ((conv => whnf); first | (apply nx; intro s) | (apply rg; intro s k) | ((first | refine cas (fun h => ?_) (fun h => ?_) | refine may (fun h => ?_) ?_) <;> (try simp [-List.getD_eq_getElem?_getD, hi] at h)) | (refine giv fun hg => ?_; (try simp only [byE] at hg)) | refine need (by first | kernel_rfl | omega | (simp; done) | (simp; omega)) ?_ | (exfalso; omega) | (refine call_g [0,1] (hc) rfl rfl rfl ?_ ?_ ?_ ?_ ?_; iterate 4 (focus (repeat' first | exact trivial | refine ⟨?_, ?_⟩ | exact rfl | exact oR | exact orB rfl | exact oL); (first | done | fail))) | (refine need (by simp only [byE, chunk, List.length_append, List.length_cons, List.length_nil]; omega) ?_) | (refine ⟨(0 + 1, ks ++ [(a : Int)], (tk2, ls2)), ⟨by dsimp only; omega, by simp [h2], hnx⟩, by dsimp only; omega, ?_⟩) | ((first | refine fin_au rfl ?_ | apply WkF.au); (conv => whnf); ((repeat' first | exact trivial | refine ⟨?_, ?_⟩ | exact rfl | exact oR | exact orB rfl | exact oL) <;> (try conv => whnf) <;> (try first | apply cgB | apply cgI | apply cgS | apply cgR | apply cgD | refine cgL ?_) <;> (try (rw [wrap_i64 (by omega) (by omega)]; first | rfl | omega)))) | apply altl))
         | succ i =>
           unfold spS
           dsimp only
           refine vc_sound hT hM _ _ _ ?_
           (repeat' ((conv => whnf); first | (apply nx; intro s) | (apply rg; intro s k) | ((first | refine cas (fun h => ?_) (fun h => ?_) | refine may (fun h => ?_) ?_) <;> (try simp [-List.getD_eq_getElem?_getD] at h)) | (refine giv fun hg => ?_; (try simp only [byE] at hg)) | refine need (by first | kernel_rfl | omega | (simp; done) | (simp; omega)) ?_ | (exfalso; omega) | (refine call_g [0,4] (hc) rfl rfl rfl ?_ ?_ ?_ ?_ ?_; iterate 4 (focus (repeat' first | exact trivial | refine ⟨?_, ?_⟩ | exact rfl | exact oR | exact orB rfl | exact oL); (first | done | fail))) | (refine need (by simp only [byE, chunk, List.length_append, List.length_cons, List.length_nil]; omega) ?_) | (refine ⟨(i + 1 + 1, ks ++ [(a : Int)], (tk2, ls2)), ⟨by dsimp only; omega, by simp [h2], hnx⟩, by dsimp only; omega, ?_⟩) | ((first | refine fin_au rfl ?_ | apply WkF.au); (conv => whnf); ((repeat' first | exact trivial | refine ⟨?_, ?_⟩ | exact rfl | exact oR | exact orB rfl | exact oL) <;> (try conv => whnf) <;> (try first | apply cgB | apply cgI | apply cgS | apply cgR | apply cgD | refine cgL ?_) <;> (try (rw [wrap_i64 (by omega) (by omega)]; first | rfl | omega)))) | apply altl))
     · rw [List.take_of_length_le (by omega)] at h3
       clear hl1 hl2
       obtain ⟨hl1, hl2⟩ := spL_len h3
       rw [h3] at hte
       simp only [Option.bind_some] at hte
       obtain ⟨tk1, ls1⟩ := q1
       dsimp only at hl1 hl2 hte
       have hpn := r_specPutNode t ks
       have hwl := putNd_le t ks
       unfold spPut at hte
       dsimp only at hte
       generalize putNd t ks = w at *
       obtain ⟨w1, w2⟩ := w
       dsimp only at hwl hpn hte
       cases i with
       | zero =>
         have hi0 : (0 < t.kids.length) = False := by simp only [hi]
         unfold spS
         dsimp only
         refine vc_sound hT hM _ _ _ ?_
         (repeat' ((conv => whnf); first | (apply nx; intro s) | (apply rg; intro s k) | ((first | refine cas (fun h => ?_) (fun h => ?_) | refine may (fun h => ?_) ?_) <;> (try simp [-List.getD_eq_getElem?_getD, hi0] at h)) | (refine giv fun hg => ?_; (try simp only [byE] at hg)) | refine need (by first | kernel_rfl | omega | (simp; done) | (simp; omega)) ?_ | (exfalso; omega) | ((first | refine fin_au rfl ?_ | apply WkF.au); (conv => whnf); ((repeat' first | exact trivial | refine ⟨?_, ?_⟩ | exact rfl | exact oR | exact orB rfl | exact oL) <;> (try conv => whnf) <;> (try first | apply cgB | apply cgI | apply cgS | apply cgR | apply cgD | refine cgL ?_) <;> (try (rw [wrap_i64 (by omega) (by omega)]; first | rfl | omega)))) | apply altl))
         (repeat ((conv => whnf); first | (apply nx; intro s) | (apply rg; intro s k))); (conv => whnf)
         refine Tri.loop (fun a : Nat => ⟨[(1, .rw 0), (2, .rw 1), (3, .pt 2 0), (8, .rw 3), (12, aI a)], [(0, .row .bool tk1), (1, .row .wr ls1), (2, .box ((cells .tr t).map .c)), (3, .row .int ks)], 4⟩) (fun a => a ≤ tk1.length ∧ skipT tk1 a = skipT tk1 0) (fun a => tk1.length - a) 0 ⟨Nat.zero_le _, rfl⟩ ?_ ?_
         · (apply WkF.au; (conv => whnf); ((repeat' first | exact trivial | refine ⟨?_, ?_⟩ | exact rfl | exact oR | exact orB rfl | exact oL) <;> (try conv => whnf) <;> (try first | apply cgB | apply cgI | apply cgS | apply cgR | apply cgD | refine cgL ?_) <;> (try (rw [wrap_i64 (by omega) (by omega)]; first | rfl | omega))))
         · intro a ⟨h4, h5⟩
           have hst := @skip_stop tk1 a
           have hgo := @skip_go tk1 a
           refine vc_sound hT hM _ _ _ ?_
           by_cases ha : a < tk1.length
           · by_cases hv : tk1.getD a (dflt .bool) = true
             · (repeat' ((conv => whnf); first | (apply nx; intro s) | (apply rg; intro s k) | ((first | refine cas (fun h => ?_) (fun h => ?_) | refine may (fun h => ?_) ?_) <;> (try simp [-List.getD_eq_getElem?_getD, hv] at h)) | (refine giv fun hg => ?_; (try simp only [byE] at hg)) | refine need (by first | kernel_rfl | omega | (simp; done) | (simp; omega)) ?_ | (exfalso; omega) | (refine ⟨a + 1, ⟨by omega, (hgo ha hv).trans h5⟩, by omega, ?_⟩) | ((first | refine fin_au rfl ?_ | apply WkF.au); (conv => whnf); ((repeat' first | exact trivial | refine ⟨?_, ?_⟩ | exact rfl | exact oR | exact orB rfl | exact oL) <;> (try conv => whnf) <;> (try first | apply cgB | apply cgI | apply cgS | apply cgR | apply cgD | refine cgL ?_) <;> (try (rw [wrap_i64 (by omega) (by omega)]; first | rfl | omega)))) | apply altl))
             · have hv' : tk1.getD a (dflt .bool) = false := by simpa [-List.getD_eq_getElem?_getD] using hv
               rw [hst fun _ => hv'] at h5
               rw [← h5, if_pos ha] at hte
               rw [hte]
               simp only [spA, spH]
               (repeat' ((conv => whnf); first | (apply nx; intro s) | (apply rg; intro s k) | ((first | refine cas (fun h => ?_) (fun h => ?_) | refine may (fun h => ?_) ?_) <;> (try simp [-List.getD_eq_getElem?_getD, hv'] at h)) | (refine giv fun hg => ?_; (try simp only [byE] at hg)) | refine need (by first | kernel_rfl | omega | (simp; done) | (simp; omega)) ?_ | (exfalso; omega) | (refine call_b (hpn) ?_ ?_ ?_ ?_ ?_ ?_; iterate 5 (focus (repeat' first | exact trivial | refine ⟨?_, ?_⟩ | exact rfl | exact oR | exact orB rfl | exact oL); (first | done | fail))) | (refine need (by simp only [byE, chunk, List.length_append, List.length_cons, List.length_nil]; omega) ?_) | ((first | refine fin_au rfl ?_ | apply WkF.au); (conv => whnf); ((repeat' first | exact trivial | refine ⟨?_, ?_⟩ | exact rfl | exact oR | exact orB rfl | exact oL) <;> (try conv => whnf) <;> (try first | apply cgB | apply cgI | apply cgS | apply cgR | apply cgD | refine cgL ?_) <;> (try (rw [wrap_i64 (by omega) (by omega)]; first | rfl | omega)))) | apply altl))
           · rw [hst fun h => (ha h).elim] at h5
             rw [← h5, if_neg ha] at hte
             rw [hte]
             simp only [spA, spH]
             (repeat' ((conv => whnf); first | (apply nx; intro s) | (apply rg; intro s k) | ((first | refine cas (fun h => ?_) (fun h => ?_) | refine may (fun h => ?_) ?_) <;> (try simp [-List.getD_eq_getElem?_getD] at h)) | (refine giv fun hg => ?_; (try simp only [byE] at hg)) | refine need (by first | kernel_rfl | omega | (simp; done) | (simp; omega)) ?_ | (exfalso; omega) | ((first | refine fin_au rfl ?_ | apply WkF.au); (conv => whnf); ((repeat' first | exact trivial | refine ⟨?_, ?_⟩ | exact rfl | exact oR | exact orB rfl | exact oL) <;> (try conv => whnf) <;> (try first | apply cgB | apply cgI | apply cgS | apply cgR | apply cgD | refine cgL ?_) <;> (try (rw [wrap_i64 (by omega) (by omega)]; first | rfl | omega)))) | apply altl))
       | succ i =>
         unfold spS
         dsimp only
         refine vc_sound hT hM _ _ _ ?_
         (repeat' ((conv => whnf); first | (apply nx; intro s) | (apply rg; intro s k) | ((first | refine cas (fun h => ?_) (fun h => ?_) | refine may (fun h => ?_) ?_) <;> (try simp [-List.getD_eq_getElem?_getD] at h)) | (refine giv fun hg => ?_; (try simp only [byE] at hg)) | refine need (by first | kernel_rfl | omega | (simp; done) | (simp; omega)) ?_ | (exfalso; omega) | ((first | refine fin_au rfl ?_ | apply WkF.au); (conv => whnf); ((repeat' first | exact trivial | refine ⟨?_, ?_⟩ | exact rfl | exact oR | exact orB rfl | exact oL) <;> (try conv => whnf) <;> (try first | apply cgB | apply cgI | apply cgS | apply cgR | apply cgD | refine cgL ?_) <;> (try (rw [wrap_i64 (by omega) (by omega)]; first | rfl | omega)))) | apply altl))
         (repeat ((conv => whnf); first | (apply nx; intro s) | (apply rg; intro s k))); (conv => whnf)
         refine Tri.loop (fun a : Nat => ⟨[(1, .rw 0), (2, .rw 4), (3, .pt 2 0), (8, .rw 3), (12, aI a)], [(0, .row .bool tk1), (1, .gone), (2, .box ((cells .tr t).map .c)), (3, .row .int ks), (4, .row .wr ls1)], 5⟩) (fun a => a ≤ tk1.length ∧ skipT tk1 a = skipT tk1 0) (fun a => tk1.length - a) 0 ⟨Nat.zero_le _, rfl⟩ ?_ ?_
         · (apply WkF.au; (conv => whnf); ((repeat' first | exact trivial | refine ⟨?_, ?_⟩ | exact rfl | exact oR | exact orB rfl | exact oL) <;> (try conv => whnf) <;> (try first | apply cgB | apply cgI | apply cgS | apply cgR | apply cgD | refine cgL ?_) <;> (try (rw [wrap_i64 (by omega) (by omega)]; first | rfl | omega))))
         · intro a ⟨h4, h5⟩
           have hst := @skip_stop tk1 a
           have hgo := @skip_go tk1 a
           refine vc_sound hT hM _ _ _ ?_
           by_cases ha : a < tk1.length
           · by_cases hv : tk1.getD a (dflt .bool) = true
             · (repeat' ((conv => whnf); first | (apply nx; intro s) | (apply rg; intro s k) | ((first | refine cas (fun h => ?_) (fun h => ?_) | refine may (fun h => ?_) ?_) <;> (try simp [-List.getD_eq_getElem?_getD, hv] at h)) | (refine giv fun hg => ?_; (try simp only [byE] at hg)) | refine need (by first | kernel_rfl | omega | (simp; done) | (simp; omega)) ?_ | (exfalso; omega) | (refine ⟨a + 1, ⟨by omega, (hgo ha hv).trans h5⟩, by omega, ?_⟩) | ((first | refine fin_au rfl ?_ | apply WkF.au); (conv => whnf); ((repeat' first | exact trivial | refine ⟨?_, ?_⟩ | exact rfl | exact oR | exact orB rfl | exact oL) <;> (try conv => whnf) <;> (try first | apply cgB | apply cgI | apply cgS | apply cgR | apply cgD | refine cgL ?_) <;> (try (rw [wrap_i64 (by omega) (by omega)]; first | rfl | omega)))) | apply altl))
             · have hv' : tk1.getD a (dflt .bool) = false := by simpa [-List.getD_eq_getElem?_getD] using hv
               rw [hst fun _ => hv'] at h5
               rw [← h5, if_pos ha] at hte
               rw [hte]
               simp only [spA, spH]
               (repeat' ((conv => whnf); first | (apply nx; intro s) | (apply rg; intro s k) | ((first | refine cas (fun h => ?_) (fun h => ?_) | refine may (fun h => ?_) ?_) <;> (try simp [-List.getD_eq_getElem?_getD, hv'] at h)) | (refine giv fun hg => ?_; (try simp only [byE] at hg)) | refine need (by first | kernel_rfl | omega | (simp; done) | (simp; omega)) ?_ | (exfalso; omega) | (refine call_b (hpn) ?_ ?_ ?_ ?_ ?_ ?_; iterate 5 (focus (repeat' first | exact trivial | refine ⟨?_, ?_⟩ | exact rfl | exact oR | exact orB rfl | exact oL); (first | done | fail))) | (refine need (by simp only [byE, chunk, List.length_append, List.length_cons, List.length_nil]; omega) ?_) | ((first | refine fin_au rfl ?_ | apply WkF.au); (conv => whnf); ((repeat' first | exact trivial | refine ⟨?_, ?_⟩ | exact rfl | exact oR | exact orB rfl | exact oL) <;> (try conv => whnf) <;> (try first | apply cgB | apply cgI | apply cgS | apply cgR | apply cgD | refine cgL ?_) <;> (try (rw [wrap_i64 (by omega) (by omega)]; first | rfl | omega)))) | apply altl))
           · rw [hst fun h => (ha h).elim] at h5
             rw [← h5, if_neg ha] at hte
             rw [hte]
             simp only [spA, spH]
             (repeat' ((conv => whnf); first | (apply nx; intro s) | (apply rg; intro s k) | ((first | refine cas (fun h => ?_) (fun h => ?_) | refine may (fun h => ?_) ?_) <;> (try simp [-List.getD_eq_getElem?_getD] at h)) | (refine giv fun hg => ?_; (try simp only [byE] at hg)) | refine need (by first | kernel_rfl | omega | (simp; done) | (simp; omega)) ?_ | (exfalso; omega) | ((first | refine fin_au rfl ?_ | apply WkF.au); (conv => whnf); ((repeat' first | exact trivial | refine ⟨?_, ?_⟩ | exact rfl | exact oR | exact orB rfl | exact oL) <;> (try conv => whnf) <;> (try first | apply cgB | apply cgI | apply cgS | apply cgR | apply cgD | refine cgL ?_) <;> (try (rw [wrap_i64 (by omega) (by omega)]; first | rfl | omega)))) | apply altl))
theorem r_l6Plan (t : Tr) (q : SpS) (h1 : q.1.length ≤ 1099511627776) (h2 : q.2.length + nodes t ≤ 1073741824) : Ret Tryz.prog 137 [agE .tr t, .rw 0, .rw 1] [(0, .row .bool q.1), (1, .row .wr q.2)] (spA (spT t q)) (spH (spT t q)) := l6Plan' _ t (Nat.lt_succ_self _) q h1 h2
theorem last_c {ss : List Su} {rt : Int} (ha : -1099511627776 ≤ (ss.getD 0 (dflt .su)).ver ∧ (ss.getD 0 (dflt .su)).ver ≤ 1099511627776) (hb : -1099511627776 ≤ (ss.getD 1 (dflt .su)).ver ∧ (ss.getD 1 (dflt .su)).ver ≤ 1099511627776) (h : (ss.getD 1 (dflt .su)).ver < (ss.getD 0 (dflt .su)).ver) : chunk .wr 1 [C.int .i64 (-2), C.str [], C.int .i64 (IntKind.i64.wrap (max (ss.getD 0 (dflt .su)).ver (ss.getD 1 (dflt .su)).ver + 1)), C.int .i64 rt] = [lastW ss rt] := by
 rw [wrap_i64 (by omega) (by omega)]
 unfold lastW
 rw [if_pos h]
 rfl
theorem last_d {ss : List Su} {rt : Int} (ha : -1099511627776 ≤ (ss.getD 0 (dflt .su)).ver ∧ (ss.getD 0 (dflt .su)).ver ≤ 1099511627776) (hb : -1099511627776 ≤ (ss.getD 1 (dflt .su)).ver ∧ (ss.getD 1 (dflt .su)).ver ≤ 1099511627776) (h : (ss.getD 0 (dflt .su)).ver ≤ (ss.getD 1 (dflt .su)).ver) : chunk .wr 1 [C.int .i64 (-1), C.str [], C.int .i64 (IntKind.i64.wrap (max (ss.getD 0 (dflt .su)).ver (ss.getD 1 (dflt .su)).ver + 1)), C.int .i64 rt] = [lastW ss rt] := by
 rw [wrap_i64 (by omega) (by omega)]
 unfold lastW
 rw [if_neg (by omega)]
 rfl
noncomputable def planS (ps : List (List UInt8)) (ss : List Su) (t : Tr) : Option (List Wr) :=
 if okT t = true ∧ ss.length = 2 then (spT t (takenF ps ss, [])).map fun r => r.2.2 ++ [lastW ss r.1] else none
def spA' : Option (List Wr) → A
 | some _ => .tp [.rw 0, .c (.bool true)]
 | none => .tp [.un, .c (.bool false)]
def spH' : Option (List Wr) → Hp
 | some l => [(0, .row .wr l)]
 | none => []
theorem r_specPlan {ps : List (List UInt8)} {ss : List Su} (hs : Short ps) (hpl : ps.length ≤ 1099511627776) (hss : SuOk ss) (t : Tr) : Ret Tryz.prog 45 [dkA ps ss, agE .tr t] [] (spA' (planS ps ss t)) (spH' (planS ps ss t)) := by
 unfold planS
 cases hok : okT t with
 | false =>
   rw [if_neg (by simp)]
   simp only [spA', spH']
   refine ret_vc hT hM Tryz.func45 rfl rfl (m := 0) (nx := 0) rfl (Nat.le_of_ble_eq_true rfl) ?_
   (repeat' ((conv => whnf); first | (apply nx; intro s) | (apply rg; intro s k) | ((first | refine cas (fun h => ?_) (fun h => ?_) | refine may (fun h => ?_) ?_) <;> (try simp [-List.getD_eq_getElem?_getD, hok] at h)) | (refine giv fun hg => ?_; (try simp only [byE] at hg)) | refine need (by first | kernel_rfl | omega | (simp; done) | (simp; omega)) ?_ | (refine call_p (r_specTreeOk t) rfl (by (repeat' first | exact trivial | refine ⟨?_, ?_⟩ | exact rfl | exact oR | exact orB rfl | exact oL); (first | done | fail)) ?_) | ((first | refine fin_au rfl ?_ | apply WkF.au); (conv => whnf); ((repeat' first | exact trivial | refine ⟨?_, ?_⟩ | exact rfl | exact oR | exact orB rfl | exact oL) <;> (try conv => whnf) <;> (try first | apply cgB | apply cgI | apply cgS | apply cgR | apply cgD | refine cgL ?_) <;> (try (rw [wrap_i64 (by omega) (by omega)]; first | rfl | omega)))) | apply altl))
 | true =>
   by_cases h2 : ss.length = 2
   · rw [if_pos ⟨rfl, h2⟩]
     have hnd := okT_nodes hok
     have htl := taken_len ps ss
     have htk := r_l6Taken ss hs hpl
     have hv0 := su_get hss (i := 0) (by omega)
     have hv1 := su_get hss (i := 1) (by omega)
     have hc := r_l6Plan t (takenF ps ss, []) (by dsimp only; omega) (by dsimp only; simp only [List.length_nil]; omega)
     generalize takenF ps ss = O at *
     have hpl2 := @spT_len t (O, [])
     generalize spT t (O, []) = z at *
     cases z with
     | none =>
       simp only [spA, spH, spA', spH', Option.map_none] at hc ⊢
       refine ret_vc hT hM Tryz.func45 rfl rfl (m := 0) (nx := 0) rfl (Nat.le_of_ble_eq_true rfl) ?_
       (repeat' ((conv => whnf); first | (apply nx; intro s) | (apply rg; intro s k) | ((first | refine cas (fun h => ?_) (fun h => ?_) | refine may (fun h => ?_) ?_) <;> (try simp [-List.getD_eq_getElem?_getD, hok] at h)) | (refine giv fun hg => ?_; (try simp only [byE] at hg)) | refine need (by first | kernel_rfl | omega | (simp; done) | (simp; omega)) ?_ | (exfalso; omega) | (refine call_p (r_specTreeOk t) rfl (by (repeat' first | exact trivial | refine ⟨?_, ?_⟩ | exact rfl | exact oR | exact orB rfl | exact oL); (first | done | fail)) ?_) | (refine call_n (htk) rfl ?_ ?_ ?_; iterate 2 (focus (repeat' first | exact trivial | refine ⟨?_, ?_⟩ | exact rfl | exact oR | exact orB rfl | exact oL); (first | done | fail))) | (refine call_g [3,2] (hc) rfl rfl rfl ?_ ?_ ?_ ?_ ?_; iterate 4 (focus (repeat' first | exact trivial | refine ⟨?_, ?_⟩ | exact rfl | exact oR | exact orB rfl | exact oL); (first | done | fail))) | (refine call_g [4,2] (hc) rfl rfl rfl ?_ ?_ ?_ ?_ ?_; iterate 4 (focus (repeat' first | exact trivial | refine ⟨?_, ?_⟩ | exact rfl | exact oR | exact orB rfl | exact oL); (first | done | fail))) | (refine call_g [2,3] (hc) rfl rfl rfl ?_ ?_ ?_ ?_ ?_; iterate 4 (focus (repeat' first | exact trivial | refine ⟨?_, ?_⟩ | exact rfl | exact oR | exact orB rfl | exact oL); (first | done | fail))) | ((first | refine fin_au rfl ?_ | apply WkF.au); (conv => whnf); ((repeat' first | exact trivial | refine ⟨?_, ?_⟩ | exact rfl | exact oR | exact orB rfl | exact oL) <;> (try conv => whnf) <;> (try first | apply cgB | apply cgI | apply cgS | apply cgR | apply cgD | refine cgL ?_) <;> (try (rw [wrap_i64 (by omega) (by omega)]; first | rfl | omega)))) | apply altl))
     | some r =>
       obtain ⟨a, tk2, ls2⟩ := r
       have hll := (hpl2 rfl).2
       simp only [List.length_nil] at hll
       simp only [spA, spH, spA', spH', Option.map_some] at hc ⊢
       have hmx := r_l1Max (ss.getD 0 (dflt .su)).ver (ss.getD 1 (dflt .su)).ver
       refine ret_vc hT hM Tryz.func45 rfl rfl (m := 0) (nx := 0) rfl (Nat.le_of_ble_eq_true rfl) ?_
       (repeat' ((conv => whnf); first | (apply nx; intro s) | (apply rg; intro s k) | ((first | refine cas (fun h => ?_) (fun h => ?_) | refine may (fun h => ?_) ?_) <;> (try simp [-List.getD_eq_getElem?_getD, hok] at h)) | (refine giv fun hg => ?_; (try simp only [byE] at hg)) | refine need (by first | kernel_rfl | omega | (simp; done) | (simp; omega)) ?_ | (exfalso; omega) | (refine call_p (r_specTreeOk t) rfl (by (repeat' first | exact trivial | refine ⟨?_, ?_⟩ | exact rfl | exact oR | exact orB rfl | exact oL); (first | done | fail)) ?_) | (refine call_n (htk) rfl ?_ ?_ ?_; iterate 2 (focus (repeat' first | exact trivial | refine ⟨?_, ?_⟩ | exact rfl | exact oR | exact orB rfl | exact oL); (first | done | fail))) | (refine call_g [3,2] (hc) rfl rfl rfl ?_ ?_ ?_ ?_ ?_; iterate 4 (focus (repeat' first | exact trivial | refine ⟨?_, ?_⟩ | exact rfl | exact oR | exact orB rfl | exact oL); (first | done | fail))) | (refine call_g [4,2] (hc) rfl rfl rfl ?_ ?_ ?_ ?_ ?_; iterate 4 (focus (repeat' first | exact trivial | refine ⟨?_, ?_⟩ | exact rfl | exact oR | exact orB rfl | exact oL); (first | done | fail))) | (refine call_g [2,3] (hc) rfl rfl rfl ?_ ?_ ?_ ?_ ?_; iterate 4 (focus (repeat' first | exact trivial | refine ⟨?_, ?_⟩ | exact rfl | exact oR | exact orB rfl | exact oL); (first | done | fail))) | (refine call_p (hmx) rfl (by (repeat' first | exact trivial | refine ⟨?_, ?_⟩ | exact rfl | exact oR | exact orB rfl | exact oL); (first | done | fail)) ?_) | (refine need (by simp only [byE, chunk, List.length_append, List.length_cons, List.length_nil]; omega) ?_) | ((first | refine fin_au rfl ?_ | apply WkF.au); (conv => whnf); ((repeat' first | exact trivial | refine ⟨?_, ?_⟩ | exact rfl | exact oR | exact orB rfl | exact oL) <;> (try conv => whnf) <;> (try first | apply cgB | apply cgI | apply cgS | apply cgR | apply cgD | refine cgL ?_) <;> (try (rw [wrap_i64 (by omega) (by omega)]; first | rfl | omega)))) | apply altl))
       all_goals first
        | exact congrArg (ls2 ++ ·) (last_c hv0 hv1 (by assumption))
        | exact congrArg (ls2 ++ ·) (last_d hv0 hv1 (by assumption))
   · rw [if_neg (by omega)]
     simp only [spA', spH']
     refine ret_vc hT hM Tryz.func45 rfl rfl (m := 0) (nx := 0) rfl (Nat.le_of_ble_eq_true rfl) ?_
     (repeat' ((conv => whnf); first | (apply nx; intro s) | (apply rg; intro s k) | ((first | refine cas (fun h => ?_) (fun h => ?_) | refine may (fun h => ?_) ?_) <;> (try simp [-List.getD_eq_getElem?_getD, hok] at h)) | (refine giv fun hg => ?_; (try simp only [byE] at hg)) | refine need (by first | kernel_rfl | omega | (simp; done) | (simp; omega)) ?_ | (exfalso; omega) | (refine call_p (r_specTreeOk t) rfl (by (repeat' first | exact trivial | refine ⟨?_, ?_⟩ | exact rfl | exact oR | exact orB rfl | exact oL); (first | done | fail)) ?_) | ((first | refine fin_au rfl ?_ | apply WkF.au); (conv => whnf); ((repeat' first | exact trivial | refine ⟨?_, ?_⟩ | exact rfl | exact oR | exact orB rfl | exact oL) <;> (try conv => whnf) <;> (try first | apply cgB | apply cgI | apply cgS | apply cgR | apply cgD | refine cgL ?_) <;> (try (rw [wrap_i64 (by omega) (by omega)]; first | rfl | omega)))) | apply altl))
end Go.Proofs.YthbpdhppelaihaaGreat