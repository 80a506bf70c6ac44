/- Which pages are taken: the reference. Conditions: none. -/
import Derived.Test.YthbpdhppelaihaaGreatBM
set_option linter.unusedVariables false
set_option linter.unusedSimpArgs false
namespace Go.Proofs.YthbpdhppelaihaaGreat
open Go.RowKit
attribute [local irreducible] Tri Weak
set_option maxRecDepth 4000
set_option maxHeartbeats 4000000
def MG (O S : List Bool) (k : Nat) (L : List Bool) : Prop := L.length = O.length ∧ ∀ j, L.getD j false = if j < k then O.getD j false || S.getD j false else O.getD j false
theorem mg_zero (O S : List Bool) : MG O S 0 O := ⟨rfl, fun j => by rw [if_neg (by omega)]⟩
theorem mg_step {O S L : List Bool} {k : Nat} (h : MG O S k L) (hk : k < O.length) {v : Bool} (hv : v = (L.getD k false || S.getD k false)) : MG O S (k + 1) (L.set k v) := by
 refine ⟨by rw [List.length_set]; exact h.1, fun j => ?_⟩
 rw [List.getD_eq_getElem?_getD, List.getElem?_set]
 by_cases hj : k = j
 · subst hj
   rw [if_pos rfl, if_pos (by rw [h.1]; exact hk), if_pos (by omega), Option.getD_some, hv, h.2, if_neg (by omega)]
 · rw [if_neg hj, ← List.getD_eq_getElem?_getD, h.2]
   by_cases h2 : j < k
   · rw [if_pos h2, if_pos (by omega)]
   · rw [if_neg h2, if_neg (by omega)]
theorem mg_end {O L : List Bool} {k n : Nat} {l : List Int} (h : MG O (mark l (List.replicate n false)) k L) (hn : n = O.length) (hk : O.length ≤ k) (hl : ∀ x ∈ l, 0 ≤ x ∧ x < O.length) : L = mark l O := by
 apply List.ext_getElem (by rw [h.1, mark_len])
 intro j h1 h2
 have e1 := h.2 j
 have e2 := mark_get l O j hl
 have e3 := mark_get l (List.replicate n false) j (by rw [List.length_replicate, hn]; exact hl)
 rw [if_pos (by rw [h.1] at h1; omega), e3] at e1
 have e4 : (List.replicate n false).getD j false = false := by rw [List.getD_eq_getElem?_getD, List.getElem?_replicate]; split <;> rfl
 rw [e4, Bool.false_or, ← e2, List.getD_eq_getElem?_getD, List.getD_eq_getElem?_getD, List.getElem?_eq_getElem h1, List.getElem?_eq_getElem h2] at e1
 exact e1
theorem r_l6Taken {ps : List (List UInt8)} (ss : List Su) (hs : Short ps) (hpl : ps.length ≤ 1099511627776) : Ret Tryz.prog 138 [dkA ps ss] [] (.rw 0) [(0, .row .bool (takenF ps ss))] := by
 have hst := @taken_step ps ss
 have hlen := fun i => taken_len ps (ss.take i)
 have hz : takenF ps (ss.take 0) = List.replicate ps.length false := rfl
 refine ret_vc hT hM Tryz.func138 rfl rfl (m := 0) (nx := 0) rfl (Nat.le_of_ble_eq_true rfl) ?_
 (repeat' ((conv => whnf); first | (apply nx; intro s) | (apply rg; intro s k) | ((first | refine cas (fun h => ?_) (fun h => ?_) | refine may (fun h => ?_) ?_) <;> (try simp [-List.getD_eq_getElem?_getD] at h)) | (refine giv fun hg => ?_; (try simp only [byE] at hg)) | refine need (by first | kernel_rfl | omega | (simp; done) | (simp; omega)) ?_ | ((first | refine fin_au rfl ?_ | apply WkF.au); (conv => whnf); ((repeat' first | exact trivial | refine ⟨?_, ?_⟩ | exact rfl | exact oR | exact orB rfl | exact oL) <;> (try conv => whnf) <;> (try first | apply cgB | apply cgI | apply cgS | apply cgR | apply cgD | refine cgL ?_) <;> (try (rw [wrap_i64 (by omega) (by omega)]; first | rfl | omega)))) | apply altl))
 (repeat ((conv => whnf); first | (apply nx; intro s) | (apply rg; intro s k))); (conv => whnf)
 refine Tri.loop (fun i : Nat => ⟨[(1, .pt 0 0), (3, .rw 1), (4, aI i)], [(0, .box [.c (.sl .str ps), .c (.sl .su ss)]), (1, .row .bool (takenF ps (ss.take i)))], 2⟩) (fun i => i ≤ ss.length) (fun i => ss.length - i) 0 (Nat.zero_le _) ?_ ?_
 · (apply WkF.au; (conv => whnf); ((repeat' first | exact trivial | refine ⟨?_, ?_⟩ | exact rfl | exact oR | exact orB rfl | exact oL) <;> (try conv => whnf) <;> (try first | apply cgB | apply cgI | apply cgS | apply cgR | apply cgD | refine cgL ?_) <;> (try (rw [wrap_i64 (by omega) (by omega)]; first | rfl | omega))))
 · intro i h1
   refine vc_sound hT hM _ _ _ ?_
   by_cases hi : i < ss.length
   · have hst' := hst hi
     have hlen' := hlen i
     generalize takenF ps (ss.take i) = O at *
     have hin := ofSu_in ps (ss.getD i (dflt .su))
     have hc := r_l6Pages ss hs hpl 7 (by omega) (ss.getD i (dflt .su)).root (List.replicate ps.length false) (by simp)
     have hof : (ofSu ps (ss.getD i (dflt .su))) = if 0 < (ss.getD i (dflt .su)).ver ∧ (pgF ps 7 (ss.getD i (dflt .su)).root).2 = true then (pgF ps 7 (ss.getD i (dflt .su)).root).1 else [] := rfl
     rw [hof] at hst' hin
     clear hof hst hlen hz
     generalize pgF ps 7 (ss.getD i (dflt .su)).root = z at *
     obtain ⟨zl, zo⟩ := z
     dsimp only at hc hst' hin
     have hno : ¬ (0 < (ss.getD i (dflt .su)).ver ∧ zo = true) → takenF ps (ss.take (i + 1)) = O := fun h => by rw [hst', if_neg h]; rfl
     by_cases hv : 0 < (ss.getD i (dflt .su)).ver ∧ zo = true
     · rw [if_pos hv] at hst' hin
       obtain ⟨hv, rfl⟩ := hv
       have hmz := mg_zero O (mark zl (List.replicate ps.length false))
       have hml := mark_len zl (List.replicate ps.length false)
       have hme := fun k L => @mg_end O L k ps.length zl
       rw [List.length_replicate] at hml
       generalize hS : mark zl (List.replicate ps.length false) = S at *
       (repeat' ((conv => whnf); first | (apply nx; intro s) | (apply rg; intro s k) | ((first | refine cas (fun h => ?_) (fun h => ?_) | refine may (fun h => ?_) ?_) <;> (try simp [-List.getD_eq_getElem?_getD] at h)) | (refine giv fun hg => ?_; (try simp only [byE] at hg)) | refine need (by first | kernel_rfl | omega | (simp; done) | (simp; omega)) ?_ | (exfalso; omega) | (refine call_g [2] (hc) rfl rfl rfl ?_ ?_ ?_ ?_ ?_; iterate 4 (focus (repeat' first | exact trivial | refine ⟨?_, ?_⟩ | exact rfl | exact oR | exact orB rfl | exact oL); (first | done | fail))) | ((first | refine fin_au rfl ?_ | apply WkF.au); (conv => whnf); ((repeat' first | exact trivial | refine ⟨?_, ?_⟩ | exact rfl | exact oR | exact orB rfl | exact oL) <;> (try conv => whnf) <;> (try first | apply cgB | apply cgI | apply cgS | apply cgR | apply cgD | refine cgL ?_) <;> (try (rw [wrap_i64 (by omega) (by omega)]; first | rfl | omega)))) | apply altl))
       (repeat ((conv => whnf); first | (apply nx; intro s) | (apply rg; intro s k))); (conv => whnf)
       refine Tri.loop (fun q : Nat × List Bool => ⟨[(1, .pt 0 0), (3, .rw 1), (4, aI i), (5, .rw 2), (6, aI q.1)], [(0, .box [.c (.sl .str ps), .c (.sl .su ss)]), (1, .row .bool q.2), (2, .row .bool S)], 3⟩) (fun q => q.1 ≤ S.length ∧ MG O S q.1 q.2) (fun q => S.length - q.1) (0, O) ⟨Nat.zero_le _, hmz⟩ ?_ ?_
       · (apply WkF.au; (conv => whnf); ((repeat' first | exact trivial | refine ⟨?_, ?_⟩ | exact rfl | exact oR | exact orB rfl | exact oL) <;> (try conv => whnf) <;> (try first | apply cgB | apply cgI | apply cgS | apply cgR | apply cgD | refine cgL ?_) <;> (try (rw [wrap_i64 (by omega) (by omega)]; first | rfl | omega))))
       · intro ⟨k6, L⟩ ⟨h2, h3⟩
         dsimp only at h2 h3
         have hL := h3.1
         refine vc_sound hT hM _ _ _ ?_
         try dsimp only
         by_cases hk : k6 < S.length
         · have hnx := @mg_step O S L k6 h3 (by omega)
           (repeat' ((conv => whnf); first | (apply nx; intro s) | (apply rg; intro s k) | ((first | refine cas (fun h => ?_) (fun h => ?_) | refine may (fun h => ?_) ?_) <;> (try simp [-List.getD_eq_getElem?_getD] at h)) | (refine giv fun hg => ?_; (try simp only [byE] at hg)) | refine need (by first | kernel_rfl | omega | (simp; done) | (simp; omega)) ?_ | (exfalso; omega) | (refine ⟨(k6 + 1, L.set k6 (L.getD k6 false || S.getD k6 false)), ⟨by dsimp only; omega, hnx rfl⟩, by dsimp only; omega, ?_⟩) | ((first | refine fin_au rfl ?_ | apply WkF.au); (conv => whnf); ((repeat' first | exact trivial | refine ⟨?_, ?_⟩ | exact rfl | exact oR | exact orB rfl | exact oL) <;> (try conv => whnf) <;> (try first | apply cgB | apply cgI | apply cgS | apply cgR | apply cgD | refine cgL ?_) <;> (try (rw [wrap_i64 (by omega) (by omega)]; first | rfl | omega)))) | apply altl))
           · dsimp only; rw [show L.getD k6 false = true from h]; rfl
           · dsimp only; rw [show L.getD k6 false = false from (by assumption), Bool.false_or]; rfl
         · have hfin := hme k6 L h3 (by omega) (by omega) (by intro x hx; have := hin x hx; omega)
           rw [← hst'] at hfin
           (repeat' ((conv => whnf); first | (apply nx; intro s) | (apply rg; intro s k) | ((first | refine cas (fun h => ?_) (fun h => ?_) | refine may (fun h => ?_) ?_) <;> (try simp [-List.getD_eq_getElem?_getD] at h)) | (refine giv fun hg => ?_; (try simp only [byE] at hg)) | refine need (by first | kernel_rfl | omega | (simp; done) | (simp; omega)) ?_ | (exfalso; omega) | (refine ⟨i + 1, by omega, by omega, ?_⟩) | ((first | refine fin_au rfl ?_ | apply WkF.au); (conv => whnf); ((repeat' first | exact trivial | refine ⟨?_, ?_⟩ | exact rfl | exact oR | exact orB rfl | exact oL) <;> (try conv => whnf) <;> (try first | apply cgB | apply cgI | apply cgS | apply cgR | apply cgD | refine cgL ?_) <;> (try (rw [wrap_i64 (by omega) (by omega)]; first | rfl | omega)))) | apply altl))
           all_goals exact hfin
     · have hO := hno hv
       (repeat' ((conv => whnf); first | (apply nx; intro s) | (apply rg; intro s k) | ((first | refine cas (fun h => ?_) (fun h => ?_) | refine may (fun h => ?_) ?_) <;> (try simp [-List.getD_eq_getElem?_getD] at h)) | (refine giv fun hg => ?_; (try simp only [byE] at hg)) | refine need (by first | kernel_rfl | omega | (simp; done) | (simp; omega)) ?_ | (exfalso; omega) | ((exfalso; exact hv ⟨by assumption, by assumption⟩)) | (refine call_g [2] (hc) rfl rfl rfl ?_ ?_ ?_ ?_ ?_; iterate 4 (focus (repeat' first | exact trivial | refine ⟨?_, ?_⟩ | exact rfl | exact oR | exact orB rfl | exact oL); (first | done | fail))) | (refine ⟨i + 1, by omega, by omega, ?_⟩) | ((first | refine fin_au rfl ?_ | apply WkF.au); (conv => whnf); ((repeat' first | exact trivial | refine ⟨?_, ?_⟩ | exact rfl | exact oR | exact orB rfl | exact oL) <;> (try conv => whnf) <;> (try first | apply cgB | apply cgI | apply cgS | apply cgR | apply cgD | refine cgL ?_) <;> (try (rw [wrap_i64 (by omega) (by omega)]; first | rfl | omega)))) | apply altl))
       all_goals exact hO.symm
   · (repeat' ((conv => whnf); first | (apply nx; intro s) | (apply rg; intro s k) | ((first | refine cas (fun h => ?_) (fun h => ?_) | refine may (fun h => ?_) ?_) <;> (try simp [-List.getD_eq_getElem?_getD] at h)) | (refine giv fun hg => ?_; (try simp only [byE] at hg)) | refine need (by first | kernel_rfl | omega | (simp; done) | (simp; omega)) ?_ | (exfalso; omega) | ((first | refine fin_au rfl ?_ | apply WkF.au); (conv => whnf); ((repeat' first | exact trivial | refine ⟨?_, ?_⟩ | exact rfl | exact oR | exact orB rfl | exact oL) <;> (try conv => whnf) <;> (try first | apply cgB | apply cgI | apply cgS | apply cgR | apply cgD | refine cgL ?_) <;> (try (rw [wrap_i64 (by omega) (by omega)]; first | rfl | omega)))) | apply altl))
     all_goals (rw [List.take_of_length_le (by omega)])
end Go.Proofs.YthbpdhppelaihaaGreat