/- Joined: S3 S4 S5 S6 T1. -/
import Derived.Test.YthbpdhppelaihaaGreatZT
import Derived.Test.YthbpdhppelaihaaGreatTE
import Derived.Laws.StructEq
/- Structs of numbers, compared; slices.Equal of pairs. Conditions: none. -/
set_option linter.unusedVariables false
set_option linter.unusedSimpArgs false
namespace Go.Proofs.YthbpdhppelaihaaGreat
open Go.RowKit
attribute [local irreducible] Tri Weak
set_option maxRecDepth 4000
set_option maxHeartbeats 4000000
theorem sameI_cons {x : A} {l l' : List A} {b : Bool} (h : sameI (x :: l) l' = some b) : ∃ (p q : Int) (l1 : List A) (t : Bool), x = .c (.int .i64 p) ∧ l' = .c (.int .i64 q) :: l1 ∧ sameI l l1 = some t ∧ b = (decide (p = q) && t) := by
 unfold sameI at h
 split at h
 · exact absurd ‹x :: l = []› (by simp)
 · rename_i p l0 q l1 heq1
   injection heq1 with e1 e2
   subst e1
   subst e2
   split at h
   · rename_i t h2; cases h; exact ⟨p, q, l1, t, rfl, rfl, h2, rfl⟩
   · cases h
 · cases h
theorem eqPr : EqT Tryz.prog 115 2 := by
 intro l l' b w hl hs
 match l, hl with
 | [x, y], _ =>
   obtain ⟨p, q, l1, t, rfl, rfl, h1, rfl⟩ := sameI_cons hs
   obtain ⟨p2, q2, l2, t2, rfl, rfl, h2, rfl⟩ := sameI_cons h1
   obtain ⟨rfl, rfl⟩ : l2 = [] ∧ t2 = true := by
    cases l2 with
    | nil => simp [sameI] at h2; exact ⟨rfl, h2.symm ▸ rfl⟩
    | cons => simp [sameI] at h2
   have hS : Tryz.prog.underlying 115 = some (.struct (Tryz.prog.fieldsOf 115)) := by kernel_rfl
   have hp : Tryz.prog.stoodInHeld 115 = false := by kernel_rfl
   have hg : Tryz.prog.eqGuardType Tryz.prog.depth 115 = false := by kernel_rfl
   refine ⟨?_, fun x y op => run_eqGuard_agg (P := Tryz.prog) (w := w) op 115 x y _ _ hg⟩
   simp only [cellsI]
   show (Op.equalIn (9999 + 1) 115 _ _).run _ w = _
   rw [run_equalIn_agg w 9999 115 _ _ hS hp]
   simp only [Program.fieldsOf, Tryz.underlying115]
   go_simp
   by_cases h1 : p = q <;> by_cases h2 : p2 = q2 <;> simp [h1, h2]
end Go.Proofs.YthbpdhppelaihaaGreat
/- slices.DeleteFunc at the program's closures. Conditions: none. By program (gen7.py). -/
namespace Go.Proofs.YthbpdhppelaihaaGreat
open Go.RowKit
attribute [local irreducible] Tri Weak
set_option maxRecDepth 4000
set_option maxHeartbeats 4000000
def DelInv {α : Type} (p : α → Bool) (xs L : List α) (i j : Nat) : Prop := i < j ∧ j ≤ xs.length ∧ L.length = xs.length ∧ L.take i = (xs.take j).filter (fun x => !p x) ∧ L.drop j = xs.drop j
theorem del_start {α : Type} {p : α → Bool} {xs : List α} {i : Nat} {d : α} (hi : i < xs.length) (hp : p (xs.getD i d) = true) (hpre : ∀ j, j < i → p (xs.getD j d) = false) : DelInv p xs xs i (i + 1) := by
 refine ⟨by omega, by omega, rfl, ?_, rfl⟩
 rw [List.take_add_one, List.filter_append]
 have h1 : (xs.take i).filter (fun x => !p x) = xs.take i := by
  rw [List.filter_eq_self]
  intro a ha
  obtain ⟨j, hj, rfl⟩ := List.mem_iff_getElem.1 ha
  have hj' : j < i := by simp at hj; omega
  have := hpre j hj'
  rw [List.getD_eq_getElem?_getD, List.getElem?_eq_getElem (by omega)] at this
  rw [List.getElem_take]
  simpa using this
 rw [h1]
 rw [List.getD_eq_getElem?_getD, List.getElem?_eq_getElem hi] at hp
 rw [List.getElem?_eq_getElem hi]
 simp at hp
 simp [hp]
theorem del_get {α : Type} {p : α → Bool} {xs L : List α} {i j : Nat} (h : DelInv p xs L i j) (hj : j < xs.length) (d : α) : L.getD j d = xs.getD j d := by
 obtain ⟨h1, h2, h3, h4, h5⟩ := h
 have := congrArg (fun l : List α => l.getD 0 d) h5
 simp only [List.getD_eq_getElem?_getD, List.getElem?_drop, Nat.add_zero] at this ⊢
 exact this
theorem del_skip {α : Type} {p : α → Bool} {xs L : List α} {i j : Nat} (h : DelInv p xs L i j) (hj : j < xs.length) {d : α} (hp : p (L.getD j d) = true) : DelInv p xs L i (j + 1) := by
 rw [del_get h hj d] at hp
 obtain ⟨h1, h2, h3, h4, h5⟩ := h
 rw [List.getD_eq_getElem?_getD, List.getElem?_eq_getElem hj] at hp
 simp at hp
 refine ⟨by omega, by omega, h3, ?_, ?_⟩
 · rw [List.take_add_one, List.filter_append, h4, List.getElem?_eq_getElem hj]
   simp [hp]
 · rw [← List.drop_drop, h5, List.drop_drop]
theorem del_keep {α : Type} {p : α → Bool} {xs L : List α} {i j : Nat} (h : DelInv p xs L i j) (hj : j < xs.length) {d : α} (hp : p (L.getD j d) = false) : DelInv p xs (L.set i (L.getD j d)) (i + 1) (j + 1) := by
 have hg := del_get h hj d
 rw [hg] at hp ⊢
 obtain ⟨h1, h2, h3, h4, h5⟩ := h
 have hx : xs.getD j d = xs[j] := by rw [List.getD_eq_getElem?_getD, List.getElem?_eq_getElem hj]; rfl
 rw [hx] at hp ⊢
 refine ⟨by omega, by omega, by simpa using h3, ?_, ?_⟩
 · have e1 : (xs.take (j + 1)).filter (fun x => !p x) = L.take i ++ [xs[j]] := by
    rw [List.take_add_one, List.filter_append, ← h4, List.getElem?_eq_getElem hj]
    simp [hp]
   rw [e1, List.take_add_one, List.getElem?_set_self (by omega), List.take_set_of_le (Nat.le_refl _)]
   rfl
 · rw [List.drop_set_of_lt (by omega), ← List.drop_drop, h5, List.drop_drop]
theorem del_end {α : Type} {p : α → Bool} {xs L : List α} {i j : Nat} (h : DelInv p xs L i j) (hj : xs.length ≤ j) : L.take i = xs.filter (fun x => !p x) := by
 obtain ⟨h1, h2, h3, h4, h5⟩ := h
 rw [h4, List.take_of_length_le hj]
theorem del_none {α : Type} {p : α → Bool} {xs : List α} (h : ixF p xs = -1) : xs.filter (fun x => !p x) = xs := by
 rw [List.filter_eq_self]
 intro a ha
 unfold ixF at h
 cases hf : xs.findIdx? p with
 | none =>
   rw [List.findIdx?_eq_none_iff] at hf
   simpa using hf a ha
 | some i => rw [hf] at h; simp at h
theorem ix_cases {α : Type} (p : α → Bool) (xs : List α) (d : α) : ixF p xs = -1 ∨ ∃ i : Nat, ixF p xs = i ∧ i < xs.length ∧ p (xs.getD i d) = true ∧ ∀ j, j < i → p (xs.getD j d) = false := by
 unfold ixF
 cases hf : xs.findIdx? p with
 | none => exact .inl rfl
 | some i =>
   rw [List.findIdx?_eq_some_iff_getElem] at hf
   obtain ⟨h1, h2, h3⟩ := hf
   refine .inr ⟨i, rfl, h1, ?_, fun j hj => ?_⟩
   · rw [List.getD_eq_getElem?_getD, List.getElem?_eq_getElem h1]; exact h2
   · have := h3 j hj
     rw [List.getD_eq_getElem?_getD, List.getElem?_eq_getElem (by omega)]
     simpa using this
theorem ixr_shrink1 (p : El .ms → Bool)  (hc : ∀ x : El .ms, Ret Tryz.prog 220 [agE .ms x] [] (.c (.bool (p x))) []) (xs : List (El .ms)) : Ret Tryz.prog 224 [.rw 0, .fn 220 []] [(0, .row .ms xs)] (aI (ixF p xs)) [(0, .row .ms xs)] := by
 refine ret_vc hT hM Tryz.func224 rfl rfl (m := 1) (nx := 1) rfl (Nat.le_of_ble_eq_true rfl) ?_
 (repeat' ((conv => whnf); first | (apply nx; intro s) | (apply rg; intro s k) | ((first | refine cas (fun h => ?_) (fun h => ?_) | refine may (fun h => ?_) ?_) <;> (try simp [-List.getD_eq_getElem?_getD] at h)) | (refine giv fun hg => ?_; (try simp only [byE] at hg)) | refine need (by first | kernel_rfl | omega | (simp; done) | (simp; omega)) ?_ | ((first | refine fin_au rfl ?_ | apply WkF.au); (conv => whnf); ((repeat' first | exact trivial | refine ⟨?_, ?_⟩ | exact rfl | exact oR | exact orB rfl | exact oL) <;> (try conv => whnf) <;> (try first | apply cgB | apply cgI | apply cgS | apply cgR | apply cgD | refine cgL ?_) <;> (try (rw [wrap_i64 (by omega) (by omega)]; first | rfl | omega)))) | apply altl))
 (repeat ((conv => whnf); first | (apply nx; intro s) | (apply rg; intro s k))); (conv => whnf)
 refine Tri.loop (fun i : Nat => ⟨[(0, .rw 0), (1, .fn 220 []), (7, aI xs.length), (8, aI i)], [(0, .row .ms xs)], 1⟩) (fun i => i ≤ xs.length ∧ ∀ j, j < i → p (xs.getD j (dflt .ms)) = false) (fun i => xs.length - i) 0 ⟨by omega, fun j hj => by omega⟩ ?_ ?_
 · (apply WkF.au; (conv => whnf); ((repeat' first | exact trivial | refine ⟨?_, ?_⟩ | exact rfl | exact oR | exact orB rfl | exact oL) <;> (try conv => whnf) <;> (try first | apply cgB | apply cgI | apply cgS | apply cgR | apply cgD | refine cgL ?_) <;> (try (rw [wrap_i64 (by omega) (by omega)]; first | rfl | omega))))
 · intro i ⟨hi, hpre⟩
   refine vc_sound hT hM _ _ _ ?_
   (repeat' ((conv => whnf); first | (apply nx; intro s) | (apply rg; intro s k) | ((first | refine cas (fun h => ?_) (fun h => ?_) | refine may (fun h => ?_) ?_) <;> (try simp [-List.getD_eq_getElem?_getD] at h)) | (refine giv fun hg => ?_; (try simp only [byE] at hg)) | refine need (by first | kernel_rfl | omega | (simp; done) | (simp; omega)) ?_ | (refine call_g [] (hc (xs.getD i (dflt .ms))) rfl rfl rfl ?_ ?_ ?_ ?_ ?_; iterate 4 (focus (repeat' first | exact trivial | refine ⟨?_, ?_⟩ | exact rfl | exact oR | exact orB rfl | exact oL); (first | done | fail))) | (refine ⟨(i + 1 : Nat), ?_, ?_, ?_⟩) | ((first | refine fin_au rfl ?_ | apply WkF.au); (conv => whnf); ((repeat' first | exact trivial | refine ⟨?_, ?_⟩ | exact rfl | exact oR | exact orB rfl | exact oL) <;> (try conv => whnf) <;> (try first | apply cgB | apply cgI | apply cgS | apply cgR | apply cgD | refine cgL ?_) <;> (try (rw [wrap_i64 (by omega) (by omega)]; first | rfl | omega)))) | apply altl))
   all_goals first
    | omega
    | (rw [wrap_i64 (by omega) (by omega)]; omega)
    | exact (ixF_some (by omega) (by simpa using h) hpre).symm
    | exact (ixF_none fun j hj => hpre j (by omega)).symm
    | exact ⟨by omega, fun j hj => (Nat.lt_succ_iff_lt_or_eq.1 hj).elim (hpre j) fun e => by subst e; simpa using h⟩
theorem del_shrink1 (p : El .ms → Bool)  (hc : ∀ x : El .ms, Ret Tryz.prog 220 [agE .ms x] [] (.c (.bool (p x))) []) (xs : List (El .ms)) : Ret Tryz.prog 172 [.rw 0, .fn 220 []] [(0, .row .ms xs)] (.rw 1) [(0, .gone), (1, .row .ms (xs.filter fun x => !p x))] := by
 refine ret_givR 0 ⟨_, Tryz.func172, rfl, rfl⟩ rfl fun hb => ?_
 simp only [byE] at hb
 rcases ix_cases p xs (dflt .ms) with hx | ⟨i0, hx, hi0, hp0, hpre⟩
 · refine ret_vc hT hM Tryz.func172 rfl rfl (m := 1) (nx := 1) rfl (Nat.le_of_ble_eq_true rfl) ?_
   (repeat' ((conv => whnf); first | (apply nx; intro s) | (apply rg; intro s k) | ((first | refine cas (fun h => ?_) (fun h => ?_) | refine may (fun h => ?_) ?_) <;> (try simp [-List.getD_eq_getElem?_getD, hx] at h)) | (refine giv fun hg => ?_; (try simp only [byE] at hg)) | refine need (by first | kernel_rfl | omega | (simp; done) | (simp; omega)) ?_ | (refine call_g [0] (ixr_shrink1 p  hc xs) rfl rfl rfl ?_ ?_ ?_ ?_ ?_; iterate 4 (focus (repeat' first | exact trivial | refine ⟨?_, ?_⟩ | exact rfl | exact oR | exact orB rfl | exact oL); (first | done | fail))) | ((first | refine fin_au rfl ?_ | apply WkF.au); (conv => whnf); ((repeat' first | exact trivial | refine ⟨?_, ?_⟩ | exact rfl | exact oR | exact orB rfl | exact oL) <;> (try conv => whnf) <;> (try first | apply cgB | apply cgI | apply cgS | apply cgR | apply cgD | refine cgL ?_) <;> (try (rw [wrap_i64 (by omega) (by omega)]; first | rfl | omega)))) | apply altl))
   all_goals exact (del_none hx).symm
 · refine ret_vc hT hM Tryz.func172 rfl rfl (m := 1) (nx := 1) rfl (Nat.le_of_ble_eq_true rfl) ?_
   (repeat' ((conv => whnf); first | (apply nx; intro s) | (apply rg; intro s k) | ((first | refine cas (fun h => ?_) (fun h => ?_) | refine may (fun h => ?_) ?_) <;> (try simp [-List.getD_eq_getElem?_getD, hx] at h)) | (refine giv fun hg => ?_; (try simp only [byE] at hg)) | refine need (by first | kernel_rfl | omega | (simp; done) | (simp; omega)) ?_ | (refine call_g [0] (ixr_shrink1 p  hc xs) rfl rfl rfl ?_ ?_ ?_ ?_ ?_; iterate 4 (focus (repeat' first | exact trivial | refine ⟨?_, ?_⟩ | exact rfl | exact oR | exact orB rfl | exact oL); (first | done | fail))) | (exfalso; omega) | (apply WkF.au; (conv => whnf); ((repeat' first | exact trivial | refine ⟨?_, ?_⟩ | exact rfl | exact oR | exact orB rfl | exact oL) <;> (try conv => whnf) <;> (try first | apply cgB | apply cgI | apply cgS | apply cgR | apply cgD | refine cgL ?_) <;> (try (rw [wrap_i64 (by omega) (by omega)]; first | rfl | omega)))) | apply altl))
   (repeat ((conv => whnf); first | (apply nx; intro s) | (apply rg; intro s k))); (conv => whnf)
   refine Tri.loop (fun q : List (El .ms) × Nat × Nat => ⟨[(0, .rw 0), (1, .fn 220 []), (5, aI q.2.1), (6, aI q.2.2)], [(0, .row .ms (q.1))], 1⟩) (fun q => DelInv p xs q.1 q.2.1 q.2.2) (fun q => xs.length - q.2.2) (xs, i0, i0 + 1) (del_start hi0 hp0 hpre) ?_ ?_
   · (apply WkF.au; (conv => whnf); ((repeat' first | exact trivial | refine ⟨?_, ?_⟩ | exact rfl | exact oR | exact orB rfl | exact oL) <;> (try conv => whnf) <;> (try first | apply cgB | apply cgI | apply cgS | apply cgR | apply cgD | refine cgL ?_) <;> (try (rw [wrap_i64 (by omega) (by omega)]; first | rfl | omega))))
     all_goals (try dsimp only)
     all_goals first | exact hx | (rw [hx, wrap_i64 (by omega) (by omega)]; rfl)
   · intro ⟨L, i, j⟩ hinv
     have hin := hinv
     obtain ⟨h1, h2, h3, h4, h5⟩ := hin
     simp only at h1 h2 h3 h4 h5 hinv
     refine vc_sound hT hM _ _ _ ?_
     (repeat' ((conv => whnf); first | (apply nx; intro s) | (apply rg; intro s k) | ((first | refine cas (fun h => ?_) (fun h => ?_) | refine may (fun h => ?_) ?_) <;> (try simp [-List.getD_eq_getElem?_getD, h3] at h)) | (refine giv fun hg => ?_; (try simp only [byE] at hg)) | refine need (by first | kernel_rfl | omega | (simp; done) | (simp; omega)) ?_ | (refine call_g [] (hc (L.getD j (dflt .ms))) rfl rfl rfl ?_ ?_ ?_ ?_ ?_; iterate 4 (focus (repeat' first | exact trivial | refine ⟨?_, ?_⟩ | exact rfl | exact oR | exact orB rfl | exact oL); (first | done | fail))) | (refine ⟨(L.set i (L.getD j (dflt .ms)), i + 1, j + 1), del_keep hinv (by omega) h, ?_, ?_⟩) | (refine ⟨(L, i, j + 1), del_skip hinv (by omega) h, ?_, ?_⟩) | (refine altr ?_) | (refine cutr ?_) | ((first | refine fin_au rfl ?_ | apply WkF.au); (conv => whnf); ((repeat' first | exact trivial | refine ⟨?_, ?_⟩ | exact rfl | exact oR | exact orB rfl | exact oL) <;> (try conv => whnf) <;> (try first | apply cgB | apply cgI | apply cgS | apply cgR | apply cgD | refine cgL ?_) <;> (try (rw [wrap_i64 (by omega) (by omega)]; first | rfl | omega)))) | apply altl))
     all_goals (try simp only [List.length_set] at hg)
     all_goals (try dsimp only)
     all_goals first
      | omega
      | (rw [wrap_i64 (by omega) (by omega)]; rfl)
      | exact congrArg (fun y => L.set i y) (spl_all .ms _ _)
      | (have hi : i ≤ L.length := by omega
         rw [← del_end hinv h]
         simp only [Int.toNat_natCast, Int.toNat_zero, Nat.sub_zero, Nat.zero_add]
         rw [List.take_append_of_le_length (by simp; omega), List.take_take, Nat.min_self])
theorem ixr_give1 (p : El .ms → Bool) (cuts : List Int) (at0 : Int) (hc : ∀ x : El .ms, Ret Tryz.prog 173 [agE .ms x, .pt 0 0, .pt 1 0] [(0, .box [aL .int cuts]), (1, .box [aI at0])] (.c (.bool (p x))) [(0, .box [aL .int cuts]), (1, .box [aI at0])]) (xs : List (El .ms)) : Ret Tryz.prog 224 [.rw 0, .fn 173 [.pt 1 0, .pt 2 0]] [(0, .row .ms xs), (1, .box [aL .int cuts]), (2, .box [aI at0])] (aI (ixF p xs)) [(0, .row .ms xs), (1, .box [aL .int cuts]), (2, .box [aI at0])] := by
 refine ret_vc hT hM Tryz.func224 rfl rfl (m := 3) (nx := 3) rfl (Nat.le_of_ble_eq_true rfl) ?_
 (repeat' ((conv => whnf); first | (apply nx; intro s) | (apply rg; intro s k) | ((first | refine cas (fun h => ?_) (fun h => ?_) | refine may (fun h => ?_) ?_) <;> (try simp [-List.getD_eq_getElem?_getD] at h)) | (refine giv fun hg => ?_; (try simp only [byE] at hg)) | refine need (by first | kernel_rfl | omega | (simp; done) | (simp; omega)) ?_ | ((first | refine fin_au rfl ?_ | apply WkF.au); (conv => whnf); ((repeat' first | exact trivial | refine ⟨?_, ?_⟩ | exact rfl | exact oR | exact orB rfl | exact oL) <;> (try conv => whnf) <;> (try first | apply cgB | apply cgI | apply cgS | apply cgR | apply cgD | refine cgL ?_) <;> (try (rw [wrap_i64 (by omega) (by omega)]; first | rfl | omega)))) | apply altl))
 (repeat ((conv => whnf); first | (apply nx; intro s) | (apply rg; intro s k))); (conv => whnf)
 refine Tri.loop (fun i : Nat => ⟨[(0, .rw 0), (1, .fn 173 [.pt 1 0, .pt 2 0]), (7, aI xs.length), (8, aI i)], [(0, .row .ms xs), (1, .box [aL .int cuts]), (2, .box [aI at0])], 3⟩) (fun i => i ≤ xs.length ∧ ∀ j, j < i → p (xs.getD j (dflt .ms)) = false) (fun i => xs.length - i) 0 ⟨by omega, fun j hj => by omega⟩ ?_ ?_
 · (apply WkF.au; (conv => whnf); ((repeat' first | exact trivial | refine ⟨?_, ?_⟩ | exact rfl | exact oR | exact orB rfl | exact oL) <;> (try conv => whnf) <;> (try first | apply cgB | apply cgI | apply cgS | apply cgR | apply cgD | refine cgL ?_) <;> (try (rw [wrap_i64 (by omega) (by omega)]; first | rfl | omega))))
 · intro i ⟨hi, hpre⟩
   refine vc_sound hT hM _ _ _ ?_
   (repeat' ((conv => whnf); first | (apply nx; intro s) | (apply rg; intro s k) | ((first | refine cas (fun h => ?_) (fun h => ?_) | refine may (fun h => ?_) ?_) <;> (try simp [-List.getD_eq_getElem?_getD] at h)) | (refine giv fun hg => ?_; (try simp only [byE] at hg)) | refine need (by first | kernel_rfl | omega | (simp; done) | (simp; omega)) ?_ | (refine call_g [1,2] (hc (xs.getD i (dflt .ms))) rfl rfl rfl ?_ ?_ ?_ ?_ ?_; iterate 4 (focus (repeat' first | exact trivial | refine ⟨?_, ?_⟩ | exact rfl | exact oR | exact orB rfl | exact oL); (first | done | fail))) | (refine ⟨(i + 1 : Nat), ?_, ?_, ?_⟩) | ((first | refine fin_au rfl ?_ | apply WkF.au); (conv => whnf); ((repeat' first | exact trivial | refine ⟨?_, ?_⟩ | exact rfl | exact oR | exact orB rfl | exact oL) <;> (try conv => whnf) <;> (try first | apply cgB | apply cgI | apply cgS | apply cgR | apply cgD | refine cgL ?_) <;> (try (rw [wrap_i64 (by omega) (by omega)]; first | rfl | omega)))) | apply altl))
   all_goals first
    | omega
    | (rw [wrap_i64 (by omega) (by omega)]; omega)
    | exact (ixF_some (by omega) (by simpa using h) hpre).symm
    | exact (ixF_none fun j hj => hpre j (by omega)).symm
    | exact ⟨by omega, fun j hj => (Nat.lt_succ_iff_lt_or_eq.1 hj).elim (hpre j) fun e => by subst e; simpa using h⟩
theorem del_give1 (p : El .ms → Bool) (cuts : List Int) (at0 : Int) (hc : ∀ x : El .ms, Ret Tryz.prog 173 [agE .ms x, .pt 0 0, .pt 1 0] [(0, .box [aL .int cuts]), (1, .box [aI at0])] (.c (.bool (p x))) [(0, .box [aL .int cuts]), (1, .box [aI at0])]) (xs : List (El .ms)) : Ret Tryz.prog 172 [.rw 0, .fn 173 [.pt 1 0, .pt 2 0]] [(0, .row .ms xs), (1, .box [aL .int cuts]), (2, .box [aI at0])] (.rw 3) [(0, .gone), (1, .box [aL .int cuts]), (2, .box [aI at0]), (3, .row .ms (xs.filter fun x => !p x))] := by
 refine ret_givR 0 ⟨_, Tryz.func172, rfl, rfl⟩ rfl fun hb => ?_
 simp only [byE] at hb
 rcases ix_cases p xs (dflt .ms) with hx | ⟨i0, hx, hi0, hp0, hpre⟩
 · refine ret_vc hT hM Tryz.func172 rfl rfl (m := 3) (nx := 3) rfl (Nat.le_of_ble_eq_true rfl) ?_
   (repeat' ((conv => whnf); first | (apply nx; intro s) | (apply rg; intro s k) | ((first | refine cas (fun h => ?_) (fun h => ?_) | refine may (fun h => ?_) ?_) <;> (try simp [-List.getD_eq_getElem?_getD, hx] at h)) | (refine giv fun hg => ?_; (try simp only [byE] at hg)) | refine need (by first | kernel_rfl | omega | (simp; done) | (simp; omega)) ?_ | (refine call_g [0,1,2] (ixr_give1 p cuts at0 hc xs) rfl rfl rfl ?_ ?_ ?_ ?_ ?_; iterate 4 (focus (repeat' first | exact trivial | refine ⟨?_, ?_⟩ | exact rfl | exact oR | exact orB rfl | exact oL); (first | done | fail))) | ((first | refine fin_au rfl ?_ | apply WkF.au); (conv => whnf); ((repeat' first | exact trivial | refine ⟨?_, ?_⟩ | exact rfl | exact oR | exact orB rfl | exact oL) <;> (try conv => whnf) <;> (try first | apply cgB | apply cgI | apply cgS | apply cgR | apply cgD | refine cgL ?_) <;> (try (rw [wrap_i64 (by omega) (by omega)]; first | rfl | omega)))) | apply altl))
   all_goals exact (del_none hx).symm
 · refine ret_vc hT hM Tryz.func172 rfl rfl (m := 3) (nx := 3) rfl (Nat.le_of_ble_eq_true rfl) ?_
   (repeat' ((conv => whnf); first | (apply nx; intro s) | (apply rg; intro s k) | ((first | refine cas (fun h => ?_) (fun h => ?_) | refine may (fun h => ?_) ?_) <;> (try simp [-List.getD_eq_getElem?_getD, hx] at h)) | (refine giv fun hg => ?_; (try simp only [byE] at hg)) | refine need (by first | kernel_rfl | omega | (simp; done) | (simp; omega)) ?_ | (refine call_g [0,1,2] (ixr_give1 p cuts at0 hc xs) rfl rfl rfl ?_ ?_ ?_ ?_ ?_; iterate 4 (focus (repeat' first | exact trivial | refine ⟨?_, ?_⟩ | exact rfl | exact oR | exact orB rfl | exact oL); (first | done | fail))) | (exfalso; omega) | (apply WkF.au; (conv => whnf); ((repeat' first | exact trivial | refine ⟨?_, ?_⟩ | exact rfl | exact oR | exact orB rfl | exact oL) <;> (try conv => whnf) <;> (try first | apply cgB | apply cgI | apply cgS | apply cgR | apply cgD | refine cgL ?_) <;> (try (rw [wrap_i64 (by omega) (by omega)]; first | rfl | omega)))) | apply altl))
   (repeat ((conv => whnf); first | (apply nx; intro s) | (apply rg; intro s k))); (conv => whnf)
   refine Tri.loop (fun q : List (El .ms) × Nat × Nat => ⟨[(0, .rw 0), (1, .fn 173 [.pt 1 0, .pt 2 0]), (5, aI q.2.1), (6, aI q.2.2)], [(0, .row .ms (q.1)), (1, .box [aL .int cuts]), (2, .box [aI at0])], 3⟩) (fun q => DelInv p xs q.1 q.2.1 q.2.2) (fun q => xs.length - q.2.2) (xs, i0, i0 + 1) (del_start hi0 hp0 hpre) ?_ ?_
   · (apply WkF.au; (conv => whnf); ((repeat' first | exact trivial | refine ⟨?_, ?_⟩ | exact rfl | exact oR | exact orB rfl | exact oL) <;> (try conv => whnf) <;> (try first | apply cgB | apply cgI | apply cgS | apply cgR | apply cgD | refine cgL ?_) <;> (try (rw [wrap_i64 (by omega) (by omega)]; first | rfl | omega))))
     all_goals (try dsimp only)
     all_goals first | exact hx | (rw [hx, wrap_i64 (by omega) (by omega)]; rfl)
   · intro ⟨L, i, j⟩ hinv
     have hin := hinv
     obtain ⟨h1, h2, h3, h4, h5⟩ := hin
     simp only at h1 h2 h3 h4 h5 hinv
     refine vc_sound hT hM _ _ _ ?_
     (repeat' ((conv => whnf); first | (apply nx; intro s) | (apply rg; intro s k) | ((first | refine cas (fun h => ?_) (fun h => ?_) | refine may (fun h => ?_) ?_) <;> (try simp [-List.getD_eq_getElem?_getD, h3] at h)) | (refine giv fun hg => ?_; (try simp only [byE] at hg)) | refine need (by first | kernel_rfl | omega | (simp; done) | (simp; omega)) ?_ | (refine call_g [1,2] (hc (L.getD j (dflt .ms))) rfl rfl rfl ?_ ?_ ?_ ?_ ?_; iterate 4 (focus (repeat' first | exact trivial | refine ⟨?_, ?_⟩ | exact rfl | exact oR | exact orB rfl | exact oL); (first | done | fail))) | (refine ⟨(L.set i (L.getD j (dflt .ms)), i + 1, j + 1), del_keep hinv (by omega) h, ?_, ?_⟩) | (refine ⟨(L, i, j + 1), del_skip hinv (by omega) h, ?_, ?_⟩) | (refine altr ?_) | (refine cutr ?_) | ((first | refine fin_au rfl ?_ | apply WkF.au); (conv => whnf); ((repeat' first | exact trivial | refine ⟨?_, ?_⟩ | exact rfl | exact oR | exact orB rfl | exact oL) <;> (try conv => whnf) <;> (try first | apply cgB | apply cgI | apply cgS | apply cgR | apply cgD | refine cgL ?_) <;> (try (rw [wrap_i64 (by omega) (by omega)]; first | rfl | omega)))) | apply altl))
     all_goals (try simp only [List.length_set] at hg)
     all_goals (try dsimp only)
     all_goals first
      | omega
      | (rw [wrap_i64 (by omega) (by omega)]; rfl)
      | exact congrArg (fun y => L.set i y) (spl_all .ms _ _)
      | (have hi : i ≤ L.length := by omega
         rw [← del_end hinv h]
         simp only [Int.toNat_natCast, Int.toNat_zero, Nat.sub_zero, Nat.zero_add]
         rw [List.take_append_of_le_length (by simp; omega), List.take_take, Nat.min_self])
end Go.Proofs.YthbpdhppelaihaaGreat
/- slices.Delete of one pair; the search in a map. Conditions: none. -/
namespace Go.Proofs.YthbpdhppelaihaaGreat
open Go.RowKit
attribute [local irreducible] Tri Weak
set_option maxRecDepth 4000
set_option maxHeartbeats 4000000
theorem del_list {α : Type} (xs : List α) (i : Nat) (h : i < xs.length) (D R : List α) : List.take (i + (xs.length - (i + 1))) (List.take (i + (xs.length - (i + 1))) (List.take i xs ++ (List.take (xs.length - (i + 1)) (List.drop (i + 1) xs) ++ D)) ++ R) = List.take i xs ++ List.drop (i + 1) xs := by
 have h1 : List.take (xs.length - (i + 1)) (List.drop (i + 1) xs) = List.drop (i + 1) xs := List.take_of_length_le (by simp)
 have h2 : (List.take i xs ++ List.drop (i + 1) xs).length = i + (xs.length - (i + 1)) := by simp; omega
 rw [h1, ← List.append_assoc, List.take_left' h2, List.take_left' h2]
theorem r_deletePr (xs : List Pr) (i : Nat) (hi : i < xs.length) : Ret Tryz.prog 251 [.rw 0, aI i, aI (i + 1 : Nat)] [(0, .row .pr xs)] (.rw 1) [(0, .gone), (1, .row .pr (xs.take i ++ xs.drop (i + 1)))] := by
 refine ret_givR 0 ⟨_, Tryz.func251, rfl, rfl⟩ rfl fun hb => ?_
 simp only [byE] at hb
 refine ret_vc hT hM Tryz.func251 rfl rfl (m := 1) (nx := 1) rfl (Nat.le_of_ble_eq_true rfl) ?_
 (repeat' ((conv => whnf); first | (apply nx; intro s) | (apply rg; intro s k) | ((first | refine cas (fun h => ?_) (fun h => ?_) | refine may (fun h => ?_) ?_) <;> (try simp [-List.getD_eq_getElem?_getD] at h)) | (refine giv fun hg => ?_; (try simp only [byE] at hg)) | refine need (by first | kernel_rfl | omega | (simp; done) | (simp; omega)) ?_ | (refine altr ?_) | (exfalso; omega) | (apply WkF.au; (conv => whnf); ((repeat' first | exact trivial | refine ⟨?_, ?_⟩ | exact rfl | exact oR | exact orB rfl | exact oL) <;> (try conv => whnf) <;> (try first | apply cgB | apply cgI | apply cgS | apply cgR | apply cgD | refine cgL ?_) <;> (try (rw [wrap_i64 (by omega) (by omega)]; first | rfl | omega)))) | apply altl))
 all_goals (first | (exfalso; omega) | skip)
 refine cutl ?_
 (repeat' ((conv => whnf); first | (apply nx; intro s) | (apply rg; intro s k) | ((first | refine cas (fun h => ?_) (fun h => ?_) | refine may (fun h => ?_) ?_) <;> (try simp [-List.getD_eq_getElem?_getD] at h)) | (refine giv fun hg => ?_; (try simp only [byE] at hg)) | refine need (by first | kernel_rfl | omega | (simp; done) | (simp; omega)) ?_ | (refine altr ?_) | (exfalso; omega) | (apply WkF.au; (conv => whnf); ((repeat' first | exact trivial | refine ⟨?_, ?_⟩ | exact rfl | exact oR | exact orB rfl | exact oL) <;> (try conv => whnf) <;> (try first | apply cgB | apply cgI | apply cgS | apply cgR | apply cgD | refine cgL ?_) <;> (try (rw [wrap_i64 (by omega) (by omega)]; first | rfl | omega)))) | apply altl))
 (repeat ((conv => whnf); first | (apply nx; intro s) | (apply rg; intro s k))); (conv => whnf)
 refine cutr ?_
 (repeat' ((conv => whnf); first | (apply nx; intro s) | (apply rg; intro s k) | ((first | refine cas (fun h => ?_) (fun h => ?_) | refine may (fun h => ?_) ?_) <;> (try simp [-List.getD_eq_getElem?_getD] at h)) | (refine giv fun hg => ?_; (try simp only [byE] at hg)) | refine need (by first | kernel_rfl | omega | (simp; done) | (simp; omega)) ?_ | (apply WkF.au; (conv => whnf); ((repeat' first | exact trivial | refine ⟨?_, ?_⟩ | exact rfl | exact oR | exact orB rfl | exact oL) <;> (try conv => whnf) <;> (try first | apply cgB | apply cgI | apply cgS | apply cgR | apply cgD | refine cgL ?_) <;> (try (rw [wrap_i64 (by omega) (by omega)]; first | rfl | omega)))) | apply altl))
 (refine fin_au rfl ?_; (conv => whnf); ((repeat' first | exact trivial | refine ⟨?_, ?_⟩ | exact rfl | exact oR | exact orB rfl | exact oL) <;> (try conv => whnf) <;> (try first | apply cgB | apply cgI | apply cgS | apply cgR | apply cgD | refine cgL ?_) <;> (try (rw [wrap_i64 (by omega) (by omega)]; first | rfl | omega))))
 simp only [Int.toNat_natCast, Int.toNat_zero, Nat.sub_zero, Nat.zero_add]
 exact del_list xs i hi _ _
end Go.Proofs.YthbpdhppelaihaaGreat
/- The search in a map. Conditions: none. -/
namespace Go.Proofs.YthbpdhppelaihaaGreat
open Go.RowKit
attribute [local irreducible] Tri Weak
set_option maxRecDepth 4000
set_option maxHeartbeats 4000000
def incP (xs : List Pr) : Prop := ∀ i j, i < j → j < xs.length → (xs.getD i (dflt .pr)).k < (xs.getD j (dflt .pr)).k
def posOk (xs : List Pr) (k : Int) (i : Nat) : Prop := i ≤ xs.length ∧ (∀ a, a < i → (xs.getD a (dflt .pr)).k < k) ∧ ∀ b, i ≤ b → b < xs.length → k ≤ (xs.getD b (dflt .pr)).k
theorem r_changedF (x : Pr) (key : Int) (h0 : 0 ≤ x.k ∧ x.k ≤ 999) (h1 : 0 ≤ key ∧ key ≤ 999) : Ret Tryz.prog 250 [agE .pr x, aI key] [] (aI (x.k - key)) [] := by
 refine ret_vc hT hM Tryz.func250 rfl rfl (m := 0) (nx := 0) rfl (Nat.le_of_ble_eq_true rfl) ?_
 (repeat' ((conv => whnf); first | (apply nx; intro s) | (apply rg; intro s k) | ((first | refine cas (fun h => ?_) (fun h => ?_) | refine may (fun h => ?_) ?_) <;> (try simp [-List.getD_eq_getElem?_getD] at h)) | (refine giv fun hg => ?_; (try simp only [byE] at hg)) | refine need (by first | kernel_rfl | omega | (simp; done) | (simp; omega)) ?_ | ((first | refine fin_au rfl ?_ | apply WkF.au); (conv => whnf); ((repeat' first | exact trivial | refine ⟨?_, ?_⟩ | exact rfl | exact oR | exact orB rfl | exact oL) <;> (try conv => whnf) <;> (try first | apply cgB | apply cgI | apply cgS | apply cgR | apply cgD | refine cgL ?_) <;> (try (rw [wrap_i64 (by omega) (by omega)]; first | rfl | omega)))) | apply altl))
 all_goals exact wrap_i64 (by omega) (by omega)
theorem r_search (xs : List Pr) (key : Int) (hi : incP xs) (hx : ∀ i, i < xs.length → 0 ≤ (xs.getD i (dflt .pr)).k ∧ (xs.getD i (dflt .pr)).k ≤ 999) (hk : 0 ≤ key ∧ key ≤ 999) (r : Nat) (hr : posOk xs key r) : Ret Tryz.prog 249 [aL .pr xs, aI key, .fn 250 []] [] (.tp [aI r, .c (.bool (decide (r < xs.length ∧ (xs.getD r (dflt .pr)).k = key)))]) [] := by
 refine ret_giv 0 ⟨_, Tryz.func249, rfl, rfl⟩ rfl fun hb => ?_
 simp only [byE] at hb
 refine ret_vc hT hM Tryz.func249 rfl rfl (m := 0) (nx := 0) rfl (Nat.le_of_ble_eq_true rfl) ?_
 (repeat' ((conv => whnf); first | (apply nx; intro s) | (apply rg; intro s k) | ((first | refine cas (fun h => ?_) (fun h => ?_) | refine may (fun h => ?_) ?_) <;> (try simp [-List.getD_eq_getElem?_getD] at h)) | (refine giv fun hg => ?_; (try simp only [byE] at hg)) | refine need (by first | kernel_rfl | omega | (simp; done) | (simp; omega)) ?_ | ((first | refine fin_au rfl ?_ | apply WkF.au); (conv => whnf); ((repeat' first | exact trivial | refine ⟨?_, ?_⟩ | exact rfl | exact oR | exact orB rfl | exact oL) <;> (try conv => whnf) <;> (try first | apply cgB | apply cgI | apply cgS | apply cgR | apply cgD | refine cgL ?_) <;> (try (rw [wrap_i64 (by omega) (by omega)]; first | rfl | omega)))) | apply altl))
 (repeat ((conv => whnf); first | (apply nx; intro s) | (apply rg; intro s k))); (conv => whnf)
 refine Tri.loop (fun q : Nat × Nat => ⟨[(0, aL .pr xs), (1, aI key), (2, .fn 250 []), (8, aI xs.length), (9, aI q.1), (10, aI q.2)], [], 0⟩) (fun q => q.1 ≤ r ∧ r ≤ q.2 ∧ q.2 ≤ xs.length) (fun q => q.2 - q.1) (0, xs.length) ⟨Nat.zero_le _, hr.1, Nat.le_refl _⟩ ?_ ?_
 · (apply WkF.au; (conv => whnf); ((repeat' first | exact trivial | refine ⟨?_, ?_⟩ | exact rfl | exact oR | exact orB rfl | exact oL) <;> (try conv => whnf) <;> (try first | apply cgB | apply cgI | apply cgS | apply cgR | apply cgD | refine cgL ?_) <;> (try (rw [wrap_i64 (by omega) (by omega)]; first | rfl | omega))))
 · intro ⟨i, j⟩ ⟨h1, h2, h3⟩
   simp only at h1 h2 h3
   have hu : IntKind.u64.wrap ((i : Int) + j) = i + j := by
    simp only [IntKind.wrap, IntKind.signed, IntKind.bits]; simp; omega
   have hd : ((i : Int) + j).fdiv (2 ^ min (Int.toNat 1) IntKind.u64.bits) = ((i + j) / 2 : Nat) := by
    show ((i : Int) + j).fdiv 2 = _
    rw [Int.fdiv_eq_ediv_of_nonneg _ (by decide)]; omega
   have hm : IntKind.i64.wrap ((IntKind.u64.wrap (IntKind.i64.wrap ((i : Int) + (j : Int)))).fdiv (2 ^ min (Int.toNat 1) IntKind.u64.bits)) = ((i + j) / 2 : Nat) := by
    rw [wrap_i64 (n := (i : Int) + j) (by omega) (by omega), hu, hd]
    exact wrap_i64 (by omega) (by omega)
   have hm' : IntKind.i64.wrap ((IntKind.u64.wrap (IntKind.i64.wrap ((i : Int) + (j : Int)))).fdiv (2 ^ min 1 IntKind.u64.bits)) = ((i + j) / 2 : Nat) := hm
   have hA : i < j → (xs.getD ((i + j) / 2) (dflt .pr)).k - key < 0 → (i + j) / 2 + 1 ≤ r := fun hij h => by
    rcases Nat.lt_or_ge ((i + j) / 2) r with h4 | h4
    · omega
    · have := hr.2.2 _ h4 (by omega); omega
   have hB : i < j → key ≤ (xs.getD ((i + j) / 2) (dflt .pr)).k → r ≤ (i + j) / 2 := fun hij h => by
    rcases Nat.lt_or_ge ((i + j) / 2) r with h4 | h4
    · have := hr.2.1 _ h4; omega
    · exact h4
   refine vc_sound hT hM _ _ _ ?_
   (repeat' ((conv => whnf); first | (apply nx; intro s) | (apply rg; intro s k) | ((first | refine cas (fun h => ?_) (fun h => ?_) | refine may (fun h => ?_) ?_) <;> (try simp [-List.getD_eq_getElem?_getD] at h)) | (refine giv fun hg => ?_; (try simp only [byE] at hg)) | (refine need (by (try dsimp only); rw [hm]; omega) ?_) | refine need (by first | kernel_rfl | omega | (simp; done) | (simp; omega)) ?_ | (refine call_p (r_changedF _ key (by (try dsimp only); rw [hm]; exact hx _ (by simp; omega)) hk) rfl (by (repeat' first | exact trivial | refine ⟨?_, ?_⟩ | exact rfl | exact oR | exact orB rfl | exact oL); (first | done | fail)) ?_) | (refine call_p (r_changedF (xs.getD i (dflt .pr)) key (hx i (by omega)) hk) rfl (by (repeat' first | exact trivial | refine ⟨?_, ?_⟩ | exact rfl | exact oR | exact orB rfl | exact oL); (first | done | fail)) ?_) | (refine ⟨((i + j) / 2 + 1, j), ⟨by rw [hm'] at h; exact hA (by omega) h, h2, h3⟩, ?_, ?_⟩) | (refine ⟨(i, (i + j) / 2), ⟨h1, by rw [hm'] at h; exact hB (by omega) h, by (try dsimp only); omega⟩, ?_, ?_⟩) | ((first | refine fin_au rfl ?_ | apply WkF.au); (conv => whnf); ((repeat' first | exact trivial | refine ⟨?_, ?_⟩ | exact rfl | exact oR | exact orB rfl | exact oL) <;> (try conv => whnf) <;> (try first | apply cgB | apply cgI | apply cgS | apply cgR | apply cgD | refine cgL ?_) <;> (try (rw [wrap_i64 (by omega) (by omega)]; first | rfl | omega)))) | apply altl))
   all_goals (try dsimp only)
   all_goals first
    | omega
    | exact hm
    | (rw [hm, wrap_i64 (by omega) (by omega)]; omega)
    | (obtain rfl : i = r := by omega
       first | rfl | (simp; omega) | (rw [eq_comm, decide_eq_false_iff_not]; omega) | (congr 1; simp; omega))
end Go.Proofs.YthbpdhppelaihaaGreat
/- Small functions of maps, both sides. Conditions: none. -/
namespace Go.Proofs.YthbpdhppelaihaaGreat
open Go.RowKit
attribute [local irreducible] Tri Weak
set_option maxRecDepth 4000
set_option maxHeartbeats 4000000
def lim (n : Int) : Int := if n < -1000000000 then -1000000000 else if 1000000000 < n then 1000000000 else n
theorem r_limited (n : Int) : Ret Tryz.prog 226 [aI n] [] (aI (lim n)) [] := by
 refine ret_vc hT hM Tryz.func226 rfl rfl (m := 0) (nx := 0) rfl (Nat.le_of_ble_eq_true rfl) ?_
 (repeat' ((conv => whnf); first | (apply nx; intro s) | (apply rg; intro s k) | ((first | refine cas (fun h => ?_) (fun h => ?_) | refine may (fun h => ?_) ?_) <;> (try simp [-List.getD_eq_getElem?_getD] at h)) | (refine giv fun hg => ?_; (try simp only [byE] at hg)) | refine need (by first | kernel_rfl | omega | (simp; done) | (simp; omega)) ?_ | ((first | refine fin_au rfl ?_ | apply WkF.au); (conv => whnf); ((repeat' first | exact trivial | refine ⟨?_, ?_⟩ | exact rfl | exact oR | exact orB rfl | exact oL) <;> (try conv => whnf) <;> (try first | apply cgB | apply cgI | apply cgS | apply cgR | apply cgD | refine cgL ?_) <;> (try (rw [wrap_i64 (by omega) (by omega)]; first | rfl | omega)))) | apply altl))
 all_goals (simp only [lim]; repeat' split <;> omega)
theorem r_l1Min (a b : Int) : Ret Tryz.prog 257 [aI a, aI b] [] (aI (min a b)) [] := by
 refine ret_vc hT hM Tryz.func257 rfl rfl (m := 0) (nx := 0) rfl (Nat.le_of_ble_eq_true rfl) ?_
 (repeat' ((conv => whnf); first | (apply nx; intro s) | (apply rg; intro s k) | ((first | refine cas (fun h => ?_) (fun h => ?_) | refine may (fun h => ?_) ?_) <;> (try simp [-List.getD_eq_getElem?_getD] at h)) | (refine giv fun hg => ?_; (try simp only [byE] at hg)) | refine need (by first | kernel_rfl | omega | (simp; done) | (simp; omega)) ?_ | ((first | refine fin_au rfl ?_ | apply WkF.au); (conv => whnf); ((repeat' first | exact trivial | refine ⟨?_, ?_⟩ | exact rfl | exact oR | exact orB rfl | exact oL) <;> (try conv => whnf) <;> (try first | apply cgB | apply cgI | apply cgS | apply cgR | apply cgD | refine cgL ?_) <;> (try (rw [wrap_i64 (by omega) (by omega)]; first | rfl | omega)))) | apply altl))
 all_goals omega
theorem r_l1Max (a b : Int) : Ret Tryz.prog 139 [aI a, aI b] [] (aI (max a b)) [] := by
 refine ret_vc hT hM Tryz.func139 rfl rfl (m := 0) (nx := 0) rfl (Nat.le_of_ble_eq_true rfl) ?_
 (repeat' ((conv => whnf); first | (apply nx; intro s) | (apply rg; intro s k) | ((first | refine cas (fun h => ?_) (fun h => ?_) | refine may (fun h => ?_) ?_) <;> (try simp [-List.getD_eq_getElem?_getD] at h)) | (refine giv fun hg => ?_; (try simp only [byE] at hg)) | refine need (by first | kernel_rfl | omega | (simp; done) | (simp; omega)) ?_ | ((first | refine fin_au rfl ?_ | apply WkF.au); (conv => whnf); ((repeat' first | exact trivial | refine ⟨?_, ?_⟩ | exact rfl | exact oR | exact orB rfl | exact oL) <;> (try conv => whnf) <;> (try first | apply cgB | apply cgI | apply cgS | apply cgR | apply cgD | refine cgL ?_) <;> (try (rw [wrap_i64 (by omega) (by omega)]; first | rfl | omega)))) | apply altl))
 all_goals omega
theorem r_clamp (n : Int) : Ret Tryz.prog 215 [aI n] [] (aI (lim n)) [] := by
 refine ret_vc hT hM Tryz.func215 rfl rfl (m := 0) (nx := 0) rfl (Nat.le_of_ble_eq_true rfl) ?_
 (repeat' ((conv => whnf); first | (apply nx; intro s) | (apply rg; intro s k) | ((first | refine cas (fun h => ?_) (fun h => ?_) | refine may (fun h => ?_) ?_) <;> (try simp [-List.getD_eq_getElem?_getD] at h)) | (refine giv fun hg => ?_; (try simp only [byE] at hg)) | refine need (by first | kernel_rfl | omega | (simp; done) | (simp; omega)) ?_ | (refine call_p (r_l1Min _ _) rfl (by (repeat' first | exact trivial | refine ⟨?_, ?_⟩ | exact rfl | exact oR | exact orB rfl | exact oL); (first | done | fail)) ?_) | (refine call_p (r_l1Max _ _) rfl (by (repeat' first | exact trivial | refine ⟨?_, ?_⟩ | exact rfl | exact oR | exact orB rfl | exact oL); (first | done | fail)) ?_) | ((first | refine fin_au rfl ?_ | apply WkF.au); (conv => whnf); ((repeat' first | exact trivial | refine ⟨?_, ?_⟩ | exact rfl | exact oR | exact orB rfl | exact oL) <;> (try conv => whnf) <;> (try first | apply cgB | apply cgI | apply cgS | apply cgR | apply cgD | refine cgL ?_) <;> (try (rw [wrap_i64 (by omega) (by omega)]; first | rfl | omega)))) | apply altl))
 all_goals (simp only [lim]; repeat' split <;> omega)
theorem r_sets (m : Ms) : Ret Tryz.prog 223 [agE .ms m] [] (.c (.bool (decide (m.op = 1) || decide (m.op = 2)))) [] := by
 refine ret_vc hT hM Tryz.func223 rfl rfl (m := 0) (nx := 0) rfl (Nat.le_of_ble_eq_true rfl) ?_
 (repeat' ((conv => whnf); first | (apply nx; intro s) | (apply rg; intro s k) | ((first | refine cas (fun h => ?_) (fun h => ?_) | refine may (fun h => ?_) ?_) <;> (try simp [-List.getD_eq_getElem?_getD] at h)) | (refine giv fun hg => ?_; (try simp only [byE] at hg)) | refine need (by first | kernel_rfl | omega | (simp; done) | (simp; omega)) ?_ | ((first | refine fin_au rfl ?_ | apply WkF.au); (conv => whnf); ((repeat' first | exact trivial | refine ⟨?_, ?_⟩ | exact rfl | exact oR | exact orB rfl | exact oL) <;> (try conv => whnf) <;> (try first | apply cgB | apply cgI | apply cgS | apply cgR | apply cgD | refine cgL ?_) <;> (try (rw [wrap_i64 (by omega) (by omega)]; first | rfl | omega)))) | apply altl))
 all_goals simp_all
end Go.Proofs.YthbpdhppelaihaaGreat