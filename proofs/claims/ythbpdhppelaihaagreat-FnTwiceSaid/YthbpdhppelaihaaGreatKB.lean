/- Bounds of what is handed over; copies of trees. Conditions: none. -/
import Derived.Test.YthbpdhppelaihaaGreatZT
import Derived.Test.YthbpdhppelaihaaGreatTE
set_option linter.unusedVariables false
set_option linter.unusedSimpArgs false
namespace Go.Proofs.YthbpdhppelaihaaGreat
open Go.RowKit
abbrev agL (l : List C) : A := .ag (l.map .c)
mutual
inductive BndC : C → Prop
 | int (k : IntKind) (n : Int) : BndC (.int k n)
 | bool (b : Bool) : BndC (.bool b)
 | str (s : List UInt8) : BndC (.str s)
 | sl (e : Ty) (xs : List (El e)) (hb : xs.length * byE e ≤ 140737488355328) (hr : BndL (xs.flatMap (cells e))) : BndC (.sl e xs)
inductive BndL : List C → Prop
 | nil : BndL []
 | cons {c : C} {cs : List C} (h : BndC c) (t : BndL cs) : BndL (c :: cs)
end
mutual
theorem RepC.bnd {F : Nat → Prop} {w : World} : ∀ {v : Value} {c : C}, RepC F w v c → BndC c
 | _, _, .int k n => .int k n
 | _, _, .bool b => .bool b
 | _, _, .str s hs => .str _
 | _, _, .sl e xs A c us hc hb hA hr => .sl e xs hb (RepL.bnd hr)
theorem RepL.bnd {F : Nat → Prop} {w : World} : ∀ {us : List Value} {cs : List C}, RepL F w us cs → BndL cs
 | _, _, .nil => .nil
 | _, _, .cons h t => .cons (RepC.bnd h) (RepL.bnd t)
end
theorem BndL.un {c : C} {cs : List C} (h : BndL (c :: cs)) : BndC c ∧ BndL cs := by cases h with | cons h t => exact ⟨h, t⟩
theorem BndC.len {e : Ty} {xs : List (El e)} (h : BndC (.sl e xs)) : xs.length ≤ 140737488355328 := by
 cases h with | sl _ _ hb _ =>
 have := byE_pos e
 calc xs.length = xs.length * 1 := (Nat.mul_one _).symm
  _ ≤ xs.length * byE e := Nat.mul_le_mul_left _ this
  _ ≤ _ := hb
theorem bnd_as {F : Nat → Prop} {V : Nat → Value} {w : World} : ∀ {cs : List C} {us : List Value}, RepAs F V w us (cs.map .c) → BndL cs
 | [], _, _ => .nil
 | c :: cs, _, h => by
   cases h with
   | cons h t =>
     cases h with
     | c h => exact .cons h.bnd (bnd_as t)
theorem ret_bnd {P : Program} {f : Nat} {az : List A} {hin : Hp} {r : A} {hout : Hp} (j : Nat) {cs : List C} (he : Ent P f) (ha : az[j]? = some (agL cs)) (h : BndL cs → Ret P f az hin r hout) : Ret P f az hin r hout := by
 refine ⟨he, fun F V B w args h1 h2 h3 h4 h5 => ?_⟩
 obtain ⟨u, hu, hr⟩ := h4.get ha
 have hb : BndL cs := by
  cases hr with | ag hr _ => exact bnd_as hr
 exact (h hb).2 F V B w args h1 h2 h3 h4 h5
section
attribute [local irreducible] Tri Weak
set_option maxRecDepth 4000
set_option maxHeartbeats 4000000
theorem take_snoc {α : Type} (xs : List α) (d : α) {i : Nat} (h : i < xs.length) : xs.take i ++ [xs.getD i d] = xs.take (i + 1) := by
 rw [List.take_add_one, List.getD_eq_getElem?_getD, List.getElem?_eq_getElem h]; rfl
theorem snoc_chunk (e : Ty) (xs : List (El e)) (d : El e) {i : Nat} (h : i < xs.length) : xs.take i ++ chunk e 1 (cells e (xs.getD i d)) = xs.take (i + 1) := by
 rw [← take_snoc xs d h]
 show _ ++ [mkE e ((cells e (xs.getD i d)).take (szE e))] = _
 rw [List.take_of_length_le (l := cells e (xs.getD i d)) (by rw [cells_len]; exact Nat.le_refl _), mkE_cells]
theorem copyTree' : ∀ (n : Nat) (t : Tr), SizeOf.sizeOf t < n → Ret Tryz.prog 83 [agE .tr t] [] (ownA .tr t) (ownH .tr t) := by
 intro n
 induction n with
 | zero => intro t h; omega
 | succ n ih =>
   intro t hn
   refine ret_vc hT hM Tryz.func83 rfl rfl (m := 0) (nx := 0) rfl (Nat.le_of_ble_eq_true rfl) ?_
   (repeat' ((conv => whnf); first | (apply nx; intro s) | (apply rg; intro s k) | ((first | refine cas (fun h => ?_) (fun h => ?_) | refine may (fun h => ?_) ?_) <;> (try simp [-List.getD_eq_getElem?_getD] at h)) | (refine giv fun hg => ?_; (try simp only [byE] at hg)) | refine need (by first | kernel_rfl | omega | (simp; done) | (simp; omega)) ?_ | ((first | refine fin_au rfl ?_ | apply WkF.au); (conv => whnf); ((repeat' first | exact trivial | refine ⟨?_, ?_⟩ | exact rfl | exact oR | exact orB rfl | exact oL) <;> (try conv => whnf) <;> (try first | apply cgB | apply cgI | apply cgS | apply cgR | apply cgD | refine cgL ?_) <;> (try (rw [wrap_i64 (by omega) (by omega)]; first | rfl | omega)))) | apply altl))
   (repeat ((conv => whnf); first | (apply nx; intro s) | (apply rg; intro s k))); (conv => whnf)
   refine Tri.loop (fun i : Nat => ⟨[(1, .pt 0 0), (2, .pt 1 0), (3, .rw 2), (8, aL .tr t.kids), (9, aI t.kids.length), (10, aI i)], [(0, .box ((cells .tr t).map .c)), (1, .box [.kb false, .nl, .nl, .nl, .nl]), (2, .dp .tr (t.kids.take i))], 3⟩) (fun i => i ≤ t.kids.length) (fun i => t.kids.length - i) 0 (Nat.zero_le _) ?_ ?_
   · (apply WkF.au; (conv => whnf); ((repeat' first | exact trivial | refine ⟨?_, ?_⟩ | exact rfl | exact oR | exact orB rfl | exact oL) <;> (try conv => whnf) <;> (try first | apply cgB | apply cgI | apply cgS | apply cgR | apply cgD | refine cgL ?_) <;> (try (rw [wrap_i64 (by omega) (by omega)]; first | rfl | omega))))
   · intro i hi
     have hkd : i < t.kids.length → SizeOf.sizeOf (t.kids.getD i (dflt .tr)) < n := fun hl => by
      have h2 := kid_lt (List.mem_of_getElem? (getD_some hl (dflt .tr)))
      omega
     refine vc_sound hT hM _ _ _ ?_
     (repeat' ((conv => whnf); first | (apply nx; intro s) | (apply rg; intro s k) | ((first | refine cas (fun h => ?_) (fun h => ?_) | refine may (fun h => ?_) ?_) <;> (try simp [-List.getD_eq_getElem?_getD] at h)) | (refine giv fun hg => ?_; (try simp only [byE] at hg)) | refine need (by first | kernel_rfl | omega | (simp; done) | (simp; omega)) ?_ | (refine call_n (ih (t.kids.getD i (dflt .tr)) (hkd (by omega))) rfl ?_ ?_ ?_; iterate 2 (focus (repeat' first | exact trivial | refine ⟨?_, ?_⟩ | exact rfl | exact oR | exact orB rfl | exact oL); (first | done | fail))) | (refine call_n (r_clonePr t.pairs) rfl ?_ ?_ ?_; iterate 2 (focus (repeat' first | exact trivial | refine ⟨?_, ?_⟩ | exact rfl | exact oR | exact orB rfl | exact oL); (first | done | fail))) | (refine call_n (r_cloneIn t.cuts) rfl ?_ ?_ ?_; iterate 2 (focus (repeat' first | exact trivial | refine ⟨?_, ?_⟩ | exact rfl | exact oR | exact orB rfl | exact oL); (first | done | fail))) | (refine call_n (r_cloneMs t.buf) rfl ?_ ?_ ?_; iterate 2 (focus (repeat' first | exact trivial | refine ⟨?_, ?_⟩ | exact rfl | exact oR | exact orB rfl | exact oL); (first | done | fail))) | (refine need (by simp [byE, chunk] at *; omega) ?_) | (refine ⟨(i + 1 : Nat), ?_, ?_, ?_⟩) | ((first | refine fin_au rfl ?_ | apply WkF.au); (conv => whnf); ((repeat' first | exact trivial | refine ⟨?_, ?_⟩ | exact rfl | exact oR | exact orB rfl | exact oL) <;> (try conv => whnf) <;> (try first | apply cgB | apply cgI | apply cgS | apply cgR | apply cgD | refine cgL ?_) <;> (try (rw [wrap_i64 (by omega) (by omega)]; first | rfl | omega)))) | apply altl))
     all_goals first
      | omega
      | exact snoc_chunk .tr t.kids (dflt .tr) (by omega)
      | (rw [List.take_of_length_le (by omega)])
theorem r_copyTree (t : Tr) : Ret Tryz.prog 83 [agE .tr t] [] (ownA .tr t) (ownH .tr t) := copyTree' _ t (Nat.lt_succ_self _)
theorem l2Copy' : ∀ (n : Nat) (t : Tr), SizeOf.sizeOf t < n → Ret Tryz.prog 75 [agE .tr t] [] (ownA .tr t) (ownH .tr t) := by
 intro n
 induction n with
 | zero => intro t h; omega
 | succ n ih =>
   intro t hn
   refine ret_bnd 0 ⟨_, Tryz.func75, rfl, rfl⟩ rfl fun hb => ?_
   have hb1 := hb.un.2.un
   have hb2 := hb1.2.un
   have hb3 := hb2.2.un.2.un
   have e1 : t.pairs.length * 16 ≤ 140737488355328 := by cases hb1.1 with | sl _ _ h _ => exact h
   have e2 : t.cuts.length * 8 ≤ 140737488355328 := by cases hb2.1 with | sl _ _ h _ => exact h
   have e3 : t.buf.length * 24 ≤ 140737488355328 := by cases hb3.1 with | sl _ _ h _ => exact h
   refine ret_vc hT hM Tryz.func75 rfl rfl (m := 0) (nx := 0) rfl (Nat.le_of_ble_eq_true rfl) ?_
   (repeat' ((conv => whnf); first | (apply nx; intro s) | (apply rg; intro s k) | ((first | refine cas (fun h => ?_) (fun h => ?_) | refine may (fun h => ?_) ?_) <;> (try simp [-List.getD_eq_getElem?_getD] at h)) | (refine giv fun hg => ?_; (try simp only [byE] at hg)) | refine need (by first | kernel_rfl | omega | (simp; done) | (simp; omega)) ?_ | (refine need (by simp [chunk]; omega) ?_) | ((first | refine fin_au rfl ?_ | apply WkF.au); (conv => whnf); ((repeat' first | exact trivial | refine ⟨?_, ?_⟩ | exact rfl | exact oR | exact orB rfl | exact oL) <;> (try conv => whnf) <;> (try first | apply cgB | apply cgI | apply cgS | apply cgR | apply cgD | refine cgL ?_) <;> (try (rw [wrap_i64 (by omega) (by omega)]; first | rfl | omega)))) | apply altl))
   (repeat ((conv => whnf); first | (apply nx; intro s) | (apply rg; intro s k))); (conv => whnf)
   refine Tri.loop (fun i : Nat => ⟨[(1, .pt 0 0), (2, .pt 1 0), (3, .pt 2 0), (4, aI i)], [(0, .box ((cells .tr t).map .c)), (1, .box [.kb false, .nl, .nl, .nl, .nl]), (2, .box [.c (.bool t.leaf), .rw 3, .rw 4, .rw 5, .rw 6]), (3, .row .pr t.pairs), (4, .row .int t.cuts), (5, .dp .tr (t.kids.take i)), (6, .row .ms t.buf)], 7⟩) (fun i => i ≤ t.kids.length) (fun i => t.kids.length - i) 0 (Nat.zero_le _) ?_ ?_
   · (apply WkF.au; (conv => whnf); ((repeat' first | exact trivial | refine ⟨?_, ?_⟩ | exact rfl | exact oR | exact orB rfl | exact oL) <;> (try conv => whnf) <;> (try first | apply cgB | apply cgI | apply cgS | apply cgR | apply cgD | refine cgL ?_) <;> (try (rw [wrap_i64 (by omega) (by omega)]; first | rfl | omega))))
   · intro i hi
     have hkd : i < t.kids.length → SizeOf.sizeOf (t.kids.getD i (dflt .tr)) < n := fun hl => by
      have h2 := kid_lt (List.mem_of_getElem? (getD_some hl (dflt .tr)))
      omega
     refine vc_sound hT hM _ _ _ ?_
     (repeat' ((conv => whnf); first | (apply nx; intro s) | (apply rg; intro s k) | ((first | refine cas (fun h => ?_) (fun h => ?_) | refine may (fun h => ?_) ?_) <;> (try simp [-List.getD_eq_getElem?_getD] at h)) | (refine giv fun hg => ?_; (try simp only [byE] at hg)) | refine need (by first | kernel_rfl | omega | (simp; done) | (simp; omega)) ?_ | (refine call_n (ih (t.kids.getD i (dflt .tr)) (hkd (by omega))) rfl ?_ ?_ ?_; iterate 2 (focus (repeat' first | exact trivial | refine ⟨?_, ?_⟩ | exact rfl | exact oR | exact orB rfl | exact oL); (first | done | fail))) | (refine need (by simp [byE, chunk] at *; omega) ?_) | (refine ⟨(i + 1 : Nat), ?_, ?_, ?_⟩) | ((first | refine fin_au rfl ?_ | apply WkF.au); (conv => whnf); ((repeat' first | exact trivial | refine ⟨?_, ?_⟩ | exact rfl | exact oR | exact orB rfl | exact oL) <;> (try conv => whnf) <;> (try first | apply cgB | apply cgI | apply cgS | apply cgR | apply cgD | refine cgL ?_) <;> (try (rw [wrap_i64 (by omega) (by omega)]; first | rfl | omega)))) | apply altl))
     all_goals first
      | omega
      | exact snoc_chunk .tr t.kids (dflt .tr) (by omega)
      | (rw [wrap_i64 (by omega) (by simp [byE] at *; omega)]; omega)
      | (rw [List.take_of_length_le (by omega)])
theorem r_l2Copy (t : Tr) : Ret Tryz.prog 75 [agE .tr t] [] (ownA .tr t) (ownH .tr t) := l2Copy' _ t (Nat.lt_succ_self _)
end
end Go.Proofs.YthbpdhppelaihaaGreat