/- Joined: QG II IJ. -/
import Derived.Test.YthbpdhppelaihaaGreatIC
import Derived.Test.YthbpdhppelaihaaGreatZQ
import Derived.Test.YthbpdhppelaihaaGreatTE
import Derived.Test.YthbpdhppelaihaaGreatZI
import Derived.Test.YthbpdhppelaihaaGreatKB
/- Packing's lengths, roots, and what a right depth says: plain laws. Conditions: none. -/
set_option linter.unusedVariables false
set_option linter.unusedSimpArgs false
namespace Go.Proofs.YthbpdhppelaihaaGreat
open Go.RowKit
theorem packG_len : ∀ (ks : List Tr) (cs : List Int), ks.length = cs.length + 1 → (packG ks cs).1.length = (packG ks cs).2.length + 1 ∧ (2 ≤ ks.length → 2 * (packG ks cs).1.length ≤ ks.length)
 | a :: b :: c :: d :: ks, x :: y :: cs, h => by
   have := packG_len (c :: d :: ks) cs (by simp at h ⊢; omega)
   simp only [packG, List.length_cons] at this ⊢
   exact ⟨by omega, fun _ => by have := this.2 (by omega); omega⟩
 | [], cs, h => by simp at h
 | [a], cs, h => ⟨rfl, fun h => by simp at h⟩
 | [a, b], cs, h => ⟨rfl, fun h => by simp [packG]⟩
 | [a, b, c], cs, h => ⟨rfl, fun h => by simp [packG]⟩
 | a :: b :: c :: e :: ks, [], h => by simp at h
 | a :: b :: c :: e :: ks, [x], h => by simp at h
theorem pack_shrinks {r : Rw} (h : r.1.length = r.2.length + 1) (h4 : 4 < r.1.length) : (packF r).1.length = (packF r).2.length + 1 ∧ (packF r).1.length < r.1.length := by
 obtain ⟨h1, h2⟩ := packG_len r.1 r.2 h
 exact ⟨h1, by have := h2 (by omega); show (packG r.1 r.2).1.length < _; omega⟩
theorem root_fuel : ∀ (f f' : Nat) {r : Rw}, r.1.length = r.2.length + 1 → r.1.length ≤ f → r.1.length ≤ f' → rootG f r = rootG f' r
 | 0, 0, r, _, _, _ => rfl
 | 0, f' + 1, r, h, h1, _ => by omega
 | f + 1, 0, r, h, _, h1 => by omega
 | f + 1, f' + 1, r, h, h1, h2 => by
   simp only [rootG]
   split
   · obtain ⟨h3, h4⟩ := pack_shrinks h (by assumption)
     exact root_fuel f f' h3 (by omega) (by omega)
   · rfl
theorem rootG_pack {r : Rw} (h : r.1.length = r.2.length + 1) (h4 : 4 < r.1.length) : rootG r.1.length r = rootG (packF r).1.length (packF r) := by
 obtain ⟨h1, h2⟩ := pack_shrinks h h4
 obtain ⟨n, hn⟩ : ∃ n, r.1.length = n + 1 := ⟨r.1.length - 1, by omega⟩
 rw [hn]
 conv => lhs; simp only [rootG]
 rw [if_pos h4]
 exact root_fuel _ _ h1 (by omega) (by omega)
theorem rootF_pack {r : Rw} (h : r.1.length = r.2.length + 1) (h4 : 4 < r.1.length) : rootF (packF r) = rootF r := by
 unfold rootF; rw [rootG_pack h h4]
theorem rootF_stop {r : Rw} (h4 : ¬ 4 < r.1.length) : rootF r = if r.1.length = 1 then r.1.getD 0 (dflt .tr) else nd r.1 r.2 := by
 have : rootG r.1.length r = r := by
  cases hn : r.1.length with
  | zero => rfl
  | succ n => simp only [rootG]; rw [if_neg h4]
 unfold rootF; rw [this]
/-! A right depth -/
theorem kids_row {f : Tr → Int → Int → Int} {cuts : List Int} {hi : Int} : ∀ (ks : List Tr) (i : Nat) (d frm : Int), ks ≠ [] → i + ks.length = cuts.length + 1 → kidsF f cuts hi ks i d frm ≠ 0 →
 ∃ D, D ≠ 0 ∧ kidsF f cuts hi ks i d frm = D + 1 ∧ (0 < i → D = d) ∧ RowI (fun a b k => f k a b = D) frm hi ks (cuts.drop i)
 | [], _, _, _, h, _, _ => absurd rfl h
 | [k], i, d, frm, _, hl, h => by
   simp only [List.length_cons, List.length_nil] at hl
   simp only [kidsF] at h ⊢
   rw [if_neg (by omega)] at h ⊢
   split at h
   · exact absurd rfl h
   · rename_i h1
     rw [if_neg h1]
     refine ⟨f k frm hi, fun e => h1 (.inl e), rfl, fun hi' => ?_, ?_⟩
     · by_cases e : f k frm hi = d
       · exact e
       · exact absurd (.inr ⟨hi', e⟩) h1
     · rw [List.drop_eq_nil_of_le (by omega)]; rfl
 | k :: k' :: ks, i, d, frm, _, hl, h => by
   simp only [List.length_cons] at hl
   unfold kidsF at h ⊢
   rw [if_pos (by omega)] at h ⊢
   split at h
   · exact absurd rfl h
   · rename_i h0
     rw [if_neg h0]
     split at h
     · exact absurd rfl h
     · rename_i h1
       rw [if_neg h1]
       obtain ⟨D, hD0, hD1, hD2, hD3⟩ := kids_row (k' :: ks) (i + 1) _ _ (by simp) (by simp; omega) h
       have hD := hD2 (by omega)
       have hb : inB (cuts.getD i (dflt .int)) (frm + 1) (hi - 1) = true := by simpa using h0
       rw [inB_iff] at hb
       refine ⟨D, hD0, hD1, fun hi' => ?_, ?_⟩
       · by_cases e : f k frm (cuts.getD i (dflt .int)) = d
         · rw [hD]; exact e
         · exact absurd (.inr ⟨hi', e⟩) h1
       · rw [drop_getD (show i < cuts.length by omega) (dflt .int)]
         simp only [RowI]
         exact ⟨by omega, by omega, hD.symm, hD3⟩
def phiB : Nat → Nat
 | 0 => 0
 | n + 1 => 4 * phiB n + 23
theorem row_bound {P : Int → Int → Tr → Prop} {B : Nat} (hP : ∀ a b k, P a b k → phi k ≤ B) : ∀ {ks : List Tr} {cs : List Int} {lo hi : Int}, RowI P lo hi ks cs → phiL ks ≤ ks.length * B
 | k :: ks, c :: cs, lo, hi, h => by
   simp only [RowI] at h
   have h1 := hP _ _ _ h.2.2.1
   have h2 := row_bound hP h.2.2.2
   simp only [phiL, List.length_cons, Nat.add_mul, Nat.one_mul]; omega
 | [k], [], lo, hi, h => by
   simp only [RowI] at h
   have h1 := hP _ _ _ h
   simp only [phiL, List.length_cons, List.length_nil]; omega
 | k :: k' :: ks, [], lo, hi, h => by simp only [RowI] at h
 | [], c :: cs, lo, hi, h => by simp only [RowI] at h
 | [], [], lo, hi, h => by simp only [RowI] at h
theorem dep_inv : ∀ (n : Nat) (t : Tr) (lo hi : Int), depF n t lo hi ≠ 0 → ∃ d : Nat, depF n t lo hi = (d : Int) + 1 ∧ d < n ∧ Inv d lo hi t ∧ phi t ≤ phiB n
 | 0, t, lo, hi, h => absurd rfl h
 | n + 1, t, lo, hi, h => by
   by_cases hl : t.leaf = true
   · simp only [depF] at h ⊢
     rw [if_pos hl] at h ⊢
     split at h
     · rename_i hb
       rw [if_pos hb]
       unfold leafB at hb
       simp only [Bool.and_eq_true, decide_eq_true_eq, List.length_eq_zero_iff] at hb
       obtain ⟨⟨⟨⟨⟨h1, h2⟩, h3⟩, h4⟩, h5⟩, h6⟩ := hb
       have hr : ∀ x ∈ t.pairs, lo ≤ x.k ∧ x.k < hi := fun x hx => by
        have h7 : (t.pairs.any fun x => !inB x.k lo (hi - 1)) = false := by simpa using h6
        have h8 := List.any_eq_false.1 h7 x hx
        have h9 : inB x.k lo (hi - 1) = true := by simpa using h8
        rw [inB_iff] at h9; omega
       refine ⟨0, rfl, by omega, ⟨hl, (mapOk_iff _).1 h1, hr, h2, h3, h4, h5⟩, ?_⟩
       rw [phi_leaf hl, h5]
       simp only [phiB, List.length_nil]; omega
     · exact absurd rfl h
   · have hl' : t.leaf = false := by simpa using hl
     by_cases hs : shapeB t = true ∧ t.buf.all (bufM lo hi) = true
     · have e : depF (n + 1) t lo hi = kidsF (depF n) t.cuts hi t.kids 0 0 lo := by
        simp only [depF]; rw [if_neg hl, hs.1, hs.2]; rfl
       rw [e] at h ⊢
       obtain ⟨h1, h2, h3, h4⟩ := shapeB_iff.1 hs.1
       obtain ⟨D, hD0, hD1, _, hD3⟩ := kids_row t.kids 0 0 lo (by intro e; rw [e] at h1; simp at h1) (by omega) h
       rw [List.drop_zero] at hD3
       have hk : ∀ a b k, depF n k a b = D → Inv (D.toNat - 1) a b k ∧ phi k ≤ phiB n := fun a b k hk => by
        obtain ⟨d, hd1, hd2, hd3, hd4⟩ := dep_inv n k a b (by rw [hk]; exact hD0)
        rw [show D.toNat - 1 = d by omega]
        exact ⟨hd3, hd4⟩
       have hDn : 1 ≤ D ∧ D ≤ n := by
        obtain ⟨k, ks, hks⟩ : ∃ k ks, t.kids = k :: ks := by
         cases hk' : t.kids with
         | nil => rw [hk'] at h1; simp at h1
         | cons k ks => exact ⟨k, ks, rfl⟩
        have : ∃ a b, depF n k a b = D := by
         rw [hks] at hD3
         cases hc : t.cuts with
         | nil => rw [hc, hks] at h2; rw [hks] at h1; simp at h2; rw [h2] at h1; simp at h1
         | cons c cs => rw [hc] at hD3; simp only [RowI] at hD3; exact ⟨_, _, hD3.2.2.1⟩
        obtain ⟨a, b, hab⟩ := this
        have := depF_le n k a b
        omega
       refine ⟨D.toNat, by rw [hD1]; omega, by omega, ?_, ?_⟩
       · rw [show D.toNat = (D.toNat - 1) + 1 by omega]
         refine ⟨hl', List.length_eq_zero_iff.1 h4, row_mono (fun a b k hk' => (hk a b k hk').1) hD3, fun m hm => ?_⟩
         have hm' := List.all_eq_true.1 hs.2 m hm
         unfold bufM at hm'
         simp only [Bool.and_eq_true, decide_eq_true_eq, inB_iff] at hm'
         exact ⟨okM_yes hm'.1.1 hm'.1.2, by omega⟩
       · have hb := row_bound (fun a b k hk' => (hk a b k hk').2) hD3
         rw [phi_node hl']
         have : t.kids.length * phiB n ≤ 4 * phiB n := Nat.mul_le_mul_right _ h1.2
         simp only [phiB]; omega
     · exact absurd (depF_bad hl' hs) h
end Go.Proofs.YthbpdhppelaihaaGreat
/- Roots and drained trees, on either side. Conditions: none. -/
namespace Go.Proofs.YthbpdhppelaihaaGreat
open Go.RowKit
attribute [local irreducible] Tri Weak
set_option maxRecDepth 4000
set_option maxHeartbeats 4000000
def RInv (N : Nat) (fin : Tr) (q : Rw) : Prop := q.1.length = q.2.length + 1 ∧ q.1.length ≤ N ∧ rootF q = fin
theorem rinv_next {N : Nat} {fin : Tr} {q : Rw} (h : RInv N fin q) (h4 : 4 < q.1.length) : RInv N fin (packF q) ∧ (packF q).1.length < q.1.length := by
 obtain ⟨h1, h2⟩ := pack_shrinks h.1 h4
 exact ⟨⟨h1, by have := h.2.1; omega, by rw [rootF_pack h.1 h4]; exact h.2.2⟩, h2⟩
theorem r_rooted (r : Rw) (hl : r.1.length = r.2.length + 1) (hb : r.1.length ≤ 1099511627776) : Ret Tryz.prog 84 [rwA r] [] (agE .tr (rootF r)) [] := by
 have hin : RInv 1099511627776 (rootF r) r := ⟨hl, hb, rfl⟩
 generalize rootF r = fin at *
 refine ret_vc hT hM Tryz.func84 rfl rfl (m := 0) (nx := 0) rfl (Nat.le_of_ble_eq_true rfl) ?_
 (repeat' ((conv => whnf); first | (apply nx; intro s) | (apply rg; intro s k) | ((first | refine cas (fun h => ?_) (fun h => ?_) | refine may (fun h => ?_) ?_) <;> (try simp [-List.getD_eq_getElem?_getD] at h)) | (refine giv fun hg => ?_; (try simp only [byE] at hg)) | refine need (by first | kernel_rfl | omega | (simp; done) | (simp; omega)) ?_ | ((first | refine fin_au rfl ?_ | apply WkF.au); (conv => whnf); ((repeat' first | exact trivial | refine ⟨?_, ?_⟩ | exact rfl | exact oR | exact orB rfl | exact oL) <;> (try conv => whnf) <;> (try first | apply cgB | apply cgI | apply cgS | apply cgR | apply cgD | refine cgL ?_) <;> (try (rw [wrap_i64 (by omega) (by omega)]; first | rfl | omega)))) | apply altl))
 (repeat ((conv => whnf); first | (apply nx; intro s) | (apply rg; intro s k))); (conv => whnf)
 refine Tri.loop (fun q : Rw => ⟨[(1, .pt 0 0), (2, .pt 1 0)], [(0, .box ([C.sl .tr q.1, .sl .int q.2].map .c)), (1, .box ([C.bool false, .sl .pr [], .sl .int [], .sl .tr [], .sl .ms []].map .c))], 2⟩) (fun q => RInv 1099511627776 fin q) (fun q => q.1.length) r hin ?_ ?_
 · (apply WkF.au; (conv => whnf); ((repeat' first | exact trivial | refine ⟨?_, ?_⟩ | exact rfl | exact oR | exact orB rfl | exact oL) <;> (try conv => whnf) <;> (try first | apply cgB | apply cgI | apply cgS | apply cgR | apply cgD | refine cgL ?_) <;> (try (rw [wrap_i64 (by omega) (by omega)]; first | rfl | omega))))
 · intro q hI
   have hnx := fun h => rinv_next hI h
   obtain ⟨h1, h2, h3⟩ := id hI
   refine vc_sound hT hM _ _ _ ?_
   by_cases h4 : 4 < q.1.length
   · obtain ⟨h5, h6⟩ := hnx h4
     have hgr := r_grouped q h1 (by omega) (by omega)
     (repeat' ((conv => whnf); first | (apply nx; intro s) | (apply rg; intro s k) | ((first | refine cas (fun h => ?_) (fun h => ?_) | refine may (fun h => ?_) ?_) <;> (try simp [-List.getD_eq_getElem?_getD] at h)) | (refine giv fun hg => ?_; (try simp only [byE] at hg)) | refine need (by first | kernel_rfl | omega | (simp; done) | (simp; omega)) ?_ | (exfalso; omega) | (refine call_f (hgr) ?_ ?_ ?_ ?_; iterate 3 (focus (repeat' first | exact trivial | refine ⟨?_, ?_⟩ | exact rfl | exact oR | exact orB rfl | exact oL); (first | done | fail))) | (refine ⟨packF q, h5, h6, ?_⟩) | ((first | refine fin_au rfl ?_ | apply WkF.au); (conv => whnf); ((repeat' first | exact trivial | refine ⟨?_, ?_⟩ | exact rfl | exact oR | exact orB rfl | exact oL) <;> (try conv => whnf) <;> (try first | apply cgB | apply cgI | apply cgS | apply cgR | apply cgD | refine cgL ?_) <;> (try (rw [wrap_i64 (by omega) (by omega)]; first | rfl | omega)))) | apply altl))
   · rw [rootF_stop h4] at h3
     subst h3
     (repeat' ((conv => whnf); first | (apply nx; intro s) | (apply rg; intro s k) | ((first | refine cas (fun h => ?_) (fun h => ?_) | refine may (fun h => ?_) ?_) <;> (try simp [-List.getD_eq_getElem?_getD] at h)) | (refine giv fun hg => ?_; (try simp only [byE] at hg)) | refine need (by first | kernel_rfl | omega | (simp; done) | (simp; omega)) ?_ | (exfalso; omega) | ((first | refine fin_au rfl ?_ | apply WkF.au); (conv => whnf); ((repeat' first | exact trivial | refine ⟨?_, ?_⟩ | exact rfl | exact oR | exact orB rfl | exact oL) <;> (try conv => whnf) <;> (try first | apply cgB | apply cgI | apply cgS | apply cgR | apply cgD | refine cgL ?_) <;> (try (rw [wrap_i64 (by omega) (by omega)]; first | rfl | omega)))) | apply altl))
     all_goals first
      | (rw [if_pos (by omega)]; rfl)
      | (rw [if_neg (by omega)]; rfl)
theorem r_l4Root (r : Rw) (hl : r.1.length = r.2.length + 1) (hb : r.1.length ≤ 1099511627776) : Ret Tryz.prog 76 [rwA r] [] (agE .tr (rootF r)) [] := by
 have hin : RInv 1099511627776 (rootF r) r := ⟨hl, hb, rfl⟩
 generalize rootF r = fin at *
 refine ret_vc hT hM Tryz.func76 rfl rfl (m := 0) (nx := 0) rfl (Nat.le_of_ble_eq_true rfl) ?_
 (repeat' ((conv => whnf); first | (apply nx; intro s) | (apply rg; intro s k) | ((first | refine cas (fun h => ?_) (fun h => ?_) | refine may (fun h => ?_) ?_) <;> (try simp [-List.getD_eq_getElem?_getD] at h)) | (refine giv fun hg => ?_; (try simp only [byE] at hg)) | refine need (by first | kernel_rfl | omega | (simp; done) | (simp; omega)) ?_ | ((first | refine fin_au rfl ?_ | apply WkF.au); (conv => whnf); ((repeat' first | exact trivial | refine ⟨?_, ?_⟩ | exact rfl | exact oR | exact orB rfl | exact oL) <;> (try conv => whnf) <;> (try first | apply cgB | apply cgI | apply cgS | apply cgR | apply cgD | refine cgL ?_) <;> (try (rw [wrap_i64 (by omega) (by omega)]; first | rfl | omega)))) | apply altl))
 (repeat ((conv => whnf); first | (apply nx; intro s) | (apply rg; intro s k))); (conv => whnf)
 refine Tri.loop (fun q : Rw => ⟨[(1, .pt 0 0), (2, .pt 1 0)], [(0, .box ([C.sl .tr q.1, .sl .int q.2].map .c)), (1, .box ([C.bool false, .sl .pr [], .sl .int [], .sl .tr [], .sl .ms []].map .c))], 2⟩) (fun q => RInv 1099511627776 fin q) (fun q => q.1.length) r hin ?_ ?_
 · (apply WkF.au; (conv => whnf); ((repeat' first | exact trivial | refine ⟨?_, ?_⟩ | exact rfl | exact oR | exact orB rfl | exact oL) <;> (try conv => whnf) <;> (try first | apply cgB | apply cgI | apply cgS | apply cgR | apply cgD | refine cgL ?_) <;> (try (rw [wrap_i64 (by omega) (by omega)]; first | rfl | omega))))
 · intro q hI
   have hnx := fun h => rinv_next hI h
   obtain ⟨h1, h2, h3⟩ := id hI
   refine vc_sound hT hM _ _ _ ?_
   by_cases h4 : 4 < q.1.length
   · obtain ⟨h5, h6⟩ := hnx h4
     have hgr := r_l4Pack q h1 (by omega) (by omega)
     (repeat' ((conv => whnf); first | (apply nx; intro s) | (apply rg; intro s k) | ((first | refine cas (fun h => ?_) (fun h => ?_) | refine may (fun h => ?_) ?_) <;> (try simp [-List.getD_eq_getElem?_getD] at h)) | (refine giv fun hg => ?_; (try simp only [byE] at hg)) | refine need (by first | kernel_rfl | omega | (simp; done) | (simp; omega)) ?_ | (exfalso; omega) | (refine call_f (hgr) ?_ ?_ ?_ ?_; iterate 3 (focus (repeat' first | exact trivial | refine ⟨?_, ?_⟩ | exact rfl | exact oR | exact orB rfl | exact oL); (first | done | fail))) | (refine ⟨packF q, h5, h6, ?_⟩) | ((first | refine fin_au rfl ?_ | apply WkF.au); (conv => whnf); ((repeat' first | exact trivial | refine ⟨?_, ?_⟩ | exact rfl | exact oR | exact orB rfl | exact oL) <;> (try conv => whnf) <;> (try first | apply cgB | apply cgI | apply cgS | apply cgR | apply cgD | refine cgL ?_) <;> (try (rw [wrap_i64 (by omega) (by omega)]; first | rfl | omega)))) | apply altl))
   · rw [rootF_stop h4] at h3
     subst h3
     (repeat' ((conv => whnf); first | (apply nx; intro s) | (apply rg; intro s k) | ((first | refine cas (fun h => ?_) (fun h => ?_) | refine may (fun h => ?_) ?_) <;> (try simp [-List.getD_eq_getElem?_getD] at h)) | (refine giv fun hg => ?_; (try simp only [byE] at hg)) | refine need (by first | kernel_rfl | omega | (simp; done) | (simp; omega)) ?_ | (exfalso; omega) | ((first | refine fin_au rfl ?_ | apply WkF.au); (conv => whnf); ((repeat' first | exact trivial | refine ⟨?_, ?_⟩ | exact rfl | exact oR | exact orB rfl | exact oL) <;> (try conv => whnf) <;> (try first | apply cgB | apply cgI | apply cgS | apply cgR | apply cgD | refine cgL ?_) <;> (try (rw [wrap_i64 (by omega) (by omega)]; first | rfl | omega)))) | apply altl))
     all_goals first
      | (rw [if_pos (by omega)]; rfl)
      | (rw [if_neg (by omega)]; rfl)
def DrainR (K : Nat) (d : Nat) : Prop := ∀ lo hi t, Inv d lo hi t → phi t ≤ 68719476736 → Ret Tryz.prog K [agE .tr t] [] rwR (rwH (drainF d t))
theorem r_l4Drain0 : DrainR 86 0 := by
 intro lo hi t ⟨h1, h2, h3, h4, h5, h6, h7⟩ hb
 obtain ⟨tl, tp, tc, tk, tb⟩ := t
 dsimp only at h1
 subst h1
 show Ret _ _ _ _ _ (rwH ([_], []))
 refine ret_vc hT hM Tryz.func86 rfl rfl (m := 0) (nx := 0) rfl (Nat.le_of_ble_eq_true rfl) ?_
 (repeat' ((conv => whnf); first | (apply nx; intro s) | (apply rg; intro s k) | ((first | refine cas (fun h => ?_) (fun h => ?_) | refine may (fun h => ?_) ?_) <;> (try simp [-List.getD_eq_getElem?_getD] at h)) | (refine giv fun hg => ?_; (try simp only [byE] at hg)) | refine need (by first | kernel_rfl | omega | (simp; done) | (simp; omega)) ?_ | ((first | refine fin_au rfl ?_ | apply WkF.au); (conv => whnf); ((repeat' first | exact trivial | refine ⟨?_, ?_⟩ | exact rfl | exact oR | exact orB rfl | exact oL) <;> (try conv => whnf) <;> (try first | apply cgB | apply cgI | apply cgS | apply cgR | apply cgD | refine cgL ?_) <;> (try (rw [wrap_i64 (by omega) (by omega)]; first | rfl | omega)))) | apply altl))
theorem r_l4Drain {d : Nat} (hG : DrainR 86 d) : DrainR 86 (d + 1) := by
 intro lo hi t ⟨h1, h2, h3, h4⟩ hb
 have hp := phi_node h1
 obtain ⟨tl, tp, tc, tk, tb⟩ := t
 dsimp only at h1 h2 h3 h4 hp
 subst h1 h2
 have hok := down_ok (r := (tk, tc)) (give_ok d) h3 h4
 have hdn := r_l4Down (l4Give_all d) lo hi (tk, tc) tb h3 h4 (by dsimp only; omega)
 show Ret _ _ _ _ _ (rwH (shut (joinG (drainF d) (downF (giveF d) (tk, tc) tb).1 (downF (giveF d) (tk, tc) tb).2)))
 generalize downF (giveF d) (tk, tc) tb = r at *
 obtain ⟨hr, hph⟩ := hok
 dsimp only at hph
 have hl := row_len hr
 have hrp := row_phi hr
 have hjo := join_ok (drain_ok d) hr
 have hjl := row_len hjo.1
 have hjp := row_phi hjo.1
 rw [join_jG (drainF d) 0] at *
 refine ret_vc hT hM Tryz.func86 rfl rfl (m := 0) (nx := 0) rfl (Nat.le_of_ble_eq_true rfl) ?_
 (repeat' ((conv => whnf); first | (apply nx; intro s) | (apply rg; intro s k) | ((first | refine cas (fun h => ?_) (fun h => ?_) | refine may (fun h => ?_) ?_) <;> (try simp [-List.getD_eq_getElem?_getD] at h)) | (refine giv fun hg => ?_; (try simp only [byE] at hg)) | refine need (by first | kernel_rfl | omega | (simp; done) | (simp; omega)) ?_ | (refine call_f (hdn) ?_ ?_ ?_ ?_; iterate 3 (focus (repeat' first | exact trivial | refine ⟨?_, ?_⟩ | exact rfl | exact oR | exact orB rfl | exact oL); (first | done | fail))) | ((first | refine fin_au rfl ?_ | apply WkF.au); (conv => whnf); ((repeat' first | exact trivial | refine ⟨?_, ?_⟩ | exact rfl | exact oR | exact orB rfl | exact oL) <;> (try conv => whnf) <;> (try first | apply cgB | apply cgI | apply cgS | apply cgR | apply cgD | refine cgL ?_) <;> (try (rw [wrap_i64 (by omega) (by omega)]; first | rfl | omega)))) | apply altl))
 (repeat ((conv => whnf); first | (apply nx; intro s) | (apply rg; intro s k))); (conv => whnf)
 refine Tri.loop (fun q : Nat × Rw => ⟨[(2, .pt 1 0), (3, .pt 2 0), (4, .pt 3 0), (5, aI q.1)], [(1, .box [.nl, .nl]), (2, .box ([C.sl .tr r.1, .sl .int r.2].map .c)), (3, .box [.rw 4, .rw 5]), (4, .row .tr q.2.1), (5, .row .int q.2.2)], 6⟩) (fun q => JInv (fun _ k => drainF d k) r q.1 q.2) (fun q => r.1.length - q.1) (0, ([], [])) (jinv_zero _ r (by omega)) ?_ ?_
 · (apply WkF.au; (conv => whnf); ((repeat' first | exact trivial | refine ⟨?_, ?_⟩ | exact rfl | exact oR | exact orB rfl | exact oL) <;> (try conv => whnf) <;> (try first | apply cgB | apply cgI | apply cgS | apply cgR | apply cgD | refine cgL ?_) <;> (try (rw [wrap_i64 (by omega) (by omega)]; first | rfl | omega))))
 · intro ⟨i, o⟩ hI
   have hI' := hI
   obtain ⟨h1, _, h5⟩ := hI'
   dsimp only at h1 h5
   have hjl2 := jinv_len hI
   dsimp only at hjl2
   refine vc_sound hT hM _ _ _ ?_
   by_cases hlt : i < r.1.length
   · obtain ⟨a, b, hk1, _, hk3⟩ := row_get (r := r) (ms := []) (i := i) hr (by simp) hlt
     have hnx := jinv_step (o := o) hl hlt hI
     have hnl := jinv_len hnx
     dsimp only at hnx hnl
     simp only [ofKidF, List.filter_nil, List.length_nil] at hk3
     have hgv := hG a b _ hk1 (by omega)
     have hok2 := drain_ok d a b _ hk1
     have hxl := row_len hok2.1
     have hxp := row_phi hok2.1
     generalize drainF d (r.1.getD i (dflt .tr)) = x at *
     have hw2 : IntKind.i64.wrap ((i : Int) - 1) = (i : Int) - 1 := by rw [wrap_i64 (by omega) (by omega)]
     have hn1 : ((i : Int) - 1).toNat = i - 1 := by omega
     simp only [List.length_append] at hnl
     clear hI
     (repeat' ((conv => whnf); first | (apply nx; intro s) | (apply rg; intro s k) | ((first | refine cas (fun h => ?_) (fun h => ?_) | refine may (fun h => ?_) ?_) <;> (try simp [-List.getD_eq_getElem?_getD] at h)) | (refine giv fun hg => ?_; (try simp only [byE] at hg)) | (refine need (by simp only [hw2]; omega) ?_) | (refine need (by simp only [byE, chunk, List.length_append, List.length_cons, List.length_nil]; omega) ?_) | refine need (by first | kernel_rfl | omega | (simp; done) | (simp; omega)) ?_ | (exfalso; omega) | (refine call_f (hgv) ?_ ?_ ?_ ?_; iterate 3 (focus (repeat' first | exact trivial | refine ⟨?_, ?_⟩ | exact rfl | exact oR | exact orB rfl | exact oL); (first | done | fail))) | (refine ⟨(i + 1, _), hnx, (by dsimp only; omega), ?_⟩) | ((first | refine fin_au rfl ?_ | apply WkF.au); (conv => whnf); ((repeat' first | exact trivial | refine ⟨?_, ?_⟩ | exact rfl | exact oR | exact orB rfl | exact oL) <;> (try conv => whnf) <;> (try first | apply cgB | apply cgI | apply cgS | apply cgR | apply cgD | refine cgL ?_) <;> (try (rw [wrap_i64 (by omega) (by omega)]; first | rfl | omega)))) | apply altl))
     all_goals dsimp only
     all_goals first
      | (unfold sepD; rw [if_neg (by omega)]; simp only [hw2, hn1]; rfl)
      | (unfold sepD; rw [if_pos (by assumption), List.append_nil]; done)
      | (rw [wrap_i64 (by omega) (by omega)]; omega)
   · have hoe := h5 (by omega)
     subst hoe
     generalize jG (fun _ k => drainF d k) 0 r.1 r.2 = x at *
     unfold shut
     by_cases h4 : 4 < x.1.length
     · rw [if_pos h4]
       have hgr := r_l4Pack x hjl (by omega) (by omega)
       (repeat' ((conv => whnf); first | (apply nx; intro s) | (apply rg; intro s k) | ((first | refine cas (fun h => ?_) (fun h => ?_) | refine may (fun h => ?_) ?_) <;> (try simp [-List.getD_eq_getElem?_getD] at h)) | (refine giv fun hg => ?_; (try simp only [byE] at hg)) | refine need (by first | kernel_rfl | omega | (simp; done) | (simp; omega)) ?_ | (exfalso; omega) | (refine call_f (hgr) ?_ ?_ ?_ ?_; iterate 3 (focus (repeat' first | exact trivial | refine ⟨?_, ?_⟩ | exact rfl | exact oR | exact orB rfl | exact oL); (first | done | fail))) | ((first | refine fin_au rfl ?_ | apply WkF.au); (conv => whnf); ((repeat' first | exact trivial | refine ⟨?_, ?_⟩ | exact rfl | exact oR | exact orB rfl | exact oL) <;> (try conv => whnf) <;> (try first | apply cgB | apply cgI | apply cgS | apply cgR | apply cgD | refine cgL ?_) <;> (try (rw [wrap_i64 (by omega) (by omega)]; first | rfl | omega)))) | apply altl))
     · rw [if_neg h4]
       (repeat' ((conv => whnf); first | (apply nx; intro s) | (apply rg; intro s k) | ((first | refine cas (fun h => ?_) (fun h => ?_) | refine may (fun h => ?_) ?_) <;> (try simp [-List.getD_eq_getElem?_getD] at h)) | (refine giv fun hg => ?_; (try simp only [byE] at hg)) | refine need (by first | kernel_rfl | omega | (simp; done) | (simp; omega)) ?_ | (exfalso; omega) | ((first | refine fin_au rfl ?_ | apply WkF.au); (conv => whnf); ((repeat' first | exact trivial | refine ⟨?_, ?_⟩ | exact rfl | exact oR | exact orB rfl | exact oL) <;> (try conv => whnf) <;> (try first | apply cgB | apply cgI | apply cgS | apply cgR | apply cgD | refine cgL ?_) <;> (try (rw [wrap_i64 (by omega) (by omega)]; first | rfl | omega)))) | apply altl))
theorem l4Drain_all : ∀ d : Nat, DrainR 86 d
 | 0 => r_l4Drain0
 | d + 1 => r_l4Drain (l4Drain_all d)
end Go.Proofs.YthbpdhppelaihaaGreat
/- Inject and Drain, on either side. Conditions: none. -/
namespace Go.Proofs.YthbpdhppelaihaaGreat
open Go.RowKit
attribute [local irreducible] Tri Weak
set_option maxRecDepth 4000
set_option maxHeartbeats 4000000
def okT (t : Tr) : Bool := decide (0 < depF 7 t 0 1000)
theorem r_implTreeDepth (t : Tr) : Ret Tryz.prog 161 [agE .tr t] [] (aI (depF 7 t 0 1000)) [] := by
 have h := r_implDepth 7 (by omega) t 0 1000 (by omega) (by omega)
 refine ret_vc hT hM Tryz.func161 rfl rfl (m := 0) (nx := 0) rfl (Nat.le_of_ble_eq_true rfl) ?_
 (repeat' ((conv => whnf); first | (apply nx; intro s) | (apply rg; intro s k) | ((first | refine cas (fun h => ?_) (fun h => ?_) | refine may (fun h => ?_) ?_) <;> (try simp [-List.getD_eq_getElem?_getD] at h)) | (refine giv fun hg => ?_; (try simp only [byE] at hg)) | refine need (by first | kernel_rfl | omega | (simp; done) | (simp; omega)) ?_ | (refine call_p (h) rfl (by (repeat' first | exact trivial | refine ⟨?_, ?_⟩ | exact rfl | exact oR | exact orB rfl | exact oL); (first | done | fail)) ?_) | ((first | refine fin_au rfl ?_ | apply WkF.au); (conv => whnf); ((repeat' first | exact trivial | refine ⟨?_, ?_⟩ | exact rfl | exact oR | exact orB rfl | exact oL) <;> (try conv => whnf) <;> (try first | apply cgB | apply cgI | apply cgS | apply cgR | apply cgD | refine cgL ?_) <;> (try (rw [wrap_i64 (by omega) (by omega)]; first | rfl | omega)))) | apply altl))
theorem r_specTreeDepth (t : Tr) : Ret Tryz.prog 152 [agE .tr t] [] (aI (depF 7 t 0 1000)) [] := by
 have h := r_specDepth 7 (by omega) t 0 1000 (by omega) (by omega)
 refine ret_vc hT hM Tryz.func152 rfl rfl (m := 0) (nx := 0) rfl (Nat.le_of_ble_eq_true rfl) ?_
 (repeat' ((conv => whnf); first | (apply nx; intro s) | (apply rg; intro s k) | ((first | refine cas (fun h => ?_) (fun h => ?_) | refine may (fun h => ?_) ?_) <;> (try simp [-List.getD_eq_getElem?_getD] at h)) | (refine giv fun hg => ?_; (try simp only [byE] at hg)) | refine need (by first | kernel_rfl | omega | (simp; done) | (simp; omega)) ?_ | (refine call_p (h) rfl (by (repeat' first | exact trivial | refine ⟨?_, ?_⟩ | exact rfl | exact oR | exact orB rfl | exact oL); (first | done | fail)) ?_) | ((first | refine fin_au rfl ?_ | apply WkF.au); (conv => whnf); ((repeat' first | exact trivial | refine ⟨?_, ?_⟩ | exact rfl | exact oR | exact orB rfl | exact oL) <;> (try conv => whnf) <;> (try first | apply cgB | apply cgI | apply cgS | apply cgR | apply cgD | refine cgL ?_) <;> (try (rw [wrap_i64 (by omega) (by omega)]; first | rfl | omega)))) | apply altl))
theorem r_implTreeOk (t : Tr) : Ret Tryz.prog 81 [agE .tr t] [] (.c (.bool (okT t))) [] := by
 refine ret_vc hT hM Tryz.func81 rfl rfl (m := 0) (nx := 0) rfl (Nat.le_of_ble_eq_true rfl) ?_
 (repeat' ((conv => whnf); first | (apply nx; intro s) | (apply rg; intro s k) | ((first | refine cas (fun h => ?_) (fun h => ?_) | refine may (fun h => ?_) ?_) <;> (try simp [-List.getD_eq_getElem?_getD] at h)) | (refine giv fun hg => ?_; (try simp only [byE] at hg)) | refine need (by first | kernel_rfl | omega | (simp; done) | (simp; omega)) ?_ | (refine call_p (r_implTreeDepth t) rfl (by (repeat' first | exact trivial | refine ⟨?_, ?_⟩ | exact rfl | exact oR | exact orB rfl | exact oL); (first | done | fail)) ?_) | ((first | refine fin_au rfl ?_ | apply WkF.au); (conv => whnf); ((repeat' first | exact trivial | refine ⟨?_, ?_⟩ | exact rfl | exact oR | exact orB rfl | exact oL) <;> (try conv => whnf) <;> (try first | apply cgB | apply cgI | apply cgS | apply cgR | apply cgD | refine cgL ?_) <;> (try (rw [wrap_i64 (by omega) (by omega)]; first | rfl | omega)))) | apply altl))
theorem r_specTreeOk (t : Tr) : Ret Tryz.prog 73 [agE .tr t] [] (.c (.bool (okT t))) [] := by
 refine ret_vc hT hM Tryz.func73 rfl rfl (m := 0) (nx := 0) rfl (Nat.le_of_ble_eq_true rfl) ?_
 (repeat' ((conv => whnf); first | (apply nx; intro s) | (apply rg; intro s k) | ((first | refine cas (fun h => ?_) (fun h => ?_) | refine may (fun h => ?_) ?_) <;> (try simp [-List.getD_eq_getElem?_getD] at h)) | (refine giv fun hg => ?_; (try simp only [byE] at hg)) | refine need (by first | kernel_rfl | omega | (simp; done) | (simp; omega)) ?_ | (refine call_p (r_specTreeDepth t) rfl (by (repeat' first | exact trivial | refine ⟨?_, ?_⟩ | exact rfl | exact oR | exact orB rfl | exact oL); (first | done | fail)) ?_) | ((first | refine fin_au rfl ?_ | apply WkF.au); (conv => whnf); ((repeat' first | exact trivial | refine ⟨?_, ?_⟩ | exact rfl | exact oR | exact orB rfl | exact oL) <;> (try conv => whnf) <;> (try first | apply cgB | apply cgI | apply cgS | apply cgR | apply cgD | refine cgL ?_) <;> (try (rw [wrap_i64 (by omega) (by omega)]; first | rfl | omega)))) | apply altl))
def dpT (t : Tr) : Nat := (depF 7 t 0 1000).toNat - 1
theorem okT_inv {t : Tr} (h : okT t = true) : Inv (dpT t) 0 1000 t ∧ phi t ≤ 1000000 := by
 have h' : 0 < depF 7 t 0 1000 := by unfold okT at h; exact of_decide_eq_true h
 obtain ⟨d, h1, h2, h3, h4⟩ := dep_inv 7 t 0 1000 (by omega)
 have e : dpT t = d := by unfold dpT; omega
 rw [e]
 exact ⟨h3, Nat.le_trans h4 (by decide)⟩
def newT (t : Tr) (m : Ms) : Tr := rootF (giveF (dpT t) t [m])
def injF (t : Tr) (m : Ms) : Tr := if okT t = true ∧ msgOk m = true ∧ m.op ≠ 4 ∧ okT (newT t m) = true then newT t m else t
def newD (t : Tr) : Tr := rootF (drainF (dpT t) t)
def drnF (t : Tr) : Tr := if okT t = true ∧ okT (newD t) = true then newD t else t
theorem inj_new {t : Tr} {m : Ms} (h : okT t = true ∧ msgOk m = true ∧ m.op ≠ 4 ∧ okT (newT t m) = true) : injF t m = newT t m := if_pos h
theorem inj_old {t : Tr} {m : Ms} (h : ¬ (okT t = true ∧ msgOk m = true ∧ m.op ≠ 4 ∧ okT (newT t m) = true)) : injF t m = t := if_neg h
theorem drn_new {t : Tr} (h : okT t = true ∧ okT (newD t) = true) : drnF t = newD t := if_pos h
theorem drn_old {t : Tr} (h : ¬ (okT t = true ∧ okT (newD t) = true)) : drnF t = t := if_neg h
theorem r_implInject (t : Tr) (m : Ms) : Ret Tryz.prog 22 [agE .tr t, agE .ms m] [] (ownA .tr (injF t m)) (ownH .tr (injF t m)) := by
 by_cases hok : okT t = true ∧ msgOk m = true ∧ m.op ≠ 4
 · obtain ⟨ho1, ho2, ho3⟩ := hok
   obtain ⟨hi1, hi2⟩ := okT_inv ho1
   have hm : ∀ x ∈ [m], MsP 0 1000 x := fun x hx => by
    rw [List.mem_singleton] at hx; subst hx; exact okM_P (okM_yes ho2 ho3)
   have hg := give_all (dpT t) 0 1000 t [m] hi1 hm (by simp; omega)
   have hgo := give_ok (dpT t) 0 1000 t [m] hi1 hm
   have hl := row_len hgo.1
   have hp := row_phi hgo.1
   have hr := r_rooted (giveF (dpT t) t [m]) hl (by have := hgo.2; simp at this; omega)
   have e : newT t m = rootF (giveF (dpT t) t [m]) := rfl
   rw [← e] at hr
   have hin : okT (newT t m) = true → injF t m = newT t m := fun h => inj_new ⟨ho1, ho2, ho3, h⟩
   have hio : okT (newT t m) = false → injF t m = t := fun h => inj_old fun h' => by rw [h] at h'; exact absurd h'.2.2.2 (by simp)
   generalize newT t m = o at *
   generalize giveF (dpT t) t [m] = gv at *
   clear e hgo hm hi1
   cases hoo : okT o with
   | true =>
     rw [hin hoo]
     refine ret_vc hT hM Tryz.func22 rfl rfl (m := 0) (nx := 0) rfl (Nat.le_of_ble_eq_true rfl) ?_
     (repeat' ((conv => whnf); first | (apply nx; intro s) | (apply rg; intro s k) | ((first | refine cas (fun h => ?_) (fun h => ?_) | refine may (fun h => ?_) ?_) <;> (try simp [-List.getD_eq_getElem?_getD, ho1, ho2, ho3, hoo] at h)) | (refine giv fun hg => ?_; (try simp only [byE] at hg)) | refine need (by first | kernel_rfl | omega | (simp; done) | (simp; omega)) ?_ | (refine call_p (r_implTreeOk t) rfl (by (repeat' first | exact trivial | refine ⟨?_, ?_⟩ | exact rfl | exact oR | exact orB rfl | exact oL); (first | done | fail)) ?_) | (refine call_p (r_implMsgOk m) rfl (by (repeat' first | exact trivial | refine ⟨?_, ?_⟩ | exact rfl | exact oR | exact orB rfl | exact oL); (first | done | fail)) ?_) | (refine call_f (hg) ?_ ?_ ?_ ?_; iterate 3 (focus (repeat' first | exact trivial | refine ⟨?_, ?_⟩ | exact rfl | exact oR | exact orB rfl | exact oL); (first | done | fail))) | (refine call_f (hr) ?_ ?_ ?_ ?_; iterate 3 (focus (repeat' first | exact trivial | refine ⟨?_, ?_⟩ | exact rfl | exact oR | exact orB rfl | exact oL); (first | done | fail))) | (refine call_p (r_implTreeOk o) rfl (by (repeat' first | exact trivial | refine ⟨?_, ?_⟩ | exact rfl | exact oR | exact orB rfl | exact oL); (first | done | fail)) ?_) | (refine call_n (r_copyTree o) rfl ?_ ?_ ?_; iterate 2 (focus (repeat' first | exact trivial | refine ⟨?_, ?_⟩ | exact rfl | exact oR | exact orB rfl | exact oL); (first | done | fail))) | (refine call_n (r_copyTree t) rfl ?_ ?_ ?_; iterate 2 (focus (repeat' first | exact trivial | refine ⟨?_, ?_⟩ | exact rfl | exact oR | exact orB rfl | exact oL); (first | done | fail))) | ((first | refine fin_au rfl ?_ | apply WkF.au); (conv => whnf); ((repeat' first | exact trivial | refine ⟨?_, ?_⟩ | exact rfl | exact oR | exact orB rfl | exact oL) <;> (try conv => whnf) <;> (try first | apply cgB | apply cgI | apply cgS | apply cgR | apply cgD | refine cgL ?_) <;> (try (rw [wrap_i64 (by omega) (by omega)]; first | rfl | omega)))) | apply altl))
   | false =>
     rw [hio hoo]
     refine ret_vc hT hM Tryz.func22 rfl rfl (m := 0) (nx := 0) rfl (Nat.le_of_ble_eq_true rfl) ?_
     (repeat' ((conv => whnf); first | (apply nx; intro s) | (apply rg; intro s k) | ((first | refine cas (fun h => ?_) (fun h => ?_) | refine may (fun h => ?_) ?_) <;> (try simp [-List.getD_eq_getElem?_getD, ho1, ho2, ho3, hoo] at h)) | (refine giv fun hg => ?_; (try simp only [byE] at hg)) | refine need (by first | kernel_rfl | omega | (simp; done) | (simp; omega)) ?_ | (refine call_p (r_implTreeOk t) rfl (by (repeat' first | exact trivial | refine ⟨?_, ?_⟩ | exact rfl | exact oR | exact orB rfl | exact oL); (first | done | fail)) ?_) | (refine call_p (r_implMsgOk m) rfl (by (repeat' first | exact trivial | refine ⟨?_, ?_⟩ | exact rfl | exact oR | exact orB rfl | exact oL); (first | done | fail)) ?_) | (refine call_f (hg) ?_ ?_ ?_ ?_; iterate 3 (focus (repeat' first | exact trivial | refine ⟨?_, ?_⟩ | exact rfl | exact oR | exact orB rfl | exact oL); (first | done | fail))) | (refine call_f (hr) ?_ ?_ ?_ ?_; iterate 3 (focus (repeat' first | exact trivial | refine ⟨?_, ?_⟩ | exact rfl | exact oR | exact orB rfl | exact oL); (first | done | fail))) | (refine call_p (r_implTreeOk o) rfl (by (repeat' first | exact trivial | refine ⟨?_, ?_⟩ | exact rfl | exact oR | exact orB rfl | exact oL); (first | done | fail)) ?_) | (refine call_n (r_copyTree o) rfl ?_ ?_ ?_; iterate 2 (focus (repeat' first | exact trivial | refine ⟨?_, ?_⟩ | exact rfl | exact oR | exact orB rfl | exact oL); (first | done | fail))) | (refine call_n (r_copyTree t) rfl ?_ ?_ ?_; iterate 2 (focus (repeat' first | exact trivial | refine ⟨?_, ?_⟩ | exact rfl | exact oR | exact orB rfl | exact oL); (first | done | fail))) | ((first | refine fin_au rfl ?_ | apply WkF.au); (conv => whnf); ((repeat' first | exact trivial | refine ⟨?_, ?_⟩ | exact rfl | exact oR | exact orB rfl | exact oL) <;> (try conv => whnf) <;> (try first | apply cgB | apply cgI | apply cgS | apply cgR | apply cgD | refine cgL ?_) <;> (try (rw [wrap_i64 (by omega) (by omega)]; first | rfl | omega)))) | apply altl))
 · rw [inj_old fun h => hok ⟨h.1, h.2.1, h.2.2.1⟩]
   refine ret_vc hT hM Tryz.func22 rfl rfl (m := 0) (nx := 0) rfl (Nat.le_of_ble_eq_true rfl) ?_
   (repeat' ((conv => whnf); first | (apply nx; intro s) | (apply rg; intro s k) | ((first | refine cas (fun h => ?_) (fun h => ?_) | refine may (fun h => ?_) ?_) <;> (try simp [-List.getD_eq_getElem?_getD] at h)) | (refine giv fun hg => ?_; (try simp only [byE] at hg)) | refine need (by first | kernel_rfl | omega | (simp; done) | (simp; omega)) ?_ | (exfalso; exact hok ⟨by assumption, by assumption, by assumption⟩) | (refine call_p (r_implTreeOk t) rfl (by (repeat' first | exact trivial | refine ⟨?_, ?_⟩ | exact rfl | exact oR | exact orB rfl | exact oL); (first | done | fail)) ?_) | (refine call_p (r_implMsgOk m) rfl (by (repeat' first | exact trivial | refine ⟨?_, ?_⟩ | exact rfl | exact oR | exact orB rfl | exact oL); (first | done | fail)) ?_) | (refine call_n (r_copyTree t) rfl ?_ ?_ ?_; iterate 2 (focus (repeat' first | exact trivial | refine ⟨?_, ?_⟩ | exact rfl | exact oR | exact orB rfl | exact oL); (first | done | fail))) | ((first | refine fin_au rfl ?_ | apply WkF.au); (conv => whnf); ((repeat' first | exact trivial | refine ⟨?_, ?_⟩ | exact rfl | exact oR | exact orB rfl | exact oL) <;> (try conv => whnf) <;> (try first | apply cgB | apply cgI | apply cgS | apply cgR | apply cgD | refine cgL ?_) <;> (try (rw [wrap_i64 (by omega) (by omega)]; first | rfl | omega)))) | apply altl))
theorem r_specInject (t : Tr) (m : Ms) : Ret Tryz.prog 19 [agE .tr t, agE .ms m] [] (ownA .tr (injF t m)) (ownH .tr (injF t m)) := by
 by_cases hok : okT t = true ∧ msgOk m = true ∧ m.op ≠ 4
 · obtain ⟨ho1, ho2, ho3⟩ := hok
   obtain ⟨hi1, hi2⟩ := okT_inv ho1
   have hm : ∀ x ∈ [m], MsP 0 1000 x := fun x hx => by
    rw [List.mem_singleton] at hx; subst hx; exact okM_P (okM_yes ho2 ho3)
   have hg := l4Give_all (dpT t) 0 1000 t [m] hi1 hm (by simp; omega)
   have hgo := give_ok (dpT t) 0 1000 t [m] hi1 hm
   have hl := row_len hgo.1
   have hp := row_phi hgo.1
   have hr := r_l4Root (giveF (dpT t) t [m]) hl (by have := hgo.2; simp at this; omega)
   have e : newT t m = rootF (giveF (dpT t) t [m]) := rfl
   rw [← e] at hr
   have hin : okT (newT t m) = true → injF t m = newT t m := fun h => inj_new ⟨ho1, ho2, ho3, h⟩
   have hio : okT (newT t m) = false → injF t m = t := fun h => inj_old fun h' => by rw [h] at h'; exact absurd h'.2.2.2 (by simp)
   generalize newT t m = o at *
   generalize giveF (dpT t) t [m] = gv at *
   clear e hgo hm hi1
   cases hoo : okT o with
   | true =>
     rw [hin hoo]
     refine ret_vc hT hM Tryz.func19 rfl rfl (m := 0) (nx := 0) rfl (Nat.le_of_ble_eq_true rfl) ?_
     (repeat' ((conv => whnf); first | (apply nx; intro s) | (apply rg; intro s k) | ((first | refine cas (fun h => ?_) (fun h => ?_) | refine may (fun h => ?_) ?_) <;> (try simp [-List.getD_eq_getElem?_getD, ho1, ho2, ho3, hoo] at h)) | (refine giv fun hg => ?_; (try simp only [byE] at hg)) | refine need (by first | kernel_rfl | omega | (simp; done) | (simp; omega)) ?_ | (refine call_p (r_specTreeOk t) rfl (by (repeat' first | exact trivial | refine ⟨?_, ?_⟩ | exact rfl | exact oR | exact orB rfl | exact oL); (first | done | fail)) ?_) | (refine call_p (r_specMsgOk m) rfl (by (repeat' first | exact trivial | refine ⟨?_, ?_⟩ | exact rfl | exact oR | exact orB rfl | exact oL); (first | done | fail)) ?_) | (refine call_f (hg) ?_ ?_ ?_ ?_; iterate 3 (focus (repeat' first | exact trivial | refine ⟨?_, ?_⟩ | exact rfl | exact oR | exact orB rfl | exact oL); (first | done | fail))) | (refine call_f (hr) ?_ ?_ ?_ ?_; iterate 3 (focus (repeat' first | exact trivial | refine ⟨?_, ?_⟩ | exact rfl | exact oR | exact orB rfl | exact oL); (first | done | fail))) | (refine call_p (r_specTreeOk o) rfl (by (repeat' first | exact trivial | refine ⟨?_, ?_⟩ | exact rfl | exact oR | exact orB rfl | exact oL); (first | done | fail)) ?_) | (refine call_n (r_l2Copy o) rfl ?_ ?_ ?_; iterate 2 (focus (repeat' first | exact trivial | refine ⟨?_, ?_⟩ | exact rfl | exact oR | exact orB rfl | exact oL); (first | done | fail))) | (refine call_n (r_l2Copy t) rfl ?_ ?_ ?_; iterate 2 (focus (repeat' first | exact trivial | refine ⟨?_, ?_⟩ | exact rfl | exact oR | exact orB rfl | exact oL); (first | done | fail))) | ((first | refine fin_au rfl ?_ | apply WkF.au); (conv => whnf); ((repeat' first | exact trivial | refine ⟨?_, ?_⟩ | exact rfl | exact oR | exact orB rfl | exact oL) <;> (try conv => whnf) <;> (try first | apply cgB | apply cgI | apply cgS | apply cgR | apply cgD | refine cgL ?_) <;> (try (rw [wrap_i64 (by omega) (by omega)]; first | rfl | omega)))) | apply altl))
   | false =>
     rw [hio hoo]
     refine ret_vc hT hM Tryz.func19 rfl rfl (m := 0) (nx := 0) rfl (Nat.le_of_ble_eq_true rfl) ?_
     (repeat' ((conv => whnf); first | (apply nx; intro s) | (apply rg; intro s k) | ((first | refine cas (fun h => ?_) (fun h => ?_) | refine may (fun h => ?_) ?_) <;> (try simp [-List.getD_eq_getElem?_getD, ho1, ho2, ho3, hoo] at h)) | (refine giv fun hg => ?_; (try simp only [byE] at hg)) | refine need (by first | kernel_rfl | omega | (simp; done) | (simp; omega)) ?_ | (refine call_p (r_specTreeOk t) rfl (by (repeat' first | exact trivial | refine ⟨?_, ?_⟩ | exact rfl | exact oR | exact orB rfl | exact oL); (first | done | fail)) ?_) | (refine call_p (r_specMsgOk m) rfl (by (repeat' first | exact trivial | refine ⟨?_, ?_⟩ | exact rfl | exact oR | exact orB rfl | exact oL); (first | done | fail)) ?_) | (refine call_f (hg) ?_ ?_ ?_ ?_; iterate 3 (focus (repeat' first | exact trivial | refine ⟨?_, ?_⟩ | exact rfl | exact oR | exact orB rfl | exact oL); (first | done | fail))) | (refine call_f (hr) ?_ ?_ ?_ ?_; iterate 3 (focus (repeat' first | exact trivial | refine ⟨?_, ?_⟩ | exact rfl | exact oR | exact orB rfl | exact oL); (first | done | fail))) | (refine call_p (r_specTreeOk o) rfl (by (repeat' first | exact trivial | refine ⟨?_, ?_⟩ | exact rfl | exact oR | exact orB rfl | exact oL); (first | done | fail)) ?_) | (refine call_n (r_l2Copy o) rfl ?_ ?_ ?_; iterate 2 (focus (repeat' first | exact trivial | refine ⟨?_, ?_⟩ | exact rfl | exact oR | exact orB rfl | exact oL); (first | done | fail))) | (refine call_n (r_l2Copy t) rfl ?_ ?_ ?_; iterate 2 (focus (repeat' first | exact trivial | refine ⟨?_, ?_⟩ | exact rfl | exact oR | exact orB rfl | exact oL); (first | done | fail))) | ((first | refine fin_au rfl ?_ | apply WkF.au); (conv => whnf); ((repeat' first | exact trivial | refine ⟨?_, ?_⟩ | exact rfl | exact oR | exact orB rfl | exact oL) <;> (try conv => whnf) <;> (try first | apply cgB | apply cgI | apply cgS | apply cgR | apply cgD | refine cgL ?_) <;> (try (rw [wrap_i64 (by omega) (by omega)]; first | rfl | omega)))) | apply altl))
 · rw [inj_old fun h => hok ⟨h.1, h.2.1, h.2.2.1⟩]
   refine ret_vc hT hM Tryz.func19 rfl rfl (m := 0) (nx := 0) rfl (Nat.le_of_ble_eq_true rfl) ?_
   (repeat' ((conv => whnf); first | (apply nx; intro s) | (apply rg; intro s k) | ((first | refine cas (fun h => ?_) (fun h => ?_) | refine may (fun h => ?_) ?_) <;> (try simp [-List.getD_eq_getElem?_getD] at h)) | (refine giv fun hg => ?_; (try simp only [byE] at hg)) | refine need (by first | kernel_rfl | omega | (simp; done) | (simp; omega)) ?_ | (exfalso; exact hok ⟨by assumption, by assumption, by assumption⟩) | (refine call_p (r_specTreeOk t) rfl (by (repeat' first | exact trivial | refine ⟨?_, ?_⟩ | exact rfl | exact oR | exact orB rfl | exact oL); (first | done | fail)) ?_) | (refine call_p (r_specMsgOk m) rfl (by (repeat' first | exact trivial | refine ⟨?_, ?_⟩ | exact rfl | exact oR | exact orB rfl | exact oL); (first | done | fail)) ?_) | (refine call_n (r_l2Copy t) rfl ?_ ?_ ?_; iterate 2 (focus (repeat' first | exact trivial | refine ⟨?_, ?_⟩ | exact rfl | exact oR | exact orB rfl | exact oL); (first | done | fail))) | ((first | refine fin_au rfl ?_ | apply WkF.au); (conv => whnf); ((repeat' first | exact trivial | refine ⟨?_, ?_⟩ | exact rfl | exact oR | exact orB rfl | exact oL) <;> (try conv => whnf) <;> (try first | apply cgB | apply cgI | apply cgS | apply cgR | apply cgD | refine cgL ?_) <;> (try (rw [wrap_i64 (by omega) (by omega)]; first | rfl | omega)))) | apply altl))
theorem r_specDrain (t : Tr) : Ret Tryz.prog 23 [agE .tr t] [] (ownA .tr (drnF t)) (ownH .tr (drnF t)) := by
 by_cases ho1 : okT t = true
 · obtain ⟨hi1, hi2⟩ := okT_inv ho1
   have hg := l4Drain_all (dpT t) 0 1000 t hi1 (by omega)
   have hgo := drain_ok (dpT t) 0 1000 t hi1
   have hl := row_len hgo.1
   have hp := row_phi hgo.1
   have hr := r_l4Root (drainF (dpT t) t) hl (by omega)
   have e : newD t = rootF (drainF (dpT t) t) := rfl
   rw [← e] at hr
   have hin : okT (newD t) = true → drnF t = newD t := fun h => drn_new ⟨ho1, h⟩
   have hio : okT (newD t) = false → drnF t = t := fun h => drn_old fun h' => by rw [h] at h'; exact absurd h'.2 (by simp)
   generalize newD t = o at *
   generalize drainF (dpT t) t = gv at *
   clear e hgo hi1
   cases hoo : okT o with
   | true =>
     rw [hin hoo]
     refine ret_vc hT hM Tryz.func23 rfl rfl (m := 0) (nx := 0) rfl (Nat.le_of_ble_eq_true rfl) ?_
     (repeat' ((conv => whnf); first | (apply nx; intro s) | (apply rg; intro s k) | ((first | refine cas (fun h => ?_) (fun h => ?_) | refine may (fun h => ?_) ?_) <;> (try simp [-List.getD_eq_getElem?_getD, ho1, hoo] at h)) | (refine giv fun hg => ?_; (try simp only [byE] at hg)) | refine need (by first | kernel_rfl | omega | (simp; done) | (simp; omega)) ?_ | (refine call_p (r_specTreeOk t) rfl (by (repeat' first | exact trivial | refine ⟨?_, ?_⟩ | exact rfl | exact oR | exact orB rfl | exact oL); (first | done | fail)) ?_) | (refine call_f (hg) ?_ ?_ ?_ ?_; iterate 3 (focus (repeat' first | exact trivial | refine ⟨?_, ?_⟩ | exact rfl | exact oR | exact orB rfl | exact oL); (first | done | fail))) | (refine call_f (hr) ?_ ?_ ?_ ?_; iterate 3 (focus (repeat' first | exact trivial | refine ⟨?_, ?_⟩ | exact rfl | exact oR | exact orB rfl | exact oL); (first | done | fail))) | (refine call_p (r_specTreeOk o) rfl (by (repeat' first | exact trivial | refine ⟨?_, ?_⟩ | exact rfl | exact oR | exact orB rfl | exact oL); (first | done | fail)) ?_) | (refine call_n (r_l2Copy o) rfl ?_ ?_ ?_; iterate 2 (focus (repeat' first | exact trivial | refine ⟨?_, ?_⟩ | exact rfl | exact oR | exact orB rfl | exact oL); (first | done | fail))) | (refine call_n (r_l2Copy t) rfl ?_ ?_ ?_; iterate 2 (focus (repeat' first | exact trivial | refine ⟨?_, ?_⟩ | exact rfl | exact oR | exact orB rfl | exact oL); (first | done | fail))) | ((first | refine fin_au rfl ?_ | apply WkF.au); (conv => whnf); ((repeat' first | exact trivial | refine ⟨?_, ?_⟩ | exact rfl | exact oR | exact orB rfl | exact oL) <;> (try conv => whnf) <;> (try first | apply cgB | apply cgI | apply cgS | apply cgR | apply cgD | refine cgL ?_) <;> (try (rw [wrap_i64 (by omega) (by omega)]; first | rfl | omega)))) | apply altl))
   | false =>
     rw [hio hoo]
     refine ret_vc hT hM Tryz.func23 rfl rfl (m := 0) (nx := 0) rfl (Nat.le_of_ble_eq_true rfl) ?_
     (repeat' ((conv => whnf); first | (apply nx; intro s) | (apply rg; intro s k) | ((first | refine cas (fun h => ?_) (fun h => ?_) | refine may (fun h => ?_) ?_) <;> (try simp [-List.getD_eq_getElem?_getD, ho1, hoo] at h)) | (refine giv fun hg => ?_; (try simp only [byE] at hg)) | refine need (by first | kernel_rfl | omega | (simp; done) | (simp; omega)) ?_ | (refine call_p (r_specTreeOk t) rfl (by (repeat' first | exact trivial | refine ⟨?_, ?_⟩ | exact rfl | exact oR | exact orB rfl | exact oL); (first | done | fail)) ?_) | (refine call_f (hg) ?_ ?_ ?_ ?_; iterate 3 (focus (repeat' first | exact trivial | refine ⟨?_, ?_⟩ | exact rfl | exact oR | exact orB rfl | exact oL); (first | done | fail))) | (refine call_f (hr) ?_ ?_ ?_ ?_; iterate 3 (focus (repeat' first | exact trivial | refine ⟨?_, ?_⟩ | exact rfl | exact oR | exact orB rfl | exact oL); (first | done | fail))) | (refine call_p (r_specTreeOk o) rfl (by (repeat' first | exact trivial | refine ⟨?_, ?_⟩ | exact rfl | exact oR | exact orB rfl | exact oL); (first | done | fail)) ?_) | (refine call_n (r_l2Copy o) rfl ?_ ?_ ?_; iterate 2 (focus (repeat' first | exact trivial | refine ⟨?_, ?_⟩ | exact rfl | exact oR | exact orB rfl | exact oL); (first | done | fail))) | (refine call_n (r_l2Copy t) rfl ?_ ?_ ?_; iterate 2 (focus (repeat' first | exact trivial | refine ⟨?_, ?_⟩ | exact rfl | exact oR | exact orB rfl | exact oL); (first | done | fail))) | ((first | refine fin_au rfl ?_ | apply WkF.au); (conv => whnf); ((repeat' first | exact trivial | refine ⟨?_, ?_⟩ | exact rfl | exact oR | exact orB rfl | exact oL) <;> (try conv => whnf) <;> (try first | apply cgB | apply cgI | apply cgS | apply cgR | apply cgD | refine cgL ?_) <;> (try (rw [wrap_i64 (by omega) (by omega)]; first | rfl | omega)))) | apply altl))
 · rw [drn_old fun h => ho1 h.1]
   refine ret_vc hT hM Tryz.func23 rfl rfl (m := 0) (nx := 0) rfl (Nat.le_of_ble_eq_true rfl) ?_
   (repeat' ((conv => whnf); first | (apply nx; intro s) | (apply rg; intro s k) | ((first | refine cas (fun h => ?_) (fun h => ?_) | refine may (fun h => ?_) ?_) <;> (try simp [-List.getD_eq_getElem?_getD, ho1] at h)) | (refine giv fun hg => ?_; (try simp only [byE] at hg)) | refine need (by first | kernel_rfl | omega | (simp; done) | (simp; omega)) ?_ | (exfalso; exact ho1 (by assumption)) | (refine call_p (r_specTreeOk t) rfl (by (repeat' first | exact trivial | refine ⟨?_, ?_⟩ | exact rfl | exact oR | exact orB rfl | exact oL); (first | done | fail)) ?_) | (refine call_n (r_l2Copy t) rfl ?_ ?_ ?_; iterate 2 (focus (repeat' first | exact trivial | refine ⟨?_, ?_⟩ | exact rfl | exact oR | exact orB rfl | exact oL); (first | done | fail))) | ((first | refine fin_au rfl ?_ | apply WkF.au); (conv => whnf); ((repeat' first | exact trivial | refine ⟨?_, ?_⟩ | exact rfl | exact oR | exact orB rfl | exact oL) <;> (try conv => whnf) <;> (try first | apply cgB | apply cgI | apply cgS | apply cgR | apply cgD | refine cgL ?_) <;> (try (rw [wrap_i64 (by omega) (by omega)]; first | rfl | omega)))) | apply altl))
end Go.Proofs.YthbpdhppelaihaaGreat