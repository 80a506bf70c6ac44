/- The pages of a root, on either side. Conditions: none. -/
import Derived.Test.YthbpdhppelaihaaGreatBL
import Derived.Test.YthbpdhppelaihaaGreatBJ
set_option linter.unusedVariables false
set_option linter.unusedSimpArgs false
namespace Go.Proofs.YthbpdhppelaihaaGreat
open Go.RowKit
attribute [local irreducible] Tri Weak
set_option maxRecDepth 4000
set_option maxHeartbeats 4000000
abbrev dkA (ps : List (List UInt8)) (ss : List Su) : A := agL [.sl .str ps, .sl .su ss]
def Short (ps : List (List UInt8)) : Prop := ∀ x ∈ ps, x.length ≤ 1099511627776
theorem short_get {ps : List (List UInt8)} (h : Short ps) (i : Nat) : (ps.getD i (dflt .str)).length ≤ 1099511627776 := by
 by_cases hi : i < ps.length
 · exact h _ (getD_mem (dflt .str) hi)
 · rw [List.getD_eq_getElem?_getD, List.getElem?_eq_none (by omega)]; simp
theorem pgL_step {f : Int → List Int × Bool} : ∀ {ks : List Int} {i : Nat}, i < ks.length → (pgL f (ks.take i)).2 = true → pgL f (ks.take (i + 1)) = ((pgL f (ks.take i)).1 ++ (f (ks.getD i (dflt .int))).1, (f (ks.getD i (dflt .int))).2) ∧ ((f (ks.getD i (dflt .int))).2 = false → pgL f ks = ((pgL f (ks.take i)).1 ++ (f (ks.getD i (dflt .int))).1, false))
 | [], i, h, _ => by simp at h
 | k :: ks, 0, _, _ => by
   cases hf : f k with
   | mk l o => cases o <;> simp [pgL, hf]
 | k :: ks, i + 1, h, h2 => by
   rw [List.take_succ_cons] at h2
   rw [List.take_succ_cons, List.take_succ_cons]
   cases hf : f k with
   | mk l o =>
     cases o with
     | false => simp [pgL, hf] at h2
     | true =>
       have e : ∀ r, pgL f (k :: r) = (l ++ (pgL f r).1, (pgL f r).2) := fun r => by simp [pgL, hf]
       rw [e] at h2
       obtain ⟨h3, h4⟩ := pgL_step (f := f) (ks := ks) (i := i) (by simpa using h) h2
       have eg : (k :: ks).getD (i + 1) (dflt .int) = ks.getD i (dflt .int) := rfl
       rw [eg, e, e, e, h3]
       refine ⟨by simp, fun hk => ?_⟩
       rw [h4 hk]
       simp
abbrev pgA (o : Bool) : A := .tp [.rw 1, .c (.bool o)]
def pgO (out : List Int) (q : List Int × Bool) : List Int := if q.2 then out ++ q.1 else []
theorem pgF_out {ps : List (List UInt8)} {n : Nat} {r : Int} (h : ¬ (0 ≤ r ∧ r < ps.length)) : pgF ps n r = ([], false) := by
 cases n with
 | zero => rfl
 | succ n => unfold pgF; rw [if_neg h]
theorem pgF_in' {ps : List (List UInt8)} {n : Nat} {r : Int} (h : 0 ≤ r ∧ r < ps.length) : pgF ps (n + 1) r = (r :: (pgL (pgF ps n) (decF (pgT ps r)).2.1).1, (pgL (pgF ps n) (decF (pgT ps r)).2.1).2) := by unfold pgF; rw [if_pos h]
theorem pgB_mono : ∀ {a b : Nat}, a ≤ b → pgB a ≤ pgB b
 | a, b, h => by
   induction h with
   | refl => exact Nat.le_refl _
   | step h ih => simp only [pgB]; omega
theorem pgB_le {n : Nat} (h : n ≤ 7) : pgB n ≤ 5461 := pgB_mono h
theorem r_pagesOf {ps : List (List UInt8)} (ss : List Su) (hs : Short ps) (hpl : ps.length ≤ 1099511627776) : ∀ (n : Nat), n ≤ 7 → ∀ (r : Int),
 (∀ out : List Int, out.length + pgB n ≤ 1073741824 → Ret Tryz.prog 135 [dkA ps ss, aI r, aI n, .rw 0] [(0, .row .int out)] (pgA (pgF ps n r).2) [(0, .gone), (1, .row .int (pgO out (pgF ps n r)))]) ∧
 Ret Tryz.prog 135 [dkA ps ss, aI r, aI n, .nl] [] (.tp [.rw 0, .c (.bool (pgF ps n r).2)]) [(0, .row .int (pgO [] (pgF ps n r)))] := by
 intro n
 have hw : IntKind.i64.wrap ((ps.length : Int) - 1) = (ps.length : Int) - 1 := by rw [wrap_i64 (by omega) (by omega)]
 induction n with
 | zero =>
   intro _ r
   refine ⟨fun out ho => ?_, ?_⟩
   · refine ret_vc hT hM Tryz.func135 rfl rfl (m := 1) (nx := 1) rfl (Nat.le_of_ble_eq_true rfl) ?_
     (repeat' ((conv => whnf); first | (apply nx; intro s) | (apply rg; intro s k) | ((first | refine cas (fun h => ?_) (fun h => ?_) | refine may (fun h => ?_) ?_) <;> (try simp [-List.getD_eq_getElem?_getD] at h)) | (refine giv fun hg => ?_; (try simp only [byE] at hg)) | refine need (by first | kernel_rfl | omega | (simp; done) | (simp; omega)) ?_ | ((first | refine fin_au rfl ?_ | apply WkF.au); (conv => whnf); ((repeat' first | exact trivial | refine ⟨?_, ?_⟩ | exact rfl | exact oR | exact orB rfl | exact oL) <;> (try conv => whnf) <;> (try first | apply cgB | apply cgI | apply cgS | apply cgR | apply cgD | refine cgL ?_) <;> (try (rw [wrap_i64 (by omega) (by omega)]; first | rfl | omega)))) | apply altl))
   · refine ret_vc hT hM Tryz.func135 rfl rfl (m := 0) (nx := 0) rfl (Nat.le_of_ble_eq_true rfl) ?_
     (repeat' ((conv => whnf); first | (apply nx; intro s) | (apply rg; intro s k) | ((first | refine cas (fun h => ?_) (fun h => ?_) | refine may (fun h => ?_) ?_) <;> (try simp [-List.getD_eq_getElem?_getD] at h)) | (refine giv fun hg => ?_; (try simp only [byE] at hg)) | refine need (by first | kernel_rfl | omega | (simp; done) | (simp; omega)) ?_ | ((first | refine fin_au rfl ?_ | apply WkF.au); (conv => whnf); ((repeat' first | exact trivial | refine ⟨?_, ?_⟩ | exact rfl | exact oR | exact orB rfl | exact oL) <;> (try conv => whnf) <;> (try first | apply cgB | apply cgI | apply cgS | apply cgR | apply cgD | refine cgL ?_) <;> (try (rw [wrap_i64 (by omega) (by omega)]; first | rfl | omega)))) | apply altl))
 | succ n ih =>
   intro hn r
   by_cases hr : 0 ≤ r ∧ r < ps.length
   · have hib : inB r 0 ((ps.length : Int) - 1) = true := inB_iff.2 (by omega)
     have hgn := r_implGetNode (ps.getD r.toNat (dflt .str)) (short_get hs _)
     have hks := dec_kids (ps.getD r.toNat (dflt .str))
     rw [pgF_in' hr]
     unfold pgT
     change Ret _ _ _ _ (gnA (decF (ps.getD r.toNat []))) (gnH (decF (ps.getD r.toNat []))) at hgn
     change (decF (ps.getD r.toNat [])).2.1.length ≤ 4 at hks
     generalize decF (ps.getD r.toNat []) = q at *
     obtain ⟨T, ks, ok⟩ := q
     dsimp only at hks hgn ⊢
     have hwn : IntKind.i64.wrap ((n : Int) + 1 - 1) = (n : Int) := by rw [wrap_i64 (by omega) (by omega)]; omega
     have hst := fun i => @pgL_step (pgF ps n) ks i
     have hle := fun k => pgF_le ps n k
     refine ⟨fun out ho => ?_, ?_⟩
     · refine ret_vc hT hM Tryz.func135 rfl rfl (m := 1) (nx := 1) rfl (Nat.le_of_ble_eq_true rfl) ?_
       (repeat' ((conv => whnf); first | (apply nx; intro s) | (apply rg; intro s k) | ((first | refine cas (fun h => ?_) (fun h => ?_) | refine may (fun h => ?_) ?_) <;> (try simp [-List.getD_eq_getElem?_getD, ↓hw, hib] at h)) | (refine giv fun hg => ?_; (try simp only [byE] at hg)) | refine need (by first | kernel_rfl | omega | (simp; done) | (simp; omega)) ?_ | (refine call_p (r_within r 0 _) rfl (by (repeat' first | exact trivial | refine ⟨?_, ?_⟩ | exact rfl | exact oR | exact orB rfl | exact oL); (first | done | fail)) ?_) | (exfalso; omega) | (refine need (by simp only [byE, chunk, List.length_append, List.length_cons, List.length_nil]; omega) ?_) | (refine need (Nat.le_trans (short_get hs _) (by omega)) ?_) | (refine call_f (hgn) ?_ ?_ ?_ ?_; iterate 3 (focus (repeat' first | exact trivial | refine ⟨?_, ?_⟩ | exact rfl | exact oR | exact orB rfl | exact oL); (first | done | fail))) | ((first | refine fin_au rfl ?_ | apply WkF.au); (conv => whnf); ((repeat' first | exact trivial | refine ⟨?_, ?_⟩ | exact rfl | exact oR | exact orB rfl | exact oL) <;> (try conv => whnf) <;> (try first | apply cgB | apply cgI | apply cgS | apply cgR | apply cgD | refine cgL ?_) <;> (try (rw [wrap_i64 (by omega) (by omega)]; first | rfl | omega)))) | apply altl))
       (repeat ((conv => whnf); first | (apply nx; intro s) | (apply rg; intro s k))); (conv => whnf)
       refine Tri.loop (fun q : Nat × List Int => ⟨[(2, aI ((n : Int) + 1)), (3, .rw 3), (4, .pt 1 0), (43, .rw 2), (44, aI ks.length), (45, aI q.1)], [(0, .gone), (1, .box [.c (.sl .str ps), .c (.sl .su ss)]), (2, .row .int ks), (3, .row .int q.2)], 4⟩) (fun q => q.1 ≤ ks.length ∧ (pgL (pgF ps n) (ks.take q.1)).2 = true ∧ q.2 = out ++ r :: (pgL (pgF ps n) (ks.take q.1)).1 ∧ q.2.length ≤ out.length + 1 + q.1 * pgB n) (fun q => ks.length - q.1) (0, out ++ [r]) ⟨Nat.zero_le _, rfl, rfl, by simp⟩ ?_ ?_
       · (apply WkF.au; (conv => whnf); ((repeat' first | exact trivial | refine ⟨?_, ?_⟩ | exact rfl | exact oR | exact orB rfl | exact oL) <;> (try conv => whnf) <;> (try first | apply cgB | apply cgI | apply cgS | apply cgR | apply cgD | refine cgL ?_) <;> (try (rw [wrap_i64 (by omega) (by omega)]; first | rfl | omega))))
       · intro ⟨i, o⟩ ⟨h1, h2, h3, h4⟩
         dsimp only at h1 h2 h3 h4
         refine vc_sound hT hM _ _ _ ?_
         try dsimp only
         by_cases hi : i < ks.length
         · obtain ⟨hs1, hs2⟩ := hst i hi h2
           have hB : i * pgB n + pgB n ≤ 4 * pgB n := by have := Nat.mul_le_mul_right (pgB n) (show i + 1 ≤ 4 by omega); rw [Nat.succ_mul] at this; exact this
           have hsz : o.length + pgB n ≤ 1073741824 := by simp only [pgB] at *; omega
           have hc := (ih (by omega) (ks.getD i (dflt .int))).1 o hsz
           have hlk := hle (ks.getD i (dflt .int))
           rw [← hwn] at hc
           generalize pgF ps n (ks.getD i (dflt .int)) = z at *
           obtain ⟨zl, zo⟩ := z
           cases zo with
           | true =>
             have hnx : (pgL (pgF ps n) (ks.take (i + 1))).2 = true := by rw [hs1]
             have hnl : o ++ zl = out ++ r :: (pgL (pgF ps n) (ks.take (i + 1))).1 := by rw [hs1, h3]; simp
             have hnn : (o ++ zl).length ≤ out.length + 1 + (i + 1) * pgB n := by rw [List.length_append, Nat.succ_mul]; dsimp only at hlk; omega
             simp only [pgO, if_pos] at hc
             (repeat' ((conv => whnf); first | (apply nx; intro s) | (apply rg; intro s k) | ((first | refine cas (fun h => ?_) (fun h => ?_) | refine may (fun h => ?_) ?_) <;> (try simp [-List.getD_eq_getElem?_getD] at h)) | (refine giv fun hg => ?_; (try simp only [byE] at hg)) | refine need (by first | kernel_rfl | omega | (simp; done) | (simp; omega)) ?_ | (exfalso; omega) | (refine call_g [3] (hc) rfl rfl rfl ?_ ?_ ?_ ?_ ?_; iterate 4 (focus (repeat' first | exact trivial | refine ⟨?_, ?_⟩ | exact rfl | exact oR | exact orB rfl | exact oL); (first | done | fail))) | (refine ⟨(i + 1, o ++ zl), ⟨by dsimp only; omega, hnx, hnl, hnn⟩, by dsimp only; omega, ?_⟩) | ((first | refine fin_au rfl ?_ | apply WkF.au); (conv => whnf); ((repeat' first | exact trivial | refine ⟨?_, ?_⟩ | exact rfl | exact oR | exact orB rfl | exact oL) <;> (try conv => whnf) <;> (try first | apply cgB | apply cgI | apply cgS | apply cgR | apply cgD | refine cgL ?_) <;> (try (rw [wrap_i64 (by omega) (by omega)]; first | rfl | omega)))) | apply altl))
           | false =>
             rw [hs2 rfl]
             (repeat' ((conv => whnf); first | (apply nx; intro s) | (apply rg; intro s k) | ((first | refine cas (fun h => ?_) (fun h => ?_) | refine may (fun h => ?_) ?_) <;> (try simp [-List.getD_eq_getElem?_getD] at h)) | (refine giv fun hg => ?_; (try simp only [byE] at hg)) | refine need (by first | kernel_rfl | omega | (simp; done) | (simp; omega)) ?_ | (exfalso; omega) | (refine call_g [3] (hc) rfl rfl rfl ?_ ?_ ?_ ?_ ?_; iterate 4 (focus (repeat' first | exact trivial | refine ⟨?_, ?_⟩ | exact rfl | exact oR | exact orB rfl | exact oL); (first | done | fail))) | ((first | refine fin_au rfl ?_ | apply WkF.au); (conv => whnf); ((repeat' first | exact trivial | refine ⟨?_, ?_⟩ | exact rfl | exact oR | exact orB rfl | exact oL) <;> (try conv => whnf) <;> (try first | apply cgB | apply cgI | apply cgS | apply cgR | apply cgD | refine cgL ?_) <;> (try (rw [wrap_i64 (by omega) (by omega)]; first | rfl | omega)))) | apply altl))
         · rw [List.take_of_length_le (by omega)] at h2 h3
           have hfin : o = pgO out (r :: (pgL (pgF ps n) ks).1, (pgL (pgF ps n) ks).2) := by unfold pgO; rw [if_pos h2]; exact h3
           (repeat' ((conv => whnf); first | (apply nx; intro s) | (apply rg; intro s k) | ((first | refine cas (fun h => ?_) (fun h => ?_) | refine may (fun h => ?_) ?_) <;> (try simp [-List.getD_eq_getElem?_getD] at h)) | (refine giv fun hg => ?_; (try simp only [byE] at hg)) | refine need (by first | kernel_rfl | omega | (simp; done) | (simp; omega)) ?_ | (exfalso; omega) | ((first | refine fin_au rfl ?_ | apply WkF.au); (conv => whnf); ((repeat' first | exact trivial | refine ⟨?_, ?_⟩ | exact rfl | exact oR | exact orB rfl | exact oL) <;> (try conv => whnf) <;> (try first | apply cgB | apply cgI | apply cgS | apply cgR | apply cgD | refine cgL ?_) <;> (try (rw [wrap_i64 (by omega) (by omega)]; first | rfl | omega)))) | apply altl))
           all_goals first
            | exact h2.symm
            | exact hfin
     · have hp7 : pgB (n + 1) ≤ 5461 := pgB_le hn
       refine ret_vc hT hM Tryz.func135 rfl rfl (m := 0) (nx := 0) rfl (Nat.le_of_ble_eq_true rfl) ?_
       (repeat' ((conv => whnf); first | (apply nx; intro s) | (apply rg; intro s k) | ((first | refine cas (fun h => ?_) (fun h => ?_) | refine may (fun h => ?_) ?_) <;> (try simp [-List.getD_eq_getElem?_getD, ↓hw, hib] at h)) | (refine giv fun hg => ?_; (try simp only [byE] at hg)) | refine need (by first | kernel_rfl | omega | (simp; done) | (simp; omega)) ?_ | (refine call_p (r_within r 0 _) rfl (by (repeat' first | exact trivial | refine ⟨?_, ?_⟩ | exact rfl | exact oR | exact orB rfl | exact oL); (first | done | fail)) ?_) | (exfalso; omega) | (refine need (by simp only [byE, chunk, List.length_append, List.length_cons, List.length_nil]; omega) ?_) | (refine need (Nat.le_trans (short_get hs _) (by omega)) ?_) | (refine call_f (hgn) ?_ ?_ ?_ ?_; iterate 3 (focus (repeat' first | exact trivial | refine ⟨?_, ?_⟩ | exact rfl | exact oR | exact orB rfl | exact oL); (first | done | fail))) | ((first | refine fin_au rfl ?_ | apply WkF.au); (conv => whnf); ((repeat' first | exact trivial | refine ⟨?_, ?_⟩ | exact rfl | exact oR | exact orB rfl | exact oL) <;> (try conv => whnf) <;> (try first | apply cgB | apply cgI | apply cgS | apply cgR | apply cgD | refine cgL ?_) <;> (try (rw [wrap_i64 (by omega) (by omega)]; first | rfl | omega)))) | apply altl))
       (repeat ((conv => whnf); first | (apply nx; intro s) | (apply rg; intro s k))); (conv => whnf)
       refine Tri.loop (fun q : Nat × List Int => ⟨[(2, aI ((n : Int) + 1)), (3, .rw 2), (4, .pt 0 0), (43, .rw 1), (44, aI ks.length), (45, aI q.1)], [(0, .box [.c (.sl .str ps), .c (.sl .su ss)]), (1, .row .int ks), (2, .row .int q.2)], 3⟩) (fun q => q.1 ≤ ks.length ∧ (pgL (pgF ps n) (ks.take q.1)).2 = true ∧ q.2 = r :: (pgL (pgF ps n) (ks.take q.1)).1 ∧ q.2.length ≤ 1 + q.1 * pgB n) (fun q => ks.length - q.1) (0, [r]) ⟨Nat.zero_le _, rfl, rfl, by simp⟩ ?_ ?_
       · (apply WkF.au; (conv => whnf); ((repeat' first | exact trivial | refine ⟨?_, ?_⟩ | exact rfl | exact oR | exact orB rfl | exact oL) <;> (try conv => whnf) <;> (try first | apply cgB | apply cgI | apply cgS | apply cgR | apply cgD | refine cgL ?_) <;> (try (rw [wrap_i64 (by omega) (by omega)]; first | rfl | omega))))
       · intro ⟨i, o⟩ ⟨h1, h2, h3, h4⟩
         dsimp only at h1 h2 h3 h4
         refine vc_sound hT hM _ _ _ ?_
         try dsimp only
         by_cases hi : i < ks.length
         · obtain ⟨hs1, hs2⟩ := hst i hi h2
           have hB : i * pgB n + pgB n ≤ 4 * pgB n := by have := Nat.mul_le_mul_right (pgB n) (show i + 1 ≤ 4 by omega); rw [Nat.succ_mul] at this; exact this
           have hsz : o.length + pgB n ≤ 1073741824 := by simp only [pgB, List.length_nil] at *; omega
           have hc := (ih (by omega) (ks.getD i (dflt .int))).1 o hsz
           have hlk := hle (ks.getD i (dflt .int))
           rw [← hwn] at hc
           generalize pgF ps n (ks.getD i (dflt .int)) = z at *
           obtain ⟨zl, zo⟩ := z
           cases zo with
           | true =>
             have hnx : (pgL (pgF ps n) (ks.take (i + 1))).2 = true := by rw [hs1]
             have hnl : o ++ zl = r :: (pgL (pgF ps n) (ks.take (i + 1))).1 := by rw [hs1, h3]; rfl
             have hnn : (o ++ zl).length ≤ 1 + (i + 1) * pgB n := by rw [List.length_append, Nat.succ_mul]; dsimp only at hlk; omega
             simp only [pgO, if_pos] at hc
             (repeat' ((conv => whnf); first | (apply nx; intro s) | (apply rg; intro s k) | ((first | refine cas (fun h => ?_) (fun h => ?_) | refine may (fun h => ?_) ?_) <;> (try simp [-List.getD_eq_getElem?_getD] at h)) | (refine giv fun hg => ?_; (try simp only [byE] at hg)) | refine need (by first | kernel_rfl | omega | (simp; done) | (simp; omega)) ?_ | (exfalso; omega) | (refine call_g [2] (hc) rfl rfl rfl ?_ ?_ ?_ ?_ ?_; iterate 4 (focus (repeat' first | exact trivial | refine ⟨?_, ?_⟩ | exact rfl | exact oR | exact orB rfl | exact oL); (first | done | fail))) | (refine ⟨(i + 1, o ++ zl), ⟨by dsimp only; omega, hnx, hnl, hnn⟩, by dsimp only; omega, ?_⟩) | ((first | refine fin_au rfl ?_ | apply WkF.au); (conv => whnf); ((repeat' first | exact trivial | refine ⟨?_, ?_⟩ | exact rfl | exact oR | exact orB rfl | exact oL) <;> (try conv => whnf) <;> (try first | apply cgB | apply cgI | apply cgS | apply cgR | apply cgD | refine cgL ?_) <;> (try (rw [wrap_i64 (by omega) (by omega)]; first | rfl | omega)))) | apply altl))
           | false =>
             rw [hs2 rfl]
             (repeat' ((conv => whnf); first | (apply nx; intro s) | (apply rg; intro s k) | ((first | refine cas (fun h => ?_) (fun h => ?_) | refine may (fun h => ?_) ?_) <;> (try simp [-List.getD_eq_getElem?_getD] at h)) | (refine giv fun hg => ?_; (try simp only [byE] at hg)) | refine need (by first | kernel_rfl | omega | (simp; done) | (simp; omega)) ?_ | (exfalso; omega) | (refine call_g [2] (hc) rfl rfl rfl ?_ ?_ ?_ ?_ ?_; iterate 4 (focus (repeat' first | exact trivial | refine ⟨?_, ?_⟩ | exact rfl | exact oR | exact orB rfl | exact oL); (first | done | fail))) | ((first | refine fin_au rfl ?_ | apply WkF.au); (conv => whnf); ((repeat' first | exact trivial | refine ⟨?_, ?_⟩ | exact rfl | exact oR | exact orB rfl | exact oL) <;> (try conv => whnf) <;> (try first | apply cgB | apply cgI | apply cgS | apply cgR | apply cgD | refine cgL ?_) <;> (try (rw [wrap_i64 (by omega) (by omega)]; first | rfl | omega)))) | apply altl))
         · rw [List.take_of_length_le (by omega)] at h2 h3
           have hfin : o = pgO [] (r :: (pgL (pgF ps n) ks).1, (pgL (pgF ps n) ks).2) := by unfold pgO; rw [if_pos h2]; exact h3
           (repeat' ((conv => whnf); first | (apply nx; intro s) | (apply rg; intro s k) | ((first | refine cas (fun h => ?_) (fun h => ?_) | refine may (fun h => ?_) ?_) <;> (try simp [-List.getD_eq_getElem?_getD] at h)) | (refine giv fun hg => ?_; (try simp only [byE] at hg)) | refine need (by first | kernel_rfl | omega | (simp; done) | (simp; omega)) ?_ | (exfalso; omega) | ((first | refine fin_au rfl ?_ | apply WkF.au); (conv => whnf); ((repeat' first | exact trivial | refine ⟨?_, ?_⟩ | exact rfl | exact oR | exact orB rfl | exact oL) <;> (try conv => whnf) <;> (try first | apply cgB | apply cgI | apply cgS | apply cgR | apply cgD | refine cgL ?_) <;> (try (rw [wrap_i64 (by omega) (by omega)]; first | rfl | omega)))) | apply altl))
           all_goals first
            | exact h2.symm
            | exact hfin
   · have hib : inB r 0 ((ps.length : Int) - 1) = false := inB_niff.2 (by omega)
     rw [pgF_out hr]
     refine ⟨fun out ho => ?_, ?_⟩
     · refine ret_vc hT hM Tryz.func135 rfl rfl (m := 1) (nx := 1) rfl (Nat.le_of_ble_eq_true rfl) ?_
       (repeat' ((conv => whnf); first | (apply nx; intro s) | (apply rg; intro s k) | ((first | refine cas (fun h => ?_) (fun h => ?_) | refine may (fun h => ?_) ?_) <;> (try simp [-List.getD_eq_getElem?_getD, ↓hw, hib] at h)) | (refine giv fun hg => ?_; (try simp only [byE] at hg)) | refine need (by first | kernel_rfl | omega | (simp; done) | (simp; omega)) ?_ | (refine call_p (r_within r 0 _) rfl (by (repeat' first | exact trivial | refine ⟨?_, ?_⟩ | exact rfl | exact oR | exact orB rfl | exact oL); (first | done | fail)) ?_) | (exfalso; omega) | ((first | refine fin_au rfl ?_ | apply WkF.au); (conv => whnf); ((repeat' first | exact trivial | refine ⟨?_, ?_⟩ | exact rfl | exact oR | exact orB rfl | exact oL) <;> (try conv => whnf) <;> (try first | apply cgB | apply cgI | apply cgS | apply cgR | apply cgD | refine cgL ?_) <;> (try (rw [wrap_i64 (by omega) (by omega)]; first | rfl | omega)))) | apply altl))
     · refine ret_vc hT hM Tryz.func135 rfl rfl (m := 0) (nx := 0) rfl (Nat.le_of_ble_eq_true rfl) ?_
       (repeat' ((conv => whnf); first | (apply nx; intro s) | (apply rg; intro s k) | ((first | refine cas (fun h => ?_) (fun h => ?_) | refine may (fun h => ?_) ?_) <;> (try simp [-List.getD_eq_getElem?_getD, ↓hw, hib] at h)) | (refine giv fun hg => ?_; (try simp only [byE] at hg)) | refine need (by first | kernel_rfl | omega | (simp; done) | (simp; omega)) ?_ | (refine call_p (r_within r 0 _) rfl (by (repeat' first | exact trivial | refine ⟨?_, ?_⟩ | exact rfl | exact oR | exact orB rfl | exact oL); (first | done | fail)) ?_) | (exfalso; omega) | ((first | refine fin_au rfl ?_ | apply WkF.au); (conv => whnf); ((repeat' first | exact trivial | refine ⟨?_, ?_⟩ | exact rfl | exact oR | exact orB rfl | exact oL) <;> (try conv => whnf) <;> (try first | apply cgB | apply cgI | apply cgS | apply cgR | apply cgD | refine cgL ?_) <;> (try (rw [wrap_i64 (by omega) (by omega)]; first | rfl | omega)))) | apply altl))
theorem dec_okk {b : List UInt8} (h : (decF b).2.2 = false) : (decF b).2.1.length = 0 := by rw [dec_bad h]; rfl
theorem r_l6Pages {ps : List (List UInt8)} (ss : List Su) (hs : Short ps) (hpl : ps.length ≤ 1099511627776) : ∀ (n : Nat), n ≤ 7 → ∀ (r : Int) (m : List Bool), m.length = ps.length →
 Ret Tryz.prog 206 [dkA ps ss, aI r, aI n, .rw 0] [(0, .row .bool m)] (.c (.bool (pgF ps n r).2)) [(0, .row .bool (mark (pgF ps n r).1 m))] := by
 intro n
 have hw : IntKind.i64.wrap ((ps.length : Int) - 1) = (ps.length : Int) - 1 := by rw [wrap_i64 (by omega) (by omega)]
 induction n with
 | zero =>
   intro _ r m hm
   refine ret_vc hT hM Tryz.func206 rfl rfl (m := 1) (nx := 1) rfl (Nat.le_of_ble_eq_true rfl) ?_
   (repeat' ((conv => whnf); first | (apply nx; intro s) | (apply rg; intro s k) | ((first | refine cas (fun h => ?_) (fun h => ?_) | refine may (fun h => ?_) ?_) <;> (try simp [-List.getD_eq_getElem?_getD] at h)) | (refine giv fun hg => ?_; (try simp only [byE] at hg)) | refine need (by first | kernel_rfl | omega | (simp; done) | (simp; omega)) ?_ | ((first | refine fin_au rfl ?_ | apply WkF.au); (conv => whnf); ((repeat' first | exact trivial | refine ⟨?_, ?_⟩ | exact rfl | exact oR | exact orB rfl | exact oL) <;> (try conv => whnf) <;> (try first | apply cgB | apply cgI | apply cgS | apply cgR | apply cgD | refine cgL ?_) <;> (try (rw [wrap_i64 (by omega) (by omega)]; first | rfl | omega)))) | apply altl))
 | succ n ih =>
   intro hn r m hm
   by_cases hr : 0 ≤ r ∧ r < ps.length
   · have hib : inB r 0 ((ps.length : Int) - 1) = true := inB_iff.2 (by omega)
     have hgn := r_specGetNode (ps.getD r.toNat (dflt .str)) (short_get hs _)
     have hks := dec_kids (ps.getD r.toNat (dflt .str))
     have hko := @dec_okk (ps.getD r.toNat (dflt .str))
     rw [pgF_in' hr]
     unfold pgT
     change Ret _ _ _ _ (gnA (decF (ps.getD r.toNat []))) (gnH (decF (ps.getD r.toNat []))) at hgn
     change (decF (ps.getD r.toNat [])).2.1.length ≤ 4 at hks
     change (decF (ps.getD r.toNat [])).2.2 = false → (decF (ps.getD r.toNat [])).2.1.length = 0 at hko
     generalize decF (ps.getD r.toNat []) = q at *
     obtain ⟨T, ks, ok⟩ := q
     dsimp only at hks hgn hko ⊢
     have hwn : IntKind.i64.wrap ((n : Int) + 1 - 1) = (n : Int) := by rw [wrap_i64 (by omega) (by omega)]; omega
     have hst := fun i => @pgL_step (pgF ps n) ks i
     refine ret_vc hT hM Tryz.func206 rfl rfl (m := 1) (nx := 1) rfl (Nat.le_of_ble_eq_true rfl) ?_
     (repeat' ((conv => whnf); first | (apply nx; intro s) | (apply rg; intro s k) | ((first | refine cas (fun h => ?_) (fun h => ?_) | refine may (fun h => ?_) ?_) <;> (try simp [-List.getD_eq_getElem?_getD, ↓hw, hib] at h)) | (refine giv fun hg => ?_; (try simp only [byE] at hg)) | refine need (by first | kernel_rfl | omega | (simp; done) | (simp; omega)) ?_ | (refine call_p (r_l1In r 0 _) rfl (by (repeat' first | exact trivial | refine ⟨?_, ?_⟩ | exact rfl | exact oR | exact orB rfl | exact oL); (first | done | fail)) ?_) | (exfalso; omega) | (refine need (by simp only [byE, chunk, List.length_append, List.length_cons, List.length_nil]; omega) ?_) | (refine need (Nat.le_trans (short_get hs _) (by omega)) ?_) | (refine call_f (hgn) ?_ ?_ ?_ ?_; iterate 3 (focus (repeat' first | exact trivial | refine ⟨?_, ?_⟩ | exact rfl | exact oR | exact orB rfl | exact oL); (first | done | fail))) | ((first | refine fin_au rfl ?_ | apply WkF.au); (conv => whnf); ((repeat' first | exact trivial | refine ⟨?_, ?_⟩ | exact rfl | exact oR | exact orB rfl | exact oL) <;> (try conv => whnf) <;> (try first | apply cgB | apply cgI | apply cgS | apply cgR | apply cgD | refine cgL ?_) <;> (try (rw [wrap_i64 (by omega) (by omega)]; first | rfl | omega)))) | apply altl))
     (repeat ((conv => whnf); first | (apply nx; intro s) | (apply rg; intro s k))); (conv => whnf)
     refine Tri.loop (fun q : Nat × List Bool => ⟨[(2, aI ((n : Int) + 1)), (3, .rw 0), (4, .pt 1 0), (10, .rw 2), (11, .c (.bool ok)), (12, aI q.1)], [(0, .row .bool q.2), (1, .box [.c (.sl .str ps), .c (.sl .su ss)]), (2, .row .int ks)], 3⟩) (fun q => q.1 ≤ ks.length ∧ (pgL (pgF ps n) (ks.take q.1)).2 = true ∧ q.2 = mark (r :: (pgL (pgF ps n) (ks.take q.1)).1) m) (fun q => ks.length - q.1) (0, m.set r.toNat true) ⟨Nat.zero_le _, rfl, rfl⟩ ?_ ?_
     · (apply WkF.au; (conv => whnf); ((repeat' first | exact trivial | refine ⟨?_, ?_⟩ | exact rfl | exact oR | exact orB rfl | exact oL) <;> (try conv => whnf) <;> (try first | apply cgB | apply cgI | apply cgS | apply cgR | apply cgD | refine cgL ?_) <;> (try (rw [wrap_i64 (by omega) (by omega)]; first | rfl | omega))))
     · intro ⟨i, o⟩ ⟨h1, h2, h3⟩
       dsimp only at h1 h2 h3
       have hol : o.length = ps.length := by rw [h3, mark_len, hm]
       refine vc_sound hT hM _ _ _ ?_
       try dsimp only
       by_cases hi : i < ks.length
       · obtain ⟨hs1, hs2⟩ := hst i hi h2
         have hokt : ok = true := by
          cases hq : ok with
          | true => rfl
          | false => have := hko hq; omega
         subst hokt
         have hc := ih (by omega) (ks.getD i (dflt .int)) o hol
         rw [← hwn] at hc
         generalize pgF ps n (ks.getD i (dflt .int)) = z at *
         obtain ⟨zl, zo⟩ := z
         have hmk : mark zl o = mark (r :: ((pgL (pgF ps n) (ks.take i)).1 ++ zl)) m := by rw [h3, ← mark_app]; rfl
         cases zo with
         | true =>
           have hnx : (pgL (pgF ps n) (ks.take (i + 1))).2 = true := by rw [hs1]
           have hnl : mark zl o = mark (r :: (pgL (pgF ps n) (ks.take (i + 1))).1) m := by rw [hs1]; exact hmk
           (repeat' ((conv => whnf); first | (apply nx; intro s) | (apply rg; intro s k) | ((first | refine cas (fun h => ?_) (fun h => ?_) | refine may (fun h => ?_) ?_) <;> (try simp [-List.getD_eq_getElem?_getD] at h)) | (refine giv fun hg => ?_; (try simp only [byE] at hg)) | refine need (by first | kernel_rfl | omega | (simp; done) | (simp; omega)) ?_ | (exfalso; omega) | (refine call_g [0] (hc) rfl rfl rfl ?_ ?_ ?_ ?_ ?_; iterate 4 (focus (repeat' first | exact trivial | refine ⟨?_, ?_⟩ | exact rfl | exact oR | exact orB rfl | exact oL); (first | done | fail))) | (refine ⟨(i + 1, mark zl o), ⟨by dsimp only; omega, hnx, hnl⟩, by dsimp only; omega, ?_⟩) | ((first | refine fin_au rfl ?_ | apply WkF.au); (conv => whnf); ((repeat' first | exact trivial | refine ⟨?_, ?_⟩ | exact rfl | exact oR | exact orB rfl | exact oL) <;> (try conv => whnf) <;> (try first | apply cgB | apply cgI | apply cgS | apply cgR | apply cgD | refine cgL ?_) <;> (try (rw [wrap_i64 (by omega) (by omega)]; first | rfl | omega)))) | apply altl))
         | false =>
           rw [hs2 rfl]
           (repeat' ((conv => whnf); first | (apply nx; intro s) | (apply rg; intro s k) | ((first | refine cas (fun h => ?_) (fun h => ?_) | refine may (fun h => ?_) ?_) <;> (try simp [-List.getD_eq_getElem?_getD] at h)) | (refine giv fun hg => ?_; (try simp only [byE] at hg)) | refine need (by first | kernel_rfl | omega | (simp; done) | (simp; omega)) ?_ | (exfalso; omega) | (refine call_g [0] (hc) rfl rfl rfl ?_ ?_ ?_ ?_ ?_; iterate 4 (focus (repeat' first | exact trivial | refine ⟨?_, ?_⟩ | exact rfl | exact oR | exact orB rfl | exact oL); (first | done | fail))) | ((first | refine fin_au rfl ?_ | apply WkF.au); (conv => whnf); ((repeat' first | exact trivial | refine ⟨?_, ?_⟩ | exact rfl | exact oR | exact orB rfl | exact oL) <;> (try conv => whnf) <;> (try first | apply cgB | apply cgI | apply cgS | apply cgR | apply cgD | refine cgL ?_) <;> (try (rw [wrap_i64 (by omega) (by omega)]; first | rfl | omega)))) | apply altl))
           all_goals exact hmk
       · rw [List.take_of_length_le (by omega)] at h2 h3
         (repeat' ((conv => whnf); first | (apply nx; intro s) | (apply rg; intro s k) | ((first | refine cas (fun h => ?_) (fun h => ?_) | refine may (fun h => ?_) ?_) <;> (try simp [-List.getD_eq_getElem?_getD] at h)) | (refine giv fun hg => ?_; (try simp only [byE] at hg)) | refine need (by first | kernel_rfl | omega | (simp; done) | (simp; omega)) ?_ | (exfalso; omega) | ((first | refine fin_au rfl ?_ | apply WkF.au); (conv => whnf); ((repeat' first | exact trivial | refine ⟨?_, ?_⟩ | exact rfl | exact oR | exact orB rfl | exact oL) <;> (try conv => whnf) <;> (try first | apply cgB | apply cgI | apply cgS | apply cgR | apply cgD | refine cgL ?_) <;> (try (rw [wrap_i64 (by omega) (by omega)]; first | rfl | omega)))) | apply altl))
         all_goals first
          | exact h2.symm
          | exact h3
   · have hib : inB r 0 ((ps.length : Int) - 1) = false := inB_niff.2 (by omega)
     rw [pgF_out hr]
     refine ret_vc hT hM Tryz.func206 rfl rfl (m := 1) (nx := 1) rfl (Nat.le_of_ble_eq_true rfl) ?_
     (repeat' ((conv => whnf); first | (apply nx; intro s) | (apply rg; intro s k) | ((first | refine cas (fun h => ?_) (fun h => ?_) | refine may (fun h => ?_) ?_) <;> (try simp [-List.getD_eq_getElem?_getD, ↓hw, hib] at h)) | (refine giv fun hg => ?_; (try simp only [byE] at hg)) | refine need (by first | kernel_rfl | omega | (simp; done) | (simp; omega)) ?_ | (refine call_p (r_l1In r 0 _) rfl (by (repeat' first | exact trivial | refine ⟨?_, ?_⟩ | exact rfl | exact oR | exact orB rfl | exact oL); (first | done | fail)) ?_) | (exfalso; omega) | ((first | refine fin_au rfl ?_ | apply WkF.au); (conv => whnf); ((repeat' first | exact trivial | refine ⟨?_, ?_⟩ | exact rfl | exact oR | exact orB rfl | exact oL) <;> (try conv => whnf) <;> (try first | apply cgB | apply cgI | apply cgS | apply cgR | apply cgD | refine cgL ?_) <;> (try (rw [wrap_i64 (by omega) (by omega)]; first | rfl | omega)))) | apply altl))
end Go.Proofs.YthbpdhppelaihaaGreat