/- Trees read from a disk, and what is opened: the program. Conditions: none. -/
import Derived.Test.YthbpdhppelaihaaGreatBR
set_option linter.unusedVariables false
set_option linter.unusedSimpArgs false
namespace Go.Proofs.YthbpdhppelaihaaGreat
open Go.RowKit
attribute [local irreducible] Tri Weak
set_option maxRecDepth 4000
set_option maxHeartbeats 4000000
theorem dec_kidsR (b : List UInt8) : (decF b).1.kids = List.replicate (decF b).2.1.length Tr0 := by
 have h := dec_kidsT b
 cases hd : decO b with
 | none => rw [decF_none hd]; rfl
 | some p =>
   obtain ⟨t, ks⟩ := p
   rw [decF_some hd] at h ⊢
   unfold bare at h ⊢
   dsimp only at h ⊢
   rw [List.length_replicate] at h
   rw [h]
theorem rdL_some {f : Int → Option Tr} : ∀ {ks : List Int} {i : Nat} {ts : List Tr} {x : Tr}, i < ks.length → rdL f (ks.take i) = some ts → f (ks.getD i (dflt .int)) = some x → rdL f (ks.take (i + 1)) = some (ts ++ [x])
 | [], i, _, _, h, _, _ => by simp at h
 | k :: ks, 0, ts, x, _, h, hx => by
   rw [List.take_zero] at h
   simp only [rdL, Option.some.injEq] at h
   subst h
   rw [List.take_succ_cons, List.take_zero]
   simp only [rdL, show f k = some x from hx, List.nil_append]
 | k :: ks, i + 1, ts, x, hi, h, hx => by
   rw [List.take_succ_cons] at h ⊢
   simp only [rdL] at h ⊢
   cases h1 : f k with
   | none => rw [h1] at h; simp at h
   | some t =>
     rw [h1] at h
     cases h2 : rdL f (ks.take i) with
     | none => rw [h2] at h; simp at h
     | some us =>
       rw [h2] at h
       simp only [Option.some.injEq] at h
       rw [rdL_some (by simpa using hi) h2 hx, ← h]
       rfl
theorem rdL_none {f : Int → Option Tr} : ∀ {ks : List Int} {i : Nat}, i < ks.length → f (ks.getD i (dflt .int)) = none → rdL f ks = none
 | [], i, h, _ => by simp at h
 | k :: ks, 0, _, hx => by simp only [rdL, show f k = none from hx]
 | k :: ks, i + 1, hi, hx => by
   simp only [rdL]
   rw [rdL_none (ks := ks) (i := i) (by simpa using hi) hx]
   cases f k <;> rfl
abbrev optA (o : Option Tr) : A := .tp [agE .tr (o.getD Tr0), .c (.bool o.isSome)]
theorem fill_one (ts : List Tr) (x : Tr) {n i : Nat} (h : ts.length = i) (hi : i < n) : (ts ++ List.replicate (n - i) Tr0).set i x = (ts ++ [x]) ++ List.replicate (n - (i + 1)) Tr0 := by
 subst h
 rw [List.set_append_right _ _ (Nat.le_refl _), Nat.sub_self, show n - ts.length = (n - (ts.length + 1)) + 1 by omega, List.replicate_succ, List.set_cons_zero, List.append_assoc]
 rfl
theorem rdT_no {ps : List (List UInt8)} {n : Nat} {r : Int} (h : ¬ ((0 ≤ r ∧ r < ps.length) ∧ (decF (pgT ps r)).2.2 = true)) : rdT ps n r = none := by
 cases n with
 | zero => rfl
 | succ n => unfold rdT; rw [if_neg h]
theorem rdT_yes {ps : List (List UInt8)} {n : Nat} {r : Int} (h : (0 ≤ r ∧ r < ps.length) ∧ (decF (pgT ps r)).2.2 = true) : rdT ps (n + 1) r = (rdL (rdT ps n) (decF (pgT ps r)).2.1).map fun ks => ⟨(decF (pgT ps r)).1.leaf, (decF (pgT ps r)).1.pairs, (decF (pgT ps r)).1.cuts, ks, (decF (pgT ps r)).1.buf⟩ := by conv => lhs; unfold rdT; rw [if_pos h]
theorem r_readTree {ps : List (List UInt8)} (ss : List Su) (hs : Short ps) (hpl : ps.length ≤ 1099511627776) : ∀ (n : Nat), n ≤ 7 → ∀ (r : Int), Ret Tryz.prog 209 [dkA ps ss, aI r, aI n] [] (optA (rdT ps n r)) [] := by
 intro n
 have hw : IntKind.i64.wrap ((ps.length : Int) - 1) = (ps.length : Int) - 1 := by rw [wrap_i64 (by omega) (by omega)]
 induction n with
 | zero =>
   intro _ r
   show Ret _ _ _ _ (optA none) _
   refine ret_vc hT hM Tryz.func209 rfl rfl (m := 0) (nx := 0) rfl (Nat.le_of_ble_eq_true rfl) ?_
   (repeat' ((conv => whnf); first | (apply nx; intro s) | (apply rg; intro s k) | ((first | refine cas (fun h => ?_) (fun h => ?_) | refine may (fun h => ?_) ?_) <;> (try simp [-List.getD_eq_getElem?_getD] at h)) | (refine giv fun hg => ?_; (try simp only [byE] at hg)) | refine need (by first | kernel_rfl | omega | (simp; done) | (simp; omega)) ?_ | ((first | refine fin_au rfl ?_ | apply WkF.au); (conv => whnf); ((repeat' first | exact trivial | refine ⟨?_, ?_⟩ | exact rfl | exact oR | exact orB rfl | exact oL) <;> (try conv => whnf) <;> (try first | apply cgB | apply cgI | apply cgS | apply cgR | apply cgD | refine cgL ?_) <;> (try (rw [wrap_i64 (by omega) (by omega)]; first | rfl | omega)))) | apply altl))
 | succ n ih =>
   intro hn r
   by_cases hr : 0 ≤ r ∧ r < ps.length
   · have hib : inB r 0 ((ps.length : Int) - 1) = true := inB_iff.2 (by omega)
     have hgn := r_implGetNode (ps.getD r.toNat (dflt .str)) (short_get hs _)
     have hks := dec_kids (ps.getD r.toNat (dflt .str))
     have hkr := dec_kidsR (ps.getD r.toNat (dflt .str))
     have hye := @rdT_yes ps n r
     have hno := @rdT_no ps (n + 1) r
     unfold pgT at hye hno
     change Ret _ _ _ _ (gnA (decF (ps.getD r.toNat []))) (gnH (decF (ps.getD r.toNat []))) at hgn
     change (decF (ps.getD r.toNat [])).2.1.length ≤ 4 at hks
     change (decF (ps.getD r.toNat [])).1.kids = List.replicate (decF (ps.getD r.toNat [])).2.1.length Tr0 at hkr
     generalize decF (ps.getD r.toNat []) = q at *
     obtain ⟨⟨tl, tp, tc, tk, tb⟩, ks, ok⟩ := q
     dsimp only at hks hgn hkr hye hno
     have hwn : IntKind.i64.wrap ((n : Int) + 1 - 1) = (n : Int) := by rw [wrap_i64 (by omega) (by omega)]; omega
     cases ok with
     | false =>
       rw [hno (by simp)]
       refine ret_vc hT hM Tryz.func209 rfl rfl (m := 0) (nx := 0) rfl (Nat.le_of_ble_eq_true rfl) ?_
       (repeat' ((conv => whnf); first | (apply nx; intro s) | (apply rg; intro s k) | ((first | refine cas (fun h => ?_) (fun h => ?_) | refine may (fun h => ?_) ?_) <;> (try simp [-List.getD_eq_getElem?_getD, ↓hw, hib] at h)) | (refine giv fun hg => ?_; (try simp only [byE] at hg)) | refine need (by first | kernel_rfl | omega | (simp; done) | (simp; omega)) ?_ | (refine call_p (r_within r 0 _) rfl (by (repeat' first | exact trivial | refine ⟨?_, ?_⟩ | exact rfl | exact oR | exact orB rfl | exact oL); (first | done | fail)) ?_) | (exfalso; omega) | (refine need (Nat.le_trans (short_get hs _) (by omega)) ?_) | (refine call_f (hgn) ?_ ?_ ?_ ?_; iterate 3 (focus (repeat' first | exact trivial | refine ⟨?_, ?_⟩ | exact rfl | exact oR | exact orB rfl | exact oL); (first | done | fail))) | ((first | refine fin_au rfl ?_ | apply WkF.au); (conv => whnf); ((repeat' first | exact trivial | refine ⟨?_, ?_⟩ | exact rfl | exact oR | exact orB rfl | exact oL) <;> (try conv => whnf) <;> (try first | apply cgB | apply cgI | apply cgS | apply cgR | apply cgD | refine cgL ?_) <;> (try (rw [wrap_i64 (by omega) (by omega)]; first | rfl | omega)))) | apply altl))
     | true =>
       rw [hye ⟨hr, rfl⟩]
       subst hkr
       have hsm := fun i => @rdL_some (rdT ps n) ks i
       have hnn := fun i => @rdL_none (rdT ps n) ks i
       refine ret_vc hT hM Tryz.func209 rfl rfl (m := 0) (nx := 0) rfl (Nat.le_of_ble_eq_true rfl) ?_
       (repeat' ((conv => whnf); first | (apply nx; intro s) | (apply rg; intro s k) | ((first | refine cas (fun h => ?_) (fun h => ?_) | refine may (fun h => ?_) ?_) <;> (try simp [-List.getD_eq_getElem?_getD, ↓hw, hib] at h)) | (refine giv fun hg => ?_; (try simp only [byE] at hg)) | refine need (by first | kernel_rfl | omega | (simp; done) | (simp; omega)) ?_ | (refine call_p (r_within r 0 _) rfl (by (repeat' first | exact trivial | refine ⟨?_, ?_⟩ | exact rfl | exact oR | exact orB rfl | exact oL); (first | done | fail)) ?_) | (exfalso; omega) | (refine need (Nat.le_trans (short_get hs _) (by omega)) ?_) | (refine call_f (hgn) ?_ ?_ ?_ ?_; iterate 3 (focus (repeat' first | exact trivial | refine ⟨?_, ?_⟩ | exact rfl | exact oR | exact orB rfl | exact oL); (first | done | fail))) | ((first | refine fin_au rfl ?_ | apply WkF.au); (conv => whnf); ((repeat' first | exact trivial | refine ⟨?_, ?_⟩ | exact rfl | exact oR | exact orB rfl | exact oL) <;> (try conv => whnf) <;> (try first | apply cgB | apply cgI | apply cgS | apply cgR | apply cgD | refine cgL ?_) <;> (try (rw [wrap_i64 (by omega) (by omega)]; first | rfl | omega)))) | apply altl))
       (repeat ((conv => whnf); first | (apply nx; intro s) | (apply rg; intro s k))); (conv => whnf)
       refine Tri.loop (fun q : Nat × List Tr => ⟨[(2, aI ((n : Int) + 1)), (3, .pt 0 0), (6, .pt 1 0), (8, .pt 2 0), (41, .rw 7), (42, aI ks.length), (43, aI q.1)], [(0, .box [.c (.sl .str ps), .c (.sl .su ss)]), (1, .box [.kb false, .nl, .nl, .nl, .nl]), (2, .box [.c (.bool tl), .rw 3, .rw 4, .rw 5, .rw 6]), (3, .row .pr tp), (4, .row .int tc), (5, .row .tr (q.2 ++ List.replicate (ks.length - q.1) Tr0)), (6, .row .ms tb), (7, .row .int ks)], 8⟩) (fun q => q.1 ≤ ks.length ∧ q.2.length = q.1 ∧ rdL (rdT ps n) (ks.take q.1) = some q.2) (fun q => ks.length - q.1) (0, []) ⟨Nat.zero_le _, rfl, rfl⟩ ?_ ?_
       · (apply WkF.au; (conv => whnf); ((repeat' first | exact trivial | refine ⟨?_, ?_⟩ | exact rfl | exact oR | exact orB rfl | exact oL) <;> (try conv => whnf) <;> (try first | apply cgB | apply cgI | apply cgS | apply cgR | apply cgD | refine cgL ?_) <;> (try (rw [wrap_i64 (by omega) (by omega)]; first | rfl | omega))))
       · intro ⟨i, ts⟩ ⟨h1, h2, h3⟩
         dsimp only at h1 h2 h3
         refine vc_sound hT hM _ _ _ ?_
         try dsimp only
         by_cases hi : i < ks.length
         · have hc := ih (by omega) (ks.getD i (dflt .int))
           rw [← hwn] at hc
           have hfl := fun x => @fill_one ts x ks.length i h2 hi
           cases hx : rdT ps n (ks.getD i (dflt .int)) with
           | none =>
             rw [hnn i hi hx]
             rw [hx] at hc
             (repeat' ((conv => whnf); first | (apply nx; intro s) | (apply rg; intro s k) | ((first | refine cas (fun h => ?_) (fun h => ?_) | refine may (fun h => ?_) ?_) <;> (try simp [-List.getD_eq_getElem?_getD] at h)) | (refine giv fun hg => ?_; (try simp only [byE] at hg)) | refine need (by first | kernel_rfl | omega | (simp; done) | (simp; omega)) ?_ | (exfalso; omega) | (refine call_p (hc) rfl (by (repeat' first | exact trivial | refine ⟨?_, ?_⟩ | exact rfl | exact oR | exact orB rfl | exact oL); (first | done | fail)) ?_) | ((first | refine fin_au rfl ?_ | apply WkF.au); (conv => whnf); ((repeat' first | exact trivial | refine ⟨?_, ?_⟩ | exact rfl | exact oR | exact orB rfl | exact oL) <;> (try conv => whnf) <;> (try first | apply cgB | apply cgI | apply cgS | apply cgR | apply cgD | refine cgL ?_) <;> (try (rw [wrap_i64 (by omega) (by omega)]; first | rfl | omega)))) | apply altl))
           | some x =>
             have hnx := hsm i hi h3 hx
             rw [hx] at hc
             (repeat' ((conv => whnf); first | (apply nx; intro s) | (apply rg; intro s k) | ((first | refine cas (fun h => ?_) (fun h => ?_) | refine may (fun h => ?_) ?_) <;> (try simp [-List.getD_eq_getElem?_getD] at h)) | (refine giv fun hg => ?_; (try simp only [byE] at hg)) | refine need (by first | kernel_rfl | omega | (simp; done) | (simp; omega)) ?_ | (exfalso; omega) | (refine call_p (hc) rfl (by (repeat' first | exact trivial | refine ⟨?_, ?_⟩ | exact rfl | exact oR | exact orB rfl | exact oL); (first | done | fail)) ?_) | (refine need (by simp only [List.length_append, List.length_replicate]; omega) ?_) | (refine ⟨(i + 1, ts ++ [x]), ⟨by dsimp only; omega, by simp [h2], hnx⟩, by dsimp only; omega, ?_⟩) | ((first | refine fin_au rfl ?_ | apply WkF.au); (conv => whnf); ((repeat' first | exact trivial | refine ⟨?_, ?_⟩ | exact rfl | exact oR | exact orB rfl | exact oL) <;> (try conv => whnf) <;> (try first | apply cgB | apply cgI | apply cgS | apply cgR | apply cgD | refine cgL ?_) <;> (try (rw [wrap_i64 (by omega) (by omega)]; first | rfl | omega)))) | apply altl))
             all_goals (cases x; exact hfl _)
         · rw [List.take_of_length_le (by omega)] at h3
           rw [h3]
           (repeat' ((conv => whnf); first | (apply nx; intro s) | (apply rg; intro s k) | ((first | refine cas (fun h => ?_) (fun h => ?_) | refine may (fun h => ?_) ?_) <;> (try simp [-List.getD_eq_getElem?_getD] at h)) | (refine giv fun hg => ?_; (try simp only [byE] at hg)) | refine need (by first | kernel_rfl | omega | (simp; done) | (simp; omega)) ?_ | (exfalso; omega) | ((first | refine fin_au rfl ?_ | apply WkF.au); (conv => whnf); ((repeat' first | exact trivial | refine ⟨?_, ?_⟩ | exact rfl | exact oR | exact orB rfl | exact oL) <;> (try conv => whnf) <;> (try first | apply cgB | apply cgI | apply cgS | apply cgR | apply cgD | refine cgL ?_) <;> (try (rw [wrap_i64 (by omega) (by omega)]; first | rfl | omega)))) | apply altl))
           all_goals (rw [show ks.length - i = 0 by omega]; simp)
   · have hib : inB r 0 ((ps.length : Int) - 1) = false := inB_niff.2 (by omega)
     rw [rdT_no fun h => hr h.1]
     refine ret_vc hT hM Tryz.func209 rfl rfl (m := 0) (nx := 0) rfl (Nat.le_of_ble_eq_true rfl) ?_
     (repeat' ((conv => whnf); first | (apply nx; intro s) | (apply rg; intro s k) | ((first | refine cas (fun h => ?_) (fun h => ?_) | refine may (fun h => ?_) ?_) <;> (try simp [-List.getD_eq_getElem?_getD, ↓hw, hib] at h)) | (refine giv fun hg => ?_; (try simp only [byE] at hg)) | refine need (by first | kernel_rfl | omega | (simp; done) | (simp; omega)) ?_ | (refine call_p (r_within r 0 _) rfl (by (repeat' first | exact trivial | refine ⟨?_, ?_⟩ | exact rfl | exact oR | exact orB rfl | exact oL); (first | done | fail)) ?_) | (exfalso; omega) | ((first | refine fin_au rfl ?_ | apply WkF.au); (conv => whnf); ((repeat' first | exact trivial | refine ⟨?_, ?_⟩ | exact rfl | exact oR | exact orB rfl | exact oL) <;> (try conv => whnf) <;> (try first | apply cgB | apply cgI | apply cgS | apply cgR | apply cgD | refine cgL ?_) <;> (try (rw [wrap_i64 (by omega) (by omega)]; first | rfl | omega)))) | apply altl))
noncomputable def rdR (ps : List (List UInt8)) (r : Int) : Option Tr := match rdT ps 7 r with
 | some t => if okT t then some t else none
 | none => none
theorem r_ReadTree {ps : List (List UInt8)} (ss : List Su) (hs : Short ps) (hpl : ps.length ≤ 1099511627776) (r : Int) : Ret Tryz.prog 142 [dkA ps ss, aI r] [] (optA (rdR ps r)) [] := by
 have hc := r_readTree ss hs hpl 7 (by omega) r
 unfold rdR
 cases hx : rdT ps 7 r with
 | none =>
   rw [hx] at hc
   refine ret_vc hT hM Tryz.func142 rfl rfl (m := 0) (nx := 0) rfl (Nat.le_of_ble_eq_true rfl) ?_
   (repeat' ((conv => whnf); first | (apply nx; intro s) | (apply rg; intro s k) | ((first | refine cas (fun h => ?_) (fun h => ?_) | refine may (fun h => ?_) ?_) <;> (try simp [-List.getD_eq_getElem?_getD] at h)) | (refine giv fun hg => ?_; (try simp only [byE] at hg)) | refine need (by first | kernel_rfl | omega | (simp; done) | (simp; omega)) ?_ | (refine call_p (hc) rfl (by (repeat' first | exact trivial | refine ⟨?_, ?_⟩ | exact rfl | exact oR | exact orB rfl | exact oL); (first | done | fail)) ?_) | ((first | refine fin_au rfl ?_ | apply WkF.au); (conv => whnf); ((repeat' first | exact trivial | refine ⟨?_, ?_⟩ | exact rfl | exact oR | exact orB rfl | exact oL) <;> (try conv => whnf) <;> (try first | apply cgB | apply cgI | apply cgS | apply cgR | apply cgD | refine cgL ?_) <;> (try (rw [wrap_i64 (by omega) (by omega)]; first | rfl | omega)))) | apply altl))
 | some t =>
   rw [hx] at hc
   have hto := r_implTreeOk t
   dsimp only
   cases hok : okT t with
   | false =>
     rw [if_neg (by decide)]
     refine ret_vc hT hM Tryz.func142 rfl rfl (m := 0) (nx := 0) rfl (Nat.le_of_ble_eq_true rfl) ?_
     (repeat' ((conv => whnf); first | (apply nx; intro s) | (apply rg; intro s k) | ((first | refine cas (fun h => ?_) (fun h => ?_) | refine may (fun h => ?_) ?_) <;> (try simp [-List.getD_eq_getElem?_getD, hok] at h)) | (refine giv fun hg => ?_; (try simp only [byE] at hg)) | refine need (by first | kernel_rfl | omega | (simp; done) | (simp; omega)) ?_ | (refine call_p (hc) rfl (by (repeat' first | exact trivial | refine ⟨?_, ?_⟩ | exact rfl | exact oR | exact orB rfl | exact oL); (first | done | fail)) ?_) | (refine call_p (hto) rfl (by (repeat' first | exact trivial | refine ⟨?_, ?_⟩ | exact rfl | exact oR | exact orB rfl | exact oL); (first | done | fail)) ?_) | ((first | refine fin_au rfl ?_ | apply WkF.au); (conv => whnf); ((repeat' first | exact trivial | refine ⟨?_, ?_⟩ | exact rfl | exact oR | exact orB rfl | exact oL) <;> (try conv => whnf) <;> (try first | apply cgB | apply cgI | apply cgS | apply cgR | apply cgD | refine cgL ?_) <;> (try (rw [wrap_i64 (by omega) (by omega)]; first | rfl | omega)))) | apply altl))
   | true =>
     rw [if_pos rfl]
     refine ret_vc hT hM Tryz.func142 rfl rfl (m := 0) (nx := 0) rfl (Nat.le_of_ble_eq_true rfl) ?_
     (repeat' ((conv => whnf); first | (apply nx; intro s) | (apply rg; intro s k) | ((first | refine cas (fun h => ?_) (fun h => ?_) | refine may (fun h => ?_) ?_) <;> (try simp [-List.getD_eq_getElem?_getD, hok] at h)) | (refine giv fun hg => ?_; (try simp only [byE] at hg)) | refine need (by first | kernel_rfl | omega | (simp; done) | (simp; omega)) ?_ | (refine call_p (hc) rfl (by (repeat' first | exact trivial | refine ⟨?_, ?_⟩ | exact rfl | exact oR | exact orB rfl | exact oL); (first | done | fail)) ?_) | (refine call_p (hto) rfl (by (repeat' first | exact trivial | refine ⟨?_, ?_⟩ | exact rfl | exact oR | exact orB rfl | exact oL); (first | done | fail)) ?_) | ((first | refine fin_au rfl ?_ | apply WkF.au); (conv => whnf); ((repeat' first | exact trivial | refine ⟨?_, ?_⟩ | exact rfl | exact oR | exact orB rfl | exact oL) <;> (try conv => whnf) <;> (try first | apply cgB | apply cgI | apply cgS | apply cgR | apply cgD | refine cgL ?_) <;> (try (rw [wrap_i64 (by omega) (by omega)]; first | rfl | omega)))) | apply altl))
noncomputable def opG (ps : List (List UInt8)) : List Su → Tr × Int → Tr × Int
 | [], q => q
 | s :: ss, q => opG ps ss (if q.2 < s.ver then match rdR ps s.root with
   | some t => (t, s.ver)
   | none => q else q)
noncomputable def opF (ps : List (List UInt8)) (ss : List Su) : Tr × Int × Bool := if (opG ps ss (Tr0, 0)).2 = 0 then (Tr0, 0, false) else ((opG ps ss (Tr0, 0)).1, (opG ps ss (Tr0, 0)).2, true)
theorem r_Open {ps : List (List UInt8)} (ss : List Su) (hs : Short ps) (hpl : ps.length ≤ 1099511627776) : Ret Tryz.prog 48 [dkA ps ss] [] (.tp [agE .tr (opF ps ss).1, aI (opF ps ss).2.1, .c (.bool (opF ps ss).2.2)]) [] := by
 unfold opF
 have hst : ∀ i q, i < ss.length → opG ps (ss.drop i) q = opG ps (ss.drop (i + 1)) (if q.2 < (ss.getD i (dflt .su)).ver then match rdR ps (ss.getD i (dflt .su)).root with
  | some t => (t, (ss.getD i (dflt .su)).ver)
  | none => q else q) := fun i q hi => by rw [drop_getD hi (dflt .su)]; rfl
 have hen : ∀ i q, ss.length ≤ i → opG ps (ss.drop i) q = q := fun i q hi => by rw [List.drop_of_length_le hi]; rfl
 generalize hfin : opG ps ss (Tr0, 0) = fin at *
 have hI0 : opG ps (ss.drop 0) (Tr0, 0) = fin := hfin
 clear hfin
 refine ret_vc hT hM Tryz.func48 rfl rfl (m := 0) (nx := 0) rfl (Nat.le_of_ble_eq_true rfl) ?_
 (repeat' ((conv => whnf); first | (apply nx; intro s) | (apply rg; intro s k) | ((first | refine cas (fun h => ?_) (fun h => ?_) | refine may (fun h => ?_) ?_) <;> (try simp [-List.getD_eq_getElem?_getD] at h)) | (refine giv fun hg => ?_; (try simp only [byE] at hg)) | refine need (by first | kernel_rfl | omega | (simp; done) | (simp; omega)) ?_ | ((first | refine fin_au rfl ?_ | apply WkF.au); (conv => whnf); ((repeat' first | exact trivial | refine ⟨?_, ?_⟩ | exact rfl | exact oR | exact orB rfl | exact oL) <;> (try conv => whnf) <;> (try first | apply cgB | apply cgI | apply cgS | apply cgR | apply cgD | refine cgL ?_) <;> (try (rw [wrap_i64 (by omega) (by omega)]; first | rfl | omega)))) | apply altl))
 (repeat ((conv => whnf); first | (apply nx; intro s) | (apply rg; intro s k))); (conv => whnf)
 refine Tri.loop (fun q : Nat × Tr × Int => ⟨[(1, .pt 0 0), (2, .pt 1 0), (5, .pt 2 0), (6, aI q.2.2), (13, aL .su ss), (14, aI ss.length), (15, aI q.1)], [(0, .box [.c (.sl .str ps), .c (.sl .su ss)]), (1, .box [.kb false, .nl, .nl, .nl, .nl]), (2, .box ((cells .tr q.2.1).map .c))], 3⟩) (fun q => q.1 ≤ ss.length ∧ opG ps (ss.drop q.1) q.2 = fin) (fun q => ss.length - q.1) (0, Tr0, 0) ⟨Nat.zero_le _, hI0⟩ ?_ ?_
 · (apply WkF.au; (conv => whnf); ((repeat' first | exact trivial | refine ⟨?_, ?_⟩ | exact rfl | exact oR | exact orB rfl | exact oL) <;> (try conv => whnf) <;> (try first | apply cgB | apply cgI | apply cgS | apply cgR | apply cgD | refine cgL ?_) <;> (try (rw [wrap_i64 (by omega) (by omega)]; first | rfl | omega))))
 · intro ⟨i, b, v⟩ ⟨h1, h2⟩
   dsimp only at h1 h2
   refine vc_sound hT hM _ _ _ ?_
   try dsimp only
   by_cases hi : i < ss.length
   · rw [hst i _ hi] at h2
     dsimp only at h2
     have hc := r_ReadTree ss hs hpl (ss.getD i (dflt .su)).root
     by_cases hv : v < (ss.getD i (dflt .su)).ver
     · rw [if_pos hv] at h2
       cases hx : rdR ps (ss.getD i (dflt .su)).root with
       | none =>
         rw [hx] at hc h2
         dsimp only at h2
         (repeat' ((conv => whnf); first | (apply nx; intro s) | (apply rg; intro s k) | ((first | refine cas (fun h => ?_) (fun h => ?_) | refine may (fun h => ?_) ?_) <;> (try simp [-List.getD_eq_getElem?_getD] at h)) | (refine giv fun hg => ?_; (try simp only [byE] at hg)) | refine need (by first | kernel_rfl | omega | (simp; done) | (simp; omega)) ?_ | (exfalso; omega) | (refine call_p (hc) rfl (by (repeat' first | exact trivial | refine ⟨?_, ?_⟩ | exact rfl | exact oR | exact orB rfl | exact oL); (first | done | fail)) ?_) | (refine ⟨(i + 1, b, v), ⟨by dsimp only; omega, h2⟩, by dsimp only; omega, ?_⟩) | ((first | refine fin_au rfl ?_ | apply WkF.au); (conv => whnf); ((repeat' first | exact trivial | refine ⟨?_, ?_⟩ | exact rfl | exact oR | exact orB rfl | exact oL) <;> (try conv => whnf) <;> (try first | apply cgB | apply cgI | apply cgS | apply cgR | apply cgD | refine cgL ?_) <;> (try (rw [wrap_i64 (by omega) (by omega)]; first | rfl | omega)))) | apply altl))
       | some t =>
         rw [hx] at hc h2
         dsimp only at h2
         (repeat' ((conv => whnf); first | (apply nx; intro s) | (apply rg; intro s k) | ((first | refine cas (fun h => ?_) (fun h => ?_) | refine may (fun h => ?_) ?_) <;> (try simp [-List.getD_eq_getElem?_getD] at h)) | (refine giv fun hg => ?_; (try simp only [byE] at hg)) | refine need (by first | kernel_rfl | omega | (simp; done) | (simp; omega)) ?_ | (exfalso; omega) | (refine call_p (hc) rfl (by (repeat' first | exact trivial | refine ⟨?_, ?_⟩ | exact rfl | exact oR | exact orB rfl | exact oL); (first | done | fail)) ?_) | (refine ⟨(i + 1, t, (ss.getD i (dflt .su)).ver), ⟨by dsimp only; omega, h2⟩, by dsimp only; omega, ?_⟩) | ((first | refine fin_au rfl ?_ | apply WkF.au); (conv => whnf); ((repeat' first | exact trivial | refine ⟨?_, ?_⟩ | exact rfl | exact oR | exact orB rfl | exact oL) <;> (try conv => whnf) <;> (try first | apply cgB | apply cgI | apply cgS | apply cgR | apply cgD | refine cgL ?_) <;> (try (rw [wrap_i64 (by omega) (by omega)]; first | rfl | omega)))) | apply altl))
     · rw [if_neg hv] at h2
       (repeat' ((conv => whnf); first | (apply nx; intro s) | (apply rg; intro s k) | ((first | refine cas (fun h => ?_) (fun h => ?_) | refine may (fun h => ?_) ?_) <;> (try simp [-List.getD_eq_getElem?_getD] at h)) | (refine giv fun hg => ?_; (try simp only [byE] at hg)) | refine need (by first | kernel_rfl | omega | (simp; done) | (simp; omega)) ?_ | (exfalso; omega) | (refine ⟨(i + 1, b, v), ⟨by dsimp only; omega, h2⟩, by dsimp only; omega, ?_⟩) | ((first | refine fin_au rfl ?_ | apply WkF.au); (conv => whnf); ((repeat' first | exact trivial | refine ⟨?_, ?_⟩ | exact rfl | exact oR | exact orB rfl | exact oL) <;> (try conv => whnf) <;> (try first | apply cgB | apply cgI | apply cgS | apply cgR | apply cgD | refine cgL ?_) <;> (try (rw [wrap_i64 (by omega) (by omega)]; first | rfl | omega)))) | apply altl))
   · rw [hen i _ (by omega)] at h2
     subst h2
     by_cases hv : v = 0
     · rw [if_pos hv]
       (repeat' ((conv => whnf); first | (apply nx; intro s) | (apply rg; intro s k) | ((first | refine cas (fun h => ?_) (fun h => ?_) | refine may (fun h => ?_) ?_) <;> (try simp [-List.getD_eq_getElem?_getD, hv] at h)) | (refine giv fun hg => ?_; (try simp only [byE] at hg)) | refine need (by first | kernel_rfl | omega | (simp; done) | (simp; omega)) ?_ | (exfalso; omega) | ((first | refine fin_au rfl ?_ | apply WkF.au); (conv => whnf); ((repeat' first | exact trivial | refine ⟨?_, ?_⟩ | exact rfl | exact oR | exact orB rfl | exact oL) <;> (try conv => whnf) <;> (try first | apply cgB | apply cgI | apply cgS | apply cgR | apply cgD | refine cgL ?_) <;> (try (rw [wrap_i64 (by omega) (by omega)]; first | rfl | omega)))) | apply altl))
     · rw [if_neg hv]
       (repeat' ((conv => whnf); first | (apply nx; intro s) | (apply rg; intro s k) | ((first | refine cas (fun h => ?_) (fun h => ?_) | refine may (fun h => ?_) ?_) <;> (try simp [-List.getD_eq_getElem?_getD, hv] at h)) | (refine giv fun hg => ?_; (try simp only [byE] at hg)) | refine need (by first | kernel_rfl | omega | (simp; done) | (simp; omega)) ?_ | (exfalso; omega) | ((first | refine fin_au rfl ?_ | apply WkF.au); (conv => whnf); ((repeat' first | exact trivial | refine ⟨?_, ?_⟩ | exact rfl | exact oR | exact orB rfl | exact oL) <;> (try conv => whnf) <;> (try first | apply cgB | apply cgI | apply cgS | apply cgR | apply cgD | refine cgL ?_) <;> (try (rw [wrap_i64 (by omega) (by omega)]; first | rfl | omega)))) | apply altl))
end Go.Proofs.YthbpdhppelaihaaGreat