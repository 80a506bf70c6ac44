/- What is drawn: disks that are turned in some place; plans. Conditions: none. -/
import Derived.Test.YthbpdhppelaihaaGreatBW
set_option linter.unusedVariables false
set_option linter.unusedSimpArgs false
namespace Go.Proofs.YthbpdhppelaihaaGreat
open Go.RowKit
attribute [local irreducible] Tri Weak
set_option maxRecDepth 4000
set_option maxHeartbeats 4000000
def twD (b : List UInt8) (d : Dk) (s : Int × Cu) : Dk × Cu :=
 if s.1 = 0 then ((d.1, d.2.set (beF b 2 s.2).1.toNat ⟨IntKind.i64.wrap ((beF b 5 (beF b 2 s.2).2).1 - 1), (d.2.getD (beF b 2 s.2).1.toNat (dflt .su)).root⟩), (beF b 5 (beF b 2 s.2).2).2)
 else if s.1 = 1 then ((d.1, d.2.set (beF b 2 s.2).1.toNat ⟨(d.2.getD (beF b 2 s.2).1.toNat (dflt .su)).ver, (pkF b [-1, 0, 1, 199, 200] (beF b 2 s.2).2).1⟩), (pkF b [-1, 0, 1, 199, 200] (beF b 2 s.2).2).2)
 else if s.1 = 2 then ((d.1.set (beF b 9 s.2).1.toNat [120], d.2), (beF b 9 s.2).2)
 else if s.1 = 3 then ((d.1, d.2.take 1), s.2)
 else if s.1 = 4 then ((d.1.take (beF b 12 s.2).1.toNat, d.2), (beF b 12 s.2).2)
 else if s.1 = 5 then ((d.1.set (beF b 9 s.2).1.toNat [0, 4, 0, 2, 10, 0], d.2), (beF b 9 s.2).2)
 else (d, s.2)
noncomputable def dwF (b : List UInt8) (p : Cu) : Dk × Cu :=
 if (ddF b p).1.2.length < 2 then ddF b p else twD b (ddF b p).1 (beF b 20 (ddF b p).2)
structure DRN (d : Dk) : Prop where
 len : d.1.length ≤ 200
 txt : ∀ x ∈ d.1, x.length ≤ 1000
 ver : ∀ s ∈ d.2, -1 ≤ s.ver ∧ s.ver ≤ 1000
 top : d.2.length = 2 → 0 ≤ (d.2.getD 0 (dflt .su)).ver ∨ 0 ≤ (d.2.getD 1 (dflt .su)).ver
theorem drn_ok {v : Int} {d : Dk} (h : DOK v d) (hv : v ≤ 1000) : DRN d :=
 ⟨dok_len h, h.txt, fun s hs => by have := h.ver s hs; omega, fun h2 => .inl (h.ver _ (getD_mem (dflt .su) (show 0 < d.2.length by omega))).1⟩
theorem getD_set {α : Type} {l : List α} {i j : Nat} {x d : α} : (l.set i x).getD j d = if i = j ∧ j < l.length then x else l.getD j d := by
 rw [List.getD_eq_getElem?_getD, List.getElem?_set, List.getD_eq_getElem?_getD]
 by_cases h : i = j
 · subst h
   by_cases h2 : i < l.length
   · rw [if_pos rfl, if_pos h2, if_pos ⟨rfl, h2⟩]; rfl
   · rw [if_pos rfl, if_neg h2, if_neg (fun h => h2 h.2), List.getElem?_eq_none (by omega)]
 · rw [if_neg h, if_neg (fun h' => h h'.1)]
theorem drn_tw (b : List UInt8) {d : Dk} {s : Int × Cu} (h : DOK 4 d) (hl : ¬ d.2.length < 2) : DRN (twD b d s).1 := by
 have h0 := drn_ok h (by omega)
 have hlen := h.len
 have hr2 := beF_rng b (n := 2) (by omega) s.2
 have hr5 := beF_rng b (n := 5) (by omega) (beF b 2 s.2).2
 unfold twD
 split
 · have hw : IntKind.i64.wrap ((beF b 5 (beF b 2 s.2).2).1 - 1) = (beF b 5 (beF b 2 s.2).2).1 - 1 := by rw [wrap_i64 (by omega) (by omega)]
   rw [hw]
   refine ⟨h0.len, h0.txt, fun x hx => ?_, fun h2 => ?_⟩
   · rcases mem_set_or hx with rfl | hx
     · dsimp only; omega
     · exact h0.ver x hx
   · dsimp only
     have e0 := h.ver _ (getD_mem (dflt .su) (show 0 < d.2.length by omega))
     have e1 := h.ver _ (getD_mem (dflt .su) (show 1 < d.2.length by omega))
     rw [getD_set, getD_set]
     by_cases hz : (beF b 2 s.2).1.toNat = 0
     · right; rw [if_neg (by omega)]; exact e1.1
     · left; rw [if_neg (by omega)]; exact e0.1
 · split
   · refine ⟨h0.len, h0.txt, fun x hx => ?_, fun h2 => ?_⟩
     · rcases mem_set_or hx with rfl | hx
       · have := h0.ver _ (getD_mem (dflt .su) (show (beF b 2 s.2).1.toNat < d.2.length by omega))
         exact this
       · exact h0.ver x hx
     · dsimp only
       left
       have e0 := h.ver _ (getD_mem (dflt .su) (show 0 < d.2.length by omega))
       rw [getD_set]
       split
       · rename_i hc; dsimp only; rw [hc.1]; exact e0.1
       · exact e0.1
   · split
     · refine ⟨by dsimp only; rw [List.length_set]; exact h0.len, fun x hx => ?_, h0.ver, h0.top⟩
       rcases mem_set_or hx with rfl | hx
       · simp
       · exact h0.txt x hx
     · split
       · refine ⟨h0.len, h0.txt, fun x hx => h0.ver x (List.mem_of_mem_take hx), fun h2 => ?_⟩
         dsimp only at h2
         rw [List.length_take] at h2
         omega
       · split
         · exact ⟨by dsimp only; rw [List.length_take]; have := h0.len; omega, fun x hx => h0.txt x (List.mem_of_mem_take hx), h0.ver, h0.top⟩
         · split
           · refine ⟨by dsimp only; rw [List.length_set]; exact h0.len, fun x hx => ?_, h0.ver, h0.top⟩
             rcases mem_set_or hx with rfl | hx
             · simp
             · exact h0.txt x hx
           · exact h0
theorem drn_dw (b : List UInt8) (p : Cu) : DRN (dwF b p).1 := by
 unfold dwF
 split
 · exact drn_ok (dok_ddF b p) (by omega)
 · rename_i h; exact drn_tw b (dok_ddF b p) h
theorem r_l6Draw (b : List UInt8) (hb : b.length ≤ 1099511627776) (p : Cu) : Ret Tryz.prog 133 [.pt 0 0, aL .u8 b] [(0, cuB b p)] (dkA (dwF b p).1.1 (dwF b p).1.2) [(0, cuB b (dwF b p).2)] := by
 have h1 := r_l6DrawRight b hb p
 have hok := dok_ddF b p
 unfold dwF
 generalize ddF b p = q at *
 obtain ⟨⟨ps, ss⟩, p1⟩ := q
 have hlen := hok.len
 dsimp only at h1 hlen ⊢
 by_cases hl : ss.length < 2
 · rw [if_pos hl]
   refine ret_vc hT hM Tryz.func133 rfl rfl (m := 1) (nx := 1) rfl (Nat.le_of_ble_eq_true rfl) ?_
   (repeat' ((conv => whnf); first | (apply nx; intro s) | (apply rg; intro s k) | ((first | refine cas (fun h => ?_) (fun h => ?_) | refine may (fun h => ?_) ?_) <;> (try simp [-List.getD_eq_getElem?_getD] at h)) | (refine giv fun hg => ?_; (try simp only [byE] at hg)) | refine need (by first | kernel_rfl | omega | (simp; done) | (simp; omega)) ?_ | (exfalso; omega) | (refine call_g [0] (h1) rfl rfl rfl ?_ ?_ ?_ ?_ ?_; iterate 4 (focus (repeat' first | exact trivial | refine ⟨?_, ?_⟩ | exact rfl | exact oR | exact orB rfl | exact oL); (first | done | fail))) | ((first | refine fin_au rfl ?_ | apply WkF.au); (conv => whnf); ((repeat' first | exact trivial | refine ⟨?_, ?_⟩ | exact rfl | exact oR | exact orB rfl | exact oL) <;> (try conv => whnf) <;> (try first | apply cgB | apply cgI | apply cgS | apply cgR | apply cgD | refine cgL ?_) <;> (try (rw [wrap_i64 (by omega) (by omega)]; first | rfl | omega)))) | apply altl))
 · rw [if_neg hl]
   have h2 := r_l1Below b 20 (by omega) p1
   generalize beF b 20 p1 = s0 at *
   obtain ⟨s1, p2⟩ := s0
   unfold twD
   dsimp only at h2 ⊢
   have k2 := r_l1Below b 2 (by omega) p2
   have k2r := beF_rng b (n := 2) (by omega) p2
   have k9 := r_l1Below b 9 (by omega) p2
   have k9r := beF_rng b (n := 9) (by omega) p2
   have k12 := r_l1Below b 12 (by omega) p2
   have k12r := beF_rng b (n := 12) (by omega) p2
   have k5 := r_l1Below b 5 (by omega) (beF b 2 p2).2
   have kp := r_l1PickInt b [-1, 0, 1, 199, 200] (by decide) (beF b 2 p2).2
   generalize beF b 2 p2 = q2 at *
   generalize beF b 9 p2 = q9 at *
   generalize beF b 12 p2 = q12 at *
   generalize beF b 5 q2.2 = q5 at *
   generalize pkF b [-1, 0, 1, 199, 200] q2.2 = qp at *
   by_cases z0 : s1 = 0
   · rw [if_pos z0]
     refine ret_vc hT hM Tryz.func133 rfl rfl (m := 1) (nx := 1) rfl (Nat.le_of_ble_eq_true rfl) ?_
     (repeat' ((conv => whnf); first | (apply nx; intro s) | (apply rg; intro s k) | ((first | refine cas (fun h => ?_) (fun h => ?_) | refine may (fun h => ?_) ?_) <;> (try simp [-List.getD_eq_getElem?_getD] at h)) | (refine giv fun hg => ?_; (try simp only [byE] at hg)) | refine need (by first | kernel_rfl | omega | (simp; done) | (simp; omega)) ?_ | (exfalso; omega) | (refine call_g [0] (h1) rfl rfl rfl ?_ ?_ ?_ ?_ ?_; iterate 4 (focus (repeat' first | exact trivial | refine ⟨?_, ?_⟩ | exact rfl | exact oR | exact orB rfl | exact oL); (first | done | fail))) | (refine call_g [0] (h2) rfl rfl rfl ?_ ?_ ?_ ?_ ?_; iterate 4 (focus (repeat' first | exact trivial | refine ⟨?_, ?_⟩ | exact rfl | exact oR | exact orB rfl | exact oL); (first | done | fail))) | (refine call_g [0] (k2) rfl rfl rfl ?_ ?_ ?_ ?_ ?_; iterate 4 (focus (repeat' first | exact trivial | refine ⟨?_, ?_⟩ | exact rfl | exact oR | exact orB rfl | exact oL); (first | done | fail))) | (refine call_g [0] (k5) rfl rfl rfl ?_ ?_ ?_ ?_ ?_; iterate 4 (focus (repeat' first | exact trivial | refine ⟨?_, ?_⟩ | exact rfl | exact oR | exact orB rfl | exact oL); (first | done | fail))) | (refine need (by omega) ?_) | ((first | refine fin_au rfl ?_ | apply WkF.au); (conv => whnf); ((repeat' first | exact trivial | refine ⟨?_, ?_⟩ | exact rfl | exact oR | exact orB rfl | exact oL) <;> (try conv => whnf) <;> (try first | apply cgB | apply cgI | apply cgS | apply cgR | apply cgD | refine cgL ?_) <;> (try (rw [wrap_i64 (by omega) (by omega)]; first | rfl | omega)))) | apply altl))
   · rw [if_neg z0]
     by_cases z1 : s1 = 1
     · rw [if_pos z1]
       refine ret_vc hT hM Tryz.func133 rfl rfl (m := 1) (nx := 1) rfl (Nat.le_of_ble_eq_true rfl) ?_
       (repeat' ((conv => whnf); first | (apply nx; intro s) | (apply rg; intro s k) | ((first | refine cas (fun h => ?_) (fun h => ?_) | refine may (fun h => ?_) ?_) <;> (try simp [-List.getD_eq_getElem?_getD] at h)) | (refine giv fun hg => ?_; (try simp only [byE] at hg)) | refine need (by first | kernel_rfl | omega | (simp; done) | (simp; omega)) ?_ | (exfalso; omega) | (refine call_g [0] (h1) rfl rfl rfl ?_ ?_ ?_ ?_ ?_; iterate 4 (focus (repeat' first | exact trivial | refine ⟨?_, ?_⟩ | exact rfl | exact oR | exact orB rfl | exact oL); (first | done | fail))) | (refine call_g [0] (h2) rfl rfl rfl ?_ ?_ ?_ ?_ ?_; iterate 4 (focus (repeat' first | exact trivial | refine ⟨?_, ?_⟩ | exact rfl | exact oR | exact orB rfl | exact oL); (first | done | fail))) | (refine call_g [0] (k2) rfl rfl rfl ?_ ?_ ?_ ?_ ?_; iterate 4 (focus (repeat' first | exact trivial | refine ⟨?_, ?_⟩ | exact rfl | exact oR | exact orB rfl | exact oL); (first | done | fail))) | (refine call_g [0,7] (kp) rfl rfl rfl ?_ ?_ ?_ ?_ ?_; iterate 4 (focus (repeat' first | exact trivial | refine ⟨?_, ?_⟩ | exact rfl | exact oR | exact orB rfl | exact oL); (first | done | fail))) | (refine call_g [0,8] (kp) rfl rfl rfl ?_ ?_ ?_ ?_ ?_; iterate 4 (focus (repeat' first | exact trivial | refine ⟨?_, ?_⟩ | exact rfl | exact oR | exact orB rfl | exact oL); (first | done | fail))) | (refine call_g [0,9] (kp) rfl rfl rfl ?_ ?_ ?_ ?_ ?_; iterate 4 (focus (repeat' first | exact trivial | refine ⟨?_, ?_⟩ | exact rfl | exact oR | exact orB rfl | exact oL); (first | done | fail))) | (refine call_g [0,6] (kp) rfl rfl rfl ?_ ?_ ?_ ?_ ?_; iterate 4 (focus (repeat' first | exact trivial | refine ⟨?_, ?_⟩ | exact rfl | exact oR | exact orB rfl | exact oL); (first | done | fail))) | (refine call_g [0,5] (kp) rfl rfl rfl ?_ ?_ ?_ ?_ ?_; iterate 4 (focus (repeat' first | exact trivial | refine ⟨?_, ?_⟩ | exact rfl | exact oR | exact orB rfl | exact oL); (first | done | fail))) | (refine call_g [0,10] (kp) rfl rfl rfl ?_ ?_ ?_ ?_ ?_; iterate 4 (focus (repeat' first | exact trivial | refine ⟨?_, ?_⟩ | exact rfl | exact oR | exact orB rfl | exact oL); (first | done | fail))) | (refine need (by omega) ?_) | ((first | refine fin_au rfl ?_ | apply WkF.au); (conv => whnf); ((repeat' first | exact trivial | refine ⟨?_, ?_⟩ | exact rfl | exact oR | exact orB rfl | exact oL) <;> (try conv => whnf) <;> (try first | apply cgB | apply cgI | apply cgS | apply cgR | apply cgD | refine cgL ?_) <;> (try (rw [wrap_i64 (by omega) (by omega)]; first | rfl | omega)))) | apply altl))
     · rw [if_neg z1]
       by_cases z2 : s1 = 2
       · rw [if_pos z2]
         refine ret_vc hT hM Tryz.func133 rfl rfl (m := 1) (nx := 1) rfl (Nat.le_of_ble_eq_true rfl) ?_
         (repeat' ((conv => whnf); first | (apply nx; intro s) | (apply rg; intro s k) | ((first | refine cas (fun h => ?_) (fun h => ?_) | refine may (fun h => ?_) ?_) <;> (try simp [-List.getD_eq_getElem?_getD] at h)) | (refine giv fun hg => ?_; (try simp only [byE] at hg)) | refine need (by first | kernel_rfl | omega | (simp; done) | (simp; omega)) ?_ | (exfalso; omega) | (refine call_g [0] (h1) rfl rfl rfl ?_ ?_ ?_ ?_ ?_; iterate 4 (focus (repeat' first | exact trivial | refine ⟨?_, ?_⟩ | exact rfl | exact oR | exact orB rfl | exact oL); (first | done | fail))) | (refine call_g [0] (h2) rfl rfl rfl ?_ ?_ ?_ ?_ ?_; iterate 4 (focus (repeat' first | exact trivial | refine ⟨?_, ?_⟩ | exact rfl | exact oR | exact orB rfl | exact oL); (first | done | fail))) | (refine call_g [0] (k9) rfl rfl rfl ?_ ?_ ?_ ?_ ?_; iterate 4 (focus (repeat' first | exact trivial | refine ⟨?_, ?_⟩ | exact rfl | exact oR | exact orB rfl | exact oL); (first | done | fail))) | (refine need (by omega) ?_) | ((first | refine fin_au rfl ?_ | apply WkF.au); (conv => whnf); ((repeat' first | exact trivial | refine ⟨?_, ?_⟩ | exact rfl | exact oR | exact orB rfl | exact oL) <;> (try conv => whnf) <;> (try first | apply cgB | apply cgI | apply cgS | apply cgR | apply cgD | refine cgL ?_) <;> (try (rw [wrap_i64 (by omega) (by omega)]; first | rfl | omega)))) | apply altl))
       · rw [if_neg z2]
         by_cases z3 : s1 = 3
         · rw [if_pos z3]
           refine ret_vc hT hM Tryz.func133 rfl rfl (m := 1) (nx := 1) rfl (Nat.le_of_ble_eq_true rfl) ?_
           (repeat' ((conv => whnf); first | (apply nx; intro s) | (apply rg; intro s k) | ((first | refine cas (fun h => ?_) (fun h => ?_) | refine may (fun h => ?_) ?_) <;> (try simp [-List.getD_eq_getElem?_getD] at h)) | (refine giv fun hg => ?_; (try simp only [byE] at hg)) | refine need (by first | kernel_rfl | omega | (simp; done) | (simp; omega)) ?_ | (exfalso; omega) | (refine call_g [0] (h1) rfl rfl rfl ?_ ?_ ?_ ?_ ?_; iterate 4 (focus (repeat' first | exact trivial | refine ⟨?_, ?_⟩ | exact rfl | exact oR | exact orB rfl | exact oL); (first | done | fail))) | (refine call_g [0] (h2) rfl rfl rfl ?_ ?_ ?_ ?_ ?_; iterate 4 (focus (repeat' first | exact trivial | refine ⟨?_, ?_⟩ | exact rfl | exact oR | exact orB rfl | exact oL); (first | done | fail))) | (refine need (by omega) ?_) | ((first | refine fin_au rfl ?_ | apply WkF.au); (conv => whnf); ((repeat' first | exact trivial | refine ⟨?_, ?_⟩ | exact rfl | exact oR | exact orB rfl | exact oL) <;> (try conv => whnf) <;> (try first | apply cgB | apply cgI | apply cgS | apply cgR | apply cgD | refine cgL ?_) <;> (try (rw [wrap_i64 (by omega) (by omega)]; first | rfl | omega)))) | apply altl))
         · rw [if_neg z3]
           by_cases z4 : s1 = 4
           · rw [if_pos z4]
             refine ret_vc hT hM Tryz.func133 rfl rfl (m := 1) (nx := 1) rfl (Nat.le_of_ble_eq_true rfl) ?_
             (repeat' ((conv => whnf); first | (apply nx; intro s) | (apply rg; intro s k) | ((first | refine cas (fun h => ?_) (fun h => ?_) | refine may (fun h => ?_) ?_) <;> (try simp [-List.getD_eq_getElem?_getD] at h)) | (refine giv fun hg => ?_; (try simp only [byE] at hg)) | refine need (by first | kernel_rfl | omega | (simp; done) | (simp; omega)) ?_ | (exfalso; omega) | (refine call_g [0] (h1) rfl rfl rfl ?_ ?_ ?_ ?_ ?_; iterate 4 (focus (repeat' first | exact trivial | refine ⟨?_, ?_⟩ | exact rfl | exact oR | exact orB rfl | exact oL); (first | done | fail))) | (refine call_g [0] (h2) rfl rfl rfl ?_ ?_ ?_ ?_ ?_; iterate 4 (focus (repeat' first | exact trivial | refine ⟨?_, ?_⟩ | exact rfl | exact oR | exact orB rfl | exact oL); (first | done | fail))) | (refine call_g [0] (k12) rfl rfl rfl ?_ ?_ ?_ ?_ ?_; iterate 4 (focus (repeat' first | exact trivial | refine ⟨?_, ?_⟩ | exact rfl | exact oR | exact orB rfl | exact oL); (first | done | fail))) | (refine need (by omega) ?_) | ((first | refine fin_au rfl ?_ | apply WkF.au); (conv => whnf); ((repeat' first | exact trivial | refine ⟨?_, ?_⟩ | exact rfl | exact oR | exact orB rfl | exact oL) <;> (try conv => whnf) <;> (try first | apply cgB | apply cgI | apply cgS | apply cgR | apply cgD | refine cgL ?_) <;> (try (rw [wrap_i64 (by omega) (by omega)]; first | rfl | omega)))) | apply altl))
           · rw [if_neg z4]
             by_cases z5 : s1 = 5
             · rw [if_pos z5]
               refine ret_vc hT hM Tryz.func133 rfl rfl (m := 1) (nx := 1) rfl (Nat.le_of_ble_eq_true rfl) ?_
               (repeat' ((conv => whnf); first | (apply nx; intro s) | (apply rg; intro s k) | ((first | refine cas (fun h => ?_) (fun h => ?_) | refine may (fun h => ?_) ?_) <;> (try simp [-List.getD_eq_getElem?_getD] at h)) | (refine giv fun hg => ?_; (try simp only [byE] at hg)) | refine need (by first | kernel_rfl | omega | (simp; done) | (simp; omega)) ?_ | (exfalso; omega) | (refine call_g [0] (h1) rfl rfl rfl ?_ ?_ ?_ ?_ ?_; iterate 4 (focus (repeat' first | exact trivial | refine ⟨?_, ?_⟩ | exact rfl | exact oR | exact orB rfl | exact oL); (first | done | fail))) | (refine call_g [0] (h2) rfl rfl rfl ?_ ?_ ?_ ?_ ?_; iterate 4 (focus (repeat' first | exact trivial | refine ⟨?_, ?_⟩ | exact rfl | exact oR | exact orB rfl | exact oL); (first | done | fail))) | (refine call_g [0] (k9) rfl rfl rfl ?_ ?_ ?_ ?_ ?_; iterate 4 (focus (repeat' first | exact trivial | refine ⟨?_, ?_⟩ | exact rfl | exact oR | exact orB rfl | exact oL); (first | done | fail))) | (refine need (by omega) ?_) | ((first | refine fin_au rfl ?_ | apply WkF.au); (conv => whnf); ((repeat' first | exact trivial | refine ⟨?_, ?_⟩ | exact rfl | exact oR | exact orB rfl | exact oL) <;> (try conv => whnf) <;> (try first | apply cgB | apply cgI | apply cgS | apply cgR | apply cgD | refine cgL ?_) <;> (try (rw [wrap_i64 (by omega) (by omega)]; first | rfl | omega)))) | apply altl))
             · rw [if_neg z5]
               refine ret_vc hT hM Tryz.func133 rfl rfl (m := 1) (nx := 1) rfl (Nat.le_of_ble_eq_true rfl) ?_
               (repeat' ((conv => whnf); first | (apply nx; intro s) | (apply rg; intro s k) | ((first | refine cas (fun h => ?_) (fun h => ?_) | refine may (fun h => ?_) ?_) <;> (try simp [-List.getD_eq_getElem?_getD] at h)) | (refine giv fun hg => ?_; (try simp only [byE] at hg)) | refine need (by first | kernel_rfl | omega | (simp; done) | (simp; omega)) ?_ | (exfalso; omega) | (refine call_g [0] (h1) rfl rfl rfl ?_ ?_ ?_ ?_ ?_; iterate 4 (focus (repeat' first | exact trivial | refine ⟨?_, ?_⟩ | exact rfl | exact oR | exact orB rfl | exact oL); (first | done | fail))) | (refine call_g [0] (h2) rfl rfl rfl ?_ ?_ ?_ ?_ ?_; iterate 4 (focus (repeat' first | exact trivial | refine ⟨?_, ?_⟩ | exact rfl | exact oR | exact orB rfl | exact oL); (first | done | fail))) | ((first | refine fin_au rfl ?_ | apply WkF.au); (conv => whnf); ((repeat' first | exact trivial | refine ⟨?_, ?_⟩ | exact rfl | exact oR | exact orB rfl | exact oL) <;> (try conv => whnf) <;> (try first | apply cgB | apply cgI | apply cgS | apply cgR | apply cgD | refine cgL ?_) <;> (try (rw [wrap_i64 (by omega) (by omega)]; first | rfl | omega)))) | apply altl))
noncomputable def drawD (b : List UInt8) : Dk := (dwF b (cu0 b)).1
noncomputable def drawT (b : List UInt8) : Tr := (twF b (dwF b (cu0 b)).2).1
theorem drn_draw (b : List UInt8) : DRN (drawD b) := drn_dw b (cu0 b)
theorem r_DrawPlan (b : List UInt8) (hb : b.length ≤ 1099511627776) : Ret Tryz.prog 43 [aL .u8 b] [] (.tp [dkA (drawD b).1 (drawD b).2, agE .tr (drawT b)]) [] := by
 have h1 := r_l1New b
 have h2 := r_l6Draw b hb (cu0 b)
 unfold drawD drawT
 generalize cu0 b = p at *
 generalize dwF b p = q at *
 have h3 := r_l2Draw b hb q.2
 generalize twF b q.2 = z at *
 obtain ⟨⟨ps, ss⟩, p1⟩ := q
 dsimp only at h2 h3 ⊢
 refine ret_vc hT hM Tryz.func43 rfl rfl (m := 0) (nx := 0) rfl (Nat.le_of_ble_eq_true rfl) ?_
 (repeat' ((conv => whnf); first | (apply nx; intro s) | (apply rg; intro s k) | ((first | refine cas (fun h => ?_) (fun h => ?_) | refine may (fun h => ?_) ?_) <;> (try simp [-List.getD_eq_getElem?_getD] at h)) | (refine giv fun hg => ?_; (try simp only [byE] at hg)) | refine need (by first | kernel_rfl | omega | (simp; done) | (simp; omega)) ?_ | (refine call_n (h1) rfl ?_ ?_ ?_; iterate 2 (focus (repeat' first | exact trivial | refine ⟨?_, ?_⟩ | exact rfl | exact oR | exact orB rfl | exact oL); (first | done | fail))) | (refine call_g [2] (h2) rfl rfl rfl ?_ ?_ ?_ ?_ ?_; iterate 4 (focus (repeat' first | exact trivial | refine ⟨?_, ?_⟩ | exact rfl | exact oR | exact orB rfl | exact oL); (first | done | fail))) | (refine call_g [3] (h2) rfl rfl rfl ?_ ?_ ?_ ?_ ?_; iterate 4 (focus (repeat' first | exact trivial | refine ⟨?_, ?_⟩ | exact rfl | exact oR | exact orB rfl | exact oL); (first | done | fail))) | (refine call_g [2] (h3) rfl rfl rfl ?_ ?_ ?_ ?_ ?_; iterate 4 (focus (repeat' first | exact trivial | refine ⟨?_, ?_⟩ | exact rfl | exact oR | exact orB rfl | exact oL); (first | done | fail))) | (refine call_g [3] (h3) rfl rfl rfl ?_ ?_ ?_ ?_ ?_; iterate 4 (focus (repeat' first | exact trivial | refine ⟨?_, ?_⟩ | exact rfl | exact oR | exact orB rfl | exact oL); (first | done | fail))) | ((first | refine fin_au rfl ?_ | apply WkF.au); (conv => whnf); ((repeat' first | exact trivial | refine ⟨?_, ?_⟩ | exact rfl | exact oR | exact orB rfl | exact oL) <;> (try conv => whnf) <;> (try first | apply cgB | apply cgI | apply cgS | apply cgR | apply cgD | refine cgL ?_) <;> (try (rw [wrap_i64 (by omega) (by omega)]; first | rfl | omega)))) | apply altl))
end Go.Proofs.YthbpdhppelaihaaGreat