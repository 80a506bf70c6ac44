/- Marks of trees, and what holds them. Conditions: none. -/
import Derived.Test.YthbpdhppelaihaaGreatK2
set_option linter.unusedVariables false
set_option linter.unusedSimpArgs false
namespace Go.Proofs.YthbpdhppelaihaaGreat
open Go.RowKit
attribute [local irreducible] Tri Weak
set_option maxRecDepth 4000
set_option maxHeartbeats 4000000
mutual
def cnT : Tr → Int
  | ⟨_, p, c, ks, b⟩ => cnG (cK 2) p + (cnG (cK 1) c + (cnTs ks + cnG (cK 3) b))
def cnTs : List Tr → Int
  | [] => 0
  | t :: ts => 1 + cnT t + cnTs ts
end
def setL (b : Bool) (t : Tr) : Tr := ⟨b, t.pairs, t.cuts, t.kids, t.buf⟩
mutual
def mkT : Int → Tr → Tr
  | k, ⟨l, p, c, ks, b⟩ => ⟨l, mkG fPr (cK 2) k p, mkG fInt (cK 1) (k + cnG (cK 2) p) c, mkTs (k + cnG (cK 2) p + cnG (cK 1) c) ks, mkG fMs (cK 3) (k + cnG (cK 2) p + cnG (cK 1) c + cnTs ks) b⟩
def mkTs : Int → List Tr → List Tr
  | _, [] => []
  | k, t :: ts => setL (t3 k) (mkT (k + 1) t) :: mkTs (k + (1 + cnT t)) ts
end
def cTr (t : Tr) : Int := 1 + cnT t
def fTr (k : Int) (t : Tr) : Tr := setL (t3 k) (mkT (k + 1) t)
theorem cnTs_eq : ∀ xs : List Tr, cnTs xs = cnG cTr xs
  | [] => by simp only [cnTs, cnG]
  | x :: xs => by simp only [cnTs, cnG, cTr]; rw [cnTs_eq xs]
theorem mkTs_eq : ∀ (xs : List Tr) (q : Int), mkTs q xs = mkG fTr cTr q xs
  | [], q => by simp only [mkTs, mkG]
  | x :: xs, q => by simp only [mkTs, mkG, fTr, cTr]; rw [mkTs_eq xs]
theorem cnT_eq (t : Tr) : cnT t = cnG (cK 2) t.pairs + (cnG (cK 1) t.cuts + (cnG cTr t.kids + cnG (cK 3) t.buf)) := by
  cases t; simp only [cnT, cnTs_eq]
theorem mkT_eq (q : Int) (t : Tr) : mkT q t = ⟨t.leaf, mkG fPr (cK 2) q t.pairs, mkG fInt (cK 1) (q + cnG (cK 2) t.pairs) t.cuts, mkG fTr cTr (q + cnG (cK 2) t.pairs + cnG (cK 1) t.cuts) t.kids, mkG fMs (cK 3) (q + cnG (cK 2) t.pairs + cnG (cK 1) t.cuts + cnG cTr t.kids) t.buf⟩ := by
  cases t; simp only [mkT, cnTs_eq, mkTs_eq]
theorem fTr_eq (q : Int) (t : Tr) : fTr q t = ⟨t3 q, mkG fPr (cK 2) (q + 1) t.pairs, mkG fInt (cK 1) (q + 1 + cnG (cK 2) t.pairs) t.cuts, mkG fTr cTr (q + 1 + cnG (cK 2) t.pairs + cnG (cK 1) t.cuts) t.kids, mkG fMs (cK 3) (q + 1 + cnG (cK 2) t.pairs + cnG (cK 1) t.cuts + cnG cTr t.kids) t.buf⟩ := by
  show setL (t3 q) (mkT (q + 1) t) = _
  rw [mkT_eq]
  rfl
mutual
theorem cnT_pos : ∀ t : Tr, 0 ≤ cnT t
  | ⟨_, p, c, ks, b⟩ => by
    have h1 := cnG_pos (c := cK (α := Pr) 2) (cK_pos (by decide)) p
    have h2 := cnG_pos (c := cK (α := Int) 1) (cK_pos (by decide)) c
    have h3 := cnG_pos (c := cK (α := Ms) 3) (cK_pos (by decide)) b
    have h4 := cnTs_pos ks
    simp only [cnT]; omega
theorem cnTs_pos : ∀ ts : List Tr, 0 ≤ cnTs ts
  | [] => by simp [cnTs]
  | t :: ts => by
    have h1 := cnT_pos t
    have h2 := cnTs_pos ts
    simp only [cnTs]; omega
end
theorem cTr_pos (t : Tr) : 0 ≤ cTr t := by have := cnT_pos t; unfold cTr; omega
theorem cT_parts (t : Tr) : cTr t = 1 + (cnG (cK 2) t.pairs + (cnG (cK 1) t.cuts + (cnG cTr t.kids + cnG (cK 3) t.buf))) ∧ 0 ≤ cnG (cK 2) t.pairs ∧ 0 ≤ cnG (cK 1) t.cuts ∧ 0 ≤ cnG cTr t.kids ∧ 0 ≤ cnG (cK 3) t.buf :=
  ⟨by show 1 + cnT t = _; rw [cnT_eq], cnG_pos (cK_pos (by decide)) _, cnG_pos (cK_pos (by decide)) _, cnG_pos cTr_pos _, cnG_pos (cK_pos (by decide)) _⟩
theorem r_markTreeS' : ∀ (n : Nat) (xs : List Tr) (q : Int), SizeOf.sizeOf xs < n → 0 ≤ q → q + cnG cTr xs ≤ 4611686018427387904 → Ret Tryz.prog 64 [.rw 0, aI q] [(0, .dp .tr xs)] (aI (q + cnG cTr xs)) [(0, .dp .tr (mkG fTr cTr q xs))] := by
  intro n
  induction n with
  | zero => intro xs q h; omega
  | succ n ih =>
    intro xs q hn h0 h1
    refine ret_vc hT hM Tryz.func64 rfl rfl (m := 1) (nx := 1) rfl (Nat.le_of_ble_eq_true rfl) ?_
    (repeat ((conv => whnf); first | (refine nx ?_; intro s) | (refine rg ?_; intro s k))); (conv => whnf)
    refine Tri.loop (fun i : Nat => ⟨[(0, .rw 0), (1, aI (q + cnG cTr (xs.take i))), (5, aI i)], [(0, .dp .tr (mkR fTr cTr q xs i))], 5⟩) (fun i => i ≤ xs.length) (fun i => xs.length - i) 0 (Nat.zero_le _) ?_ ?_
    · (refine WkF.au ?_; (conv => whnf); ((repeat' (first | exact trivial | refine ⟨?_, ?_⟩ | exact rfl | exact Or.inr rfl | exact Or.inl (Nat.le_of_ble_eq_true rfl))) <;> (try (conv => whnf)) <;> (try (first | refine congrArg C.bool ?_ | refine congrArg (C.int .i64) ?_ | refine congrArg C.str ?_ | refine congrArg (fun l => some (Ob.row _ l)) ?_ | refine congrArg (fun l => some (Ob.dp _ l)) ?_ | refine congrArg (C.sl _) ?_)) <;> (try (rw [wrap_i64 (by omega) (by omega)]; first | rfl | omega))))
      all_goals first | (simp [cnG]; done) | exact (mkR_zero _ _).symm
    · intro i hi
      rcases Nat.lt_or_ge i xs.length with hl | hl
      · have hp := cnG_pos cTr_pos (xs.take i)
        have hq3 := cnG_take cTr_pos xs (i + 1)
        have hsu := cnG_succ (c := cTr) xs i (dflt .tr) hl
        have hpt := cT_parts (xs.getD i (dflt .tr))
        have hst := mkR_set (f := fTr) (c := cTr) xs q i (dflt .tr) hl
        have hkd : SizeOf.sizeOf (xs.getD i (dflt .tr)).kids < n := by
          have h2 : SizeOf.sizeOf (xs.getD i (dflt .tr)) < SizeOf.sizeOf xs := List.sizeOf_lt_of_mem (List.mem_of_getElem? (getD_some hl (dflt .tr)))
          have h3 : SizeOf.sizeOf (xs.getD i (dflt .tr)).kids < SizeOf.sizeOf (xs.getD i (dflt .tr)) := by
            cases xs.getD i (dflt .tr); simp; omega
          omega
        refine Tri.weak (Weak.focus 0 i 1 rfl (by simpa using hl) ?_) ?_
        · intro k' hk'
          simp [focH, obF, flat, keys] at hk'
          rcases hk' with rfl | rfl | rfl | rfl <;> rfl
        have hfo : focS ⟨[(0, .rw 0), (1, aI (q + cnG cTr (xs.take i))), (5, aI i)], [(0, .dp .tr (mkR fTr cTr q xs i))], 5⟩ 0 i 1 .tr (mkR fTr cTr q xs i) = ⟨[(0, .rw 0), (1, aI (q + cnG cTr (xs.take i))), (5, aI i)], [(0, .fo .tr ((mkR fTr cTr q xs i).take i) [.c (.bool ((mkR fTr cTr q xs i).getD i (dflt .tr)).leaf), .rw 1, .rw 2, .rw 3, .rw 4] ((mkR fTr cTr q xs i).drop (i + 1))), (1, .row .pr ((mkR fTr cTr q xs i).getD i (dflt .tr)).pairs), (2, .row .int ((mkR fTr cTr q xs i).getD i (dflt .tr)).cuts), (3, .dp .tr ((mkR fTr cTr q xs i).getD i (dflt .tr)).kids), (4, .row .ms ((mkR fTr cTr q xs i).getD i (dflt .tr)).buf), (0, .dp .tr (mkR fTr cTr q xs i))], 5⟩ := rfl
        rw [hfo, mkR_get xs q i _ hl]
        clear hfo
        generalize hx : xs.getD i (dflt .tr) = x at *
        generalize hc0 : q + cnG cTr (xs.take i) = c0 at *
        have hw := wrap_i64 (n := c0 + 1) (by omega) (by omega)
        refine vc_sound hT hM _ _ _ ?_
        (repeat' ((conv => whnf); first | (refine nx ?_; intro s) | (refine rg ?_; intro s k) | ((refine cas (fun h => ?_) (fun h => ?_)) <;> (try simp [-List.getD_eq_getElem?_getD] at h)) | ((refine may (fun h => ?_) ?_) <;> (try simp [-List.getD_eq_getElem?_getD] at h)) | (refine giv fun hg => ?_; (try simp only [byE] at hg)) | (refine need (by simp only [List.length_take, mkR_len]; omega) ?_) | (refine need (by kernel_rfl) ?_) | (refine need ⟨by omega, by omega⟩ ?_) | (refine need (by omega) ?_) | (refine need (by first | (simp; done) | (simp; omega)) ?_) | (refine call_g [1] (r_markPairS x.pairs _ (by omega) (by omega)) rfl rfl rfl (by (repeat' (first | exact trivial | refine ⟨?_, ?_⟩ | exact rfl | exact Or.inr rfl | exact Or.inl (Nat.le_of_ble_eq_true rfl)))) (by (repeat' (first | exact trivial | refine ⟨?_, ?_⟩ | exact rfl | exact Or.inr rfl | exact Or.inl (Nat.le_of_ble_eq_true rfl)))) (by (repeat' (first | exact trivial | refine ⟨?_, ?_⟩ | exact rfl | exact Or.inr rfl | exact Or.inl (Nat.le_of_ble_eq_true rfl)))) (by (repeat' (first | exact trivial | refine ⟨?_, ?_⟩ | exact rfl | exact Or.inr rfl | exact Or.inl (Nat.le_of_ble_eq_true rfl)))) ?_) | (refine call_g [2] (r_markIntS x.cuts _ (by omega) (by omega)) rfl rfl rfl (by (repeat' (first | exact trivial | refine ⟨?_, ?_⟩ | exact rfl | exact Or.inr rfl | exact Or.inl (Nat.le_of_ble_eq_true rfl)))) (by (repeat' (first | exact trivial | refine ⟨?_, ?_⟩ | exact rfl | exact Or.inr rfl | exact Or.inl (Nat.le_of_ble_eq_true rfl)))) (by (repeat' (first | exact trivial | refine ⟨?_, ?_⟩ | exact rfl | exact Or.inr rfl | exact Or.inl (Nat.le_of_ble_eq_true rfl)))) (by (repeat' (first | exact trivial | refine ⟨?_, ?_⟩ | exact rfl | exact Or.inr rfl | exact Or.inl (Nat.le_of_ble_eq_true rfl)))) ?_) | (refine call_g [3] (ih x.kids _ hkd (by omega) (by omega)) rfl rfl rfl (by (repeat' (first | exact trivial | refine ⟨?_, ?_⟩ | exact rfl | exact Or.inr rfl | exact Or.inl (Nat.le_of_ble_eq_true rfl)))) (by (repeat' (first | exact trivial | refine ⟨?_, ?_⟩ | exact rfl | exact Or.inr rfl | exact Or.inl (Nat.le_of_ble_eq_true rfl)))) (by (repeat' (first | exact trivial | refine ⟨?_, ?_⟩ | exact rfl | exact Or.inr rfl | exact Or.inl (Nat.le_of_ble_eq_true rfl)))) (by (repeat' (first | exact trivial | refine ⟨?_, ?_⟩ | exact rfl | exact Or.inr rfl | exact Or.inl (Nat.le_of_ble_eq_true rfl)))) ?_) | (refine call_g [4] (r_markMsgS x.buf _ (by omega) (by omega)) rfl rfl rfl (by (repeat' (first | exact trivial | refine ⟨?_, ?_⟩ | exact rfl | exact Or.inr rfl | exact Or.inl (Nat.le_of_ble_eq_true rfl)))) (by (repeat' (first | exact trivial | refine ⟨?_, ?_⟩ | exact rfl | exact Or.inr rfl | exact Or.inl (Nat.le_of_ble_eq_true rfl)))) (by (repeat' (first | exact trivial | refine ⟨?_, ?_⟩ | exact rfl | exact Or.inr rfl | exact Or.inl (Nat.le_of_ble_eq_true rfl)))) (by (repeat' (first | exact trivial | refine ⟨?_, ?_⟩ | exact rfl | exact Or.inr rfl | exact Or.inl (Nat.le_of_ble_eq_true rfl)))) ?_) | (refine ⟨(i + 1 : Nat), ?_, ?_, (Weak.unfocus 0 rfl rfl rfl rfl (fTr c0 x) ?_).trans ?_⟩) | (exfalso; omega) | (refine fin_au rfl ?_; (conv => whnf); ((repeat' (first | exact trivial | refine ⟨?_, ?_⟩ | exact rfl | exact Or.inr rfl | exact Or.inl (Nat.le_of_ble_eq_true rfl))) <;> (try (conv => whnf)) <;> (try (first | refine congrArg C.bool ?_ | refine congrArg (C.int .i64) ?_ | refine congrArg C.str ?_ | refine congrArg (fun l => some (Ob.row _ l)) ?_ | refine congrArg (fun l => some (Ob.dp _ l)) ?_ | refine congrArg (C.sl _) ?_)) <;> (try (rw [wrap_i64 (by omega) (by omega)]; first | rfl | omega)))) | (refine WkF.au ?_; (conv => whnf); ((repeat' (first | exact trivial | refine ⟨?_, ?_⟩ | exact rfl | exact Or.inr rfl | exact Or.inl (Nat.le_of_ble_eq_true rfl))) <;> (try (conv => whnf)) <;> (try (first | refine congrArg C.bool ?_ | refine congrArg (C.int .i64) ?_ | refine congrArg C.str ?_ | refine congrArg (fun l => some (Ob.row _ l)) ?_ | refine congrArg (fun l => some (Ob.dp _ l)) ?_ | refine congrArg (C.sl _) ?_)) <;> (try (rw [wrap_i64 (by omega) (by omega)]; first | rfl | omega)))) | (refine altl ?_) | fail))
        all_goals (try simp only [List.length_append, List.length_take, List.length_cons, List.length_drop, mkR_len] at hg)
        all_goals first
          | omega
          | (rw [fTr_eq, hw]; rfl)
          | (rw [wrap_i64 (by omega) (by omega)]; rfl)
          | (rw [← hst, List.set_eq_take_append_cons_drop, if_pos (by simpa using hl)])
      · refine vc_sound hT hM _ _ _ ?_
        (repeat' ((conv => whnf); first | (refine nx ?_; intro s) | (refine rg ?_; intro s k) | ((refine cas (fun h => ?_) (fun h => ?_)) <;> (try simp [-List.getD_eq_getElem?_getD] at h)) | ((refine may (fun h => ?_) ?_) <;> (try simp [-List.getD_eq_getElem?_getD] at h)) | (refine giv fun hg => ?_; (try simp only [byE] at hg)) | (refine need (by kernel_rfl) ?_) | (refine need ⟨by omega, by omega⟩ ?_) | (refine need (by omega) ?_) | (refine need (by first | (simp; done) | (simp; omega)) ?_) | (exfalso; omega) | (refine WkF.au ?_; (conv => whnf); ((repeat' (first | exact trivial | refine ⟨?_, ?_⟩ | exact rfl | exact Or.inr rfl | exact Or.inl (Nat.le_of_ble_eq_true rfl))) <;> (try (conv => whnf)) <;> (try (first | refine congrArg C.bool ?_ | refine congrArg (C.int .i64) ?_ | refine congrArg C.str ?_ | refine congrArg (fun l => some (Ob.row _ l)) ?_ | refine congrArg (fun l => some (Ob.dp _ l)) ?_ | refine congrArg (C.sl _) ?_)) <;> (try (rw [wrap_i64 (by omega) (by omega)]; first | rfl | omega)))) | (refine altl ?_) | fail))
        all_goals first | (exfalso; omega) | skip
        (refine fin_au rfl ?_; (conv => whnf); ((repeat' (first | exact trivial | refine ⟨?_, ?_⟩ | exact rfl | exact Or.inr rfl | exact Or.inl (Nat.le_of_ble_eq_true rfl))) <;> (try (conv => whnf)) <;> (try (first | refine congrArg C.bool ?_ | refine congrArg (C.int .i64) ?_ | refine congrArg C.str ?_ | refine congrArg (fun l => some (Ob.row _ l)) ?_ | refine congrArg (fun l => some (Ob.dp _ l)) ?_ | refine congrArg (C.sl _) ?_)) <;> (try (rw [wrap_i64 (by omega) (by omega)]; first | rfl | omega))))
        all_goals first
          | exact mkR_all q (by omega)
          | (rw [cnG_all (by omega)]; done)
theorem r_markTreeS (xs : List Tr) (q : Int) (h0 : 0 ≤ q) (h1 : q + cnG cTr xs ≤ 4611686018427387904) : Ret Tryz.prog 64 [.rw 0, aI q] [(0, .dp .tr xs)] (aI (q + cnG cTr xs)) [(0, .dp .tr (mkG fTr cTr q xs))] := r_markTreeS' _ xs q (Nat.lt_succ_self _) h0 h1
theorem r_markTree (x : Tr) (q : Int) (h0 : 0 ≤ q) (h1 : q + cnT x ≤ 4611686018427387904) : Ret Tryz.prog 16 [ownA .tr x, aI q] (ownH .tr x) (aI (q + cnT x)) (ownH .tr (mkT q x)) := by
  have hpt := cT_parts x
  have he := cnT_eq x
  rw [mkT_eq]
  refine ret_vc hT hM Tryz.func16 rfl rfl (m := 4) (nx := 4) rfl (Nat.le_of_ble_eq_true rfl) ?_
  (repeat' ((conv => whnf); first | (refine nx ?_; intro s) | (refine rg ?_; intro s k) | ((refine cas (fun h => ?_) (fun h => ?_)) <;> (try simp [-List.getD_eq_getElem?_getD] at h)) | ((refine may (fun h => ?_) ?_) <;> (try simp [-List.getD_eq_getElem?_getD] at h)) | (refine giv fun hg => ?_; (try simp only [byE] at hg)) | (refine need (by kernel_rfl) ?_) | (refine need ⟨by omega, by omega⟩ ?_) | (refine need (by omega) ?_) | (refine need (by first | (simp; done) | (simp; omega)) ?_) | (refine call_g [0] (r_markPairS x.pairs _ (by omega) (by omega)) rfl rfl rfl (by (repeat' (first | exact trivial | refine ⟨?_, ?_⟩ | exact rfl | exact Or.inr rfl | exact Or.inl (Nat.le_of_ble_eq_true rfl)))) (by (repeat' (first | exact trivial | refine ⟨?_, ?_⟩ | exact rfl | exact Or.inr rfl | exact Or.inl (Nat.le_of_ble_eq_true rfl)))) (by (repeat' (first | exact trivial | refine ⟨?_, ?_⟩ | exact rfl | exact Or.inr rfl | exact Or.inl (Nat.le_of_ble_eq_true rfl)))) (by (repeat' (first | exact trivial | refine ⟨?_, ?_⟩ | exact rfl | exact Or.inr rfl | exact Or.inl (Nat.le_of_ble_eq_true rfl)))) ?_) | (refine call_g [1] (r_markIntS x.cuts _ (by omega) (by omega)) rfl rfl rfl (by (repeat' (first | exact trivial | refine ⟨?_, ?_⟩ | exact rfl | exact Or.inr rfl | exact Or.inl (Nat.le_of_ble_eq_true rfl)))) (by (repeat' (first | exact trivial | refine ⟨?_, ?_⟩ | exact rfl | exact Or.inr rfl | exact Or.inl (Nat.le_of_ble_eq_true rfl)))) (by (repeat' (first | exact trivial | refine ⟨?_, ?_⟩ | exact rfl | exact Or.inr rfl | exact Or.inl (Nat.le_of_ble_eq_true rfl)))) (by (repeat' (first | exact trivial | refine ⟨?_, ?_⟩ | exact rfl | exact Or.inr rfl | exact Or.inl (Nat.le_of_ble_eq_true rfl)))) ?_) | (refine call_g [2] (r_markTreeS x.kids _ (by omega) (by omega)) rfl rfl rfl (by (repeat' (first | exact trivial | refine ⟨?_, ?_⟩ | exact rfl | exact Or.inr rfl | exact Or.inl (Nat.le_of_ble_eq_true rfl)))) (by (repeat' (first | exact trivial | refine ⟨?_, ?_⟩ | exact rfl | exact Or.inr rfl | exact Or.inl (Nat.le_of_ble_eq_true rfl)))) (by (repeat' (first | exact trivial | refine ⟨?_, ?_⟩ | exact rfl | exact Or.inr rfl | exact Or.inl (Nat.le_of_ble_eq_true rfl)))) (by (repeat' (first | exact trivial | refine ⟨?_, ?_⟩ | exact rfl | exact Or.inr rfl | exact Or.inl (Nat.le_of_ble_eq_true rfl)))) ?_) | (refine call_g [3] (r_markMsgS x.buf _ (by omega) (by omega)) rfl rfl rfl (by (repeat' (first | exact trivial | refine ⟨?_, ?_⟩ | exact rfl | exact Or.inr rfl | exact Or.inl (Nat.le_of_ble_eq_true rfl)))) (by (repeat' (first | exact trivial | refine ⟨?_, ?_⟩ | exact rfl | exact Or.inr rfl | exact Or.inl (Nat.le_of_ble_eq_true rfl)))) (by (repeat' (first | exact trivial | refine ⟨?_, ?_⟩ | exact rfl | exact Or.inr rfl | exact Or.inl (Nat.le_of_ble_eq_true rfl)))) (by (repeat' (first | exact trivial | refine ⟨?_, ?_⟩ | exact rfl | exact Or.inr rfl | exact Or.inl (Nat.le_of_ble_eq_true rfl)))) ?_) | (refine fin_au rfl ?_; (conv => whnf); ((repeat' (first | exact trivial | refine ⟨?_, ?_⟩ | exact rfl | exact Or.inr rfl | exact Or.inl (Nat.le_of_ble_eq_true rfl))) <;> (try (conv => whnf)) <;> (try (first | refine congrArg C.bool ?_ | refine congrArg (C.int .i64) ?_ | refine congrArg C.str ?_ | refine congrArg (fun l => some (Ob.row _ l)) ?_ | refine congrArg (fun l => some (Ob.dp _ l)) ?_ | refine congrArg (C.sl _) ?_)) <;> (try (rw [wrap_i64 (by omega) (by omega)]; first | rfl | omega)))) | (refine WkF.au ?_; (conv => whnf); ((repeat' (first | exact trivial | refine ⟨?_, ?_⟩ | exact rfl | exact Or.inr rfl | exact Or.inl (Nat.le_of_ble_eq_true rfl))) <;> (try (conv => whnf)) <;> (try (first | refine congrArg C.bool ?_ | refine congrArg (C.int .i64) ?_ | refine congrArg C.str ?_ | refine congrArg (fun l => some (Ob.row _ l)) ?_ | refine congrArg (fun l => some (Ob.dp _ l)) ?_ | refine congrArg (C.sl _) ?_)) <;> (try (rw [wrap_i64 (by omega) (by omega)]; first | rfl | omega)))) | (refine altl ?_) | fail))
  all_goals (rw [he]; omega)
end Go.Proofs.YthbpdhppelaihaaGreat
