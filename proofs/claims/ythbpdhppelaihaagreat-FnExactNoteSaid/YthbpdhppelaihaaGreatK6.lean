/- What holds the marks of worlds. Conditions: none. By program (gen8.py). -/
import Derived.Test.YthbpdhppelaihaaGreatK5
set_option linter.unusedVariables false
set_option linter.unusedSimpArgs false
namespace Go.Proofs.YthbpdhppelaihaaGreat
open Go.RowKit
attribute [local irreducible] Tri Weak
set_option maxRecDepth 4000
set_option maxHeartbeats 4000000
attribute [local irreducible] List.getD
theorem h_En {ys xs : List En} {q k : Int} (hy : ys = mkG fEn (cK 6) q xs) (hq : k = q) (h0 : 0 ≤ q) (h1 : q + cnG (cK 6) xs ≤ 4611686018427387904) : Ret Tryz.prog 192 [aL .en ys, aI k] [] (aI (q + cnG (cK 6) xs)) [] := by
  subst hy; subst hq; exact r_heldEntryS xs k h0 h1
theorem h_Dn {ys xs : List Dn} {q k : Int} (hy : ys = mkG fDn (cK 4) q xs) (hq : k = q) (h0 : 0 ≤ q) (h1 : q + cnG (cK 4) xs ≤ 4611686018427387904) : Ret Tryz.prog 115 [aL .dn ys, aI k] [] (aI (q + cnG (cK 4) xs)) [] := by
  subst hy; subst hq; exact r_heldDoneS xs k h0 h1
theorem h_Bool {ys xs : List Bool} {q k : Int} (hy : ys = mkG fBool (cK 1) q xs) (hq : k = q) (h0 : 0 ≤ q) (h1 : q + cnG (cK 1) xs ≤ 4611686018427387904) : Ret Tryz.prog 193 [aL .bool ys, aI k] [] (aI (q + cnG (cK 1) xs)) [] := by
  subst hy; subst hq; exact r_heldBoolS xs k h0 h1
theorem h_Tr {ys xs : List Tr} {q k : Int} (hy : ys = mkG fTr cTr q xs) (hq : k = q) (h0 : 0 ≤ q) (h1 : q + cnG cTr xs ≤ 4611686018427387904) : Ret Tryz.prog 68 [aL .tr ys, aI k] [] (aI (q + cnG cTr xs)) [] := by
  subst hy; subst hq; exact r_heldTreeS xs k h0 h1
theorem r_heldNodeS (xs : List Nd) (q : Int) (h0 : 0 ≤ q) (h1 : q + cnG cNd xs ≤ 4611686018427387904) : Ret Tryz.prog 112 [aL .nd (mkG fNd cNd q xs), aI q] [] (aI (q + cnG cNd xs)) [] := by
  refine ret_vc hT hM Tryz.func112 rfl rfl (m := 0) (nx := 0) rfl (Nat.le_of_ble_eq_true rfl) ?_
  (repeat ((conv => whnf); first | (refine nx ?_; intro s) | (refine rg ?_; intro s k))); (conv => whnf)
  refine Tri.loop (fun i : Nat => ⟨[(0, aL .nd (mkG fNd cNd q xs)), (1, aI (q + cnG cNd (xs.take i))), (5, aI i)], [], 0⟩) (fun i => i ≤ xs.length) (fun i => xs.length - i) 0 (Nat.zero_le _) ?_ ?_
  · (refine WkF.au ?_; (conv => whnf); ((repeat' (first | exact trivial | refine ⟨?_, ?_⟩ | exact rfl | exact Or.inr rfl | exact Or.inl (Nat.le_of_ble_eq_true rfl))) <;> (try (conv => whnf)) <;> (try (first | refine congrArg C.bool ?_ | refine congrArg (C.int .i64) ?_ | refine congrArg C.str ?_ | refine congrArg (fun l => some (Ob.row _ l)) ?_ | refine congrArg (fun l => some (Ob.dp _ l)) ?_ | refine congrArg (C.sl _) ?_)) <;> (try (rw [wrap_i64 (by omega) (by omega)]; first | rfl | omega))))
    all_goals (simp [cnG]; done)
  · intro i hi
    rcases Nat.lt_or_ge i xs.length with hl | hl
    · have hp := cnG_pos cNd_pos (xs.take i)
      have hq3 := cnG_take cNd_pos xs (i + 1)
      have hsu := cnG_succ (c := cNd) xs i (dflt .nd) hl
      have hpt := cNd_parts (xs.getD i (dflt .nd))
      have he0 := mkG_getD (f := fNd) (c := cNd) xs q i (dflt .nd) hl
      generalize hx : xs.getD i (dflt .nd) = x at *
      generalize hc0 : q + cnG cNd (xs.take i) = c0 at *
      have hyl : (mkG fNd cNd q xs).length = xs.length := mkG_len _ _
      generalize mkG fNd cNd q xs = ys at *
      obtain ⟨p1, hp1⟩ : ∃ p : Int, p = c0 + 1 + 1 + 1 + 1 + 1 + cnG (cK 6) x.log.list := ⟨_, rfl⟩
      obtain ⟨p2, hp2⟩ : ∃ p : Int, p = p1 + 1 + cnG (cK 2) x.snap.t.pairs := ⟨_, rfl⟩
      obtain ⟨p3, hp3⟩ : ∃ p : Int, p = p2 + cnG (cK 1) x.snap.t.cuts := ⟨_, rfl⟩
      obtain ⟨p4, hp4⟩ : ∃ p : Int, p = p3 + cnG cTr x.snap.t.kids := ⟨_, rfl⟩
      obtain ⟨p5, hp5⟩ : ∃ p : Int, p = p4 + cnG (cK 3) x.snap.t.buf := ⟨_, rfl⟩
      obtain ⟨p6, hp6⟩ : ∃ p : Int, p = p5 + cnG (cK 4) x.snap.last := ⟨_, rfl⟩
      obtain ⟨p7, hp7⟩ : ∃ p : Int, p = p6 + 1 + cnG (cK 1) x.votes := ⟨_, rfl⟩
      obtain ⟨p8, hp8⟩ : ∃ p : Int, p = p7 + cnG (cK 1) x.next := ⟨_, rfl⟩
      obtain ⟨p9, hp9⟩ : ∃ p : Int, p = p8 + cnG (cK 1) x.mtch := ⟨_, rfl⟩
      obtain ⟨p10, hp10⟩ : ∃ p : Int, p = p9 + 1 + 1 + cnG (cK 2) x.now.t.pairs := ⟨_, rfl⟩
      obtain ⟨p11, hp11⟩ : ∃ p : Int, p = p10 + cnG (cK 1) x.now.t.cuts := ⟨_, rfl⟩
      obtain ⟨p12, hp12⟩ : ∃ p : Int, p = p11 + cnG cTr x.now.t.kids := ⟨_, rfl⟩
      obtain ⟨p13, hp13⟩ : ∃ p : Int, p = p12 + cnG (cK 3) x.now.t.buf := ⟨_, rfl⟩
      obtain ⟨p14, hp14⟩ : ∃ p : Int, p = p13 + cnG (cK 4) x.now.last := ⟨_, rfl⟩
      have he : ys.getD i (dflt .nd) = ⟨c0, c0 + 1, c0 + 1 + 1, ⟨c0 + 1 + 1 + 1, c0 + 1 + 1 + 1 + 1, mkG fEn (cK 6) (c0 + 1 + 1 + 1 + 1 + 1) x.log.list⟩, ⟨⟨t3 (p1), mkG fPr (cK 2) (p1 + 1) x.snap.t.pairs, mkG fInt (cK 1) (p2) x.snap.t.cuts, mkG fTr cTr (p3) x.snap.t.kids, mkG fMs (cK 3) (p4) x.snap.t.buf⟩, mkG fDn (cK 4) (p5) x.snap.last⟩, p6, mkG fBool (cK 1) (p6 + 1) x.votes, mkG fInt (cK 1) (p7) x.next, mkG fInt (cK 1) (p8) x.mtch, p9, ⟨⟨t3 (p9 + 1), mkG fPr (cK 2) (p9 + 1 + 1) x.now.t.pairs, mkG fInt (cK 1) (p10) x.now.t.cuts, mkG fTr cTr (p11) x.now.t.kids, mkG fMs (cK 3) (p12) x.now.t.buf⟩, mkG fDn (cK 4) (p13) x.now.last⟩⟩ := by
        subst hp14 hp13 hp12 hp11 hp10 hp9 hp8 hp7 hp6 hp5 hp4 hp3 hp2 hp1
        exact he0
      clear he0
      have hs0 : IntKind.i64.wrap (c0 + 1) = c0 + 1 := wrap_i64 (by omega) (by omega)
      have hs1 : IntKind.i64.wrap (c0 + 1 + 1) = c0 + 1 + 1 := wrap_i64 (by omega) (by omega)
      have hs2 : IntKind.i64.wrap (c0 + 1 + 1 + 1) = c0 + 1 + 1 + 1 := wrap_i64 (by omega) (by omega)
      have hs3 : IntKind.i64.wrap (c0 + 1 + 1 + 1 + 1) = c0 + 1 + 1 + 1 + 1 := wrap_i64 (by omega) (by omega)
      have hs4 : IntKind.i64.wrap (c0 + 1 + 1 + 1 + 1 + 1) = c0 + 1 + 1 + 1 + 1 + 1 := wrap_i64 (by omega) (by omega)
      have hs5 : IntKind.i64.wrap (p1 + 1) = p1 + 1 := wrap_i64 (by omega) (by omega)
      have hs6 : IntKind.i64.wrap (p6 + 1) = p6 + 1 := wrap_i64 (by omega) (by omega)
      have hs7 : IntKind.i64.wrap (p9 + 1) = p9 + 1 := wrap_i64 (by omega) (by omega)
      have hs8 : IntKind.i64.wrap (p9 + 1 + 1) = p9 + 1 + 1 := wrap_i64 (by omega) (by omega)
      have q1 : Ret Tryz.prog 192 [aL .en (ys.getD i (dflt .nd)).log.list, aI (IntKind.i64.wrap (IntKind.i64.wrap (IntKind.i64.wrap (IntKind.i64.wrap (IntKind.i64.wrap (c0 + 1) + 1) + 1) + 1) + 1))] [] (aI p1) [] := by rw [hp1]; exact h_En (xs := x.log.list) (congrArg (fun n => n.log.list) he) (by simp only [hs0, hs1, hs2, hs3, hs4]) (by omega) (by omega)
      have q2 : Ret Tryz.prog 66 [aL .pr (ys.getD i (dflt .nd)).snap.t.pairs, aI (IntKind.i64.wrap (p1 + 1))] [] (aI p2) [] := by rw [hp2]; exact h_Pr (xs := x.snap.t.pairs) (congrArg (fun n => n.snap.t.pairs) he) (by simp only [hs0, hs1, hs2, hs3, hs4, hs5]) (by omega) (by omega)
      have q3 : Ret Tryz.prog 67 [aL .int (ys.getD i (dflt .nd)).snap.t.cuts, aI (p2)] [] (aI p3) [] := by rw [hp3]; exact h_In (xs := x.snap.t.cuts) (congrArg (fun n => n.snap.t.cuts) he) rfl (by omega) (by omega)
      have q4 : Ret Tryz.prog 68 [aL .tr (ys.getD i (dflt .nd)).snap.t.kids, aI (p3)] [] (aI p4) [] := by rw [hp4]; exact h_Tr (xs := x.snap.t.kids) (congrArg (fun n => n.snap.t.kids) he) rfl (by omega) (by omega)
      have q5 : Ret Tryz.prog 69 [aL .ms (ys.getD i (dflt .nd)).snap.t.buf, aI (p4)] [] (aI p5) [] := by rw [hp5]; exact h_Ms (xs := x.snap.t.buf) (congrArg (fun n => n.snap.t.buf) he) rfl (by omega) (by omega)
      have q6 : Ret Tryz.prog 115 [aL .dn (ys.getD i (dflt .nd)).snap.last, aI (p5)] [] (aI p6) [] := by rw [hp6]; exact h_Dn (xs := x.snap.last) (congrArg (fun n => n.snap.last) he) rfl (by omega) (by omega)
      have q7 : Ret Tryz.prog 193 [aL .bool (ys.getD i (dflt .nd)).votes, aI (IntKind.i64.wrap (p6 + 1))] [] (aI p7) [] := by rw [hp7]; exact h_Bool (xs := x.votes) (congrArg (fun n => n.votes) he) (by simp only [hs0, hs1, hs2, hs3, hs4, hs5, hs6]) (by omega) (by omega)
      have q8 : Ret Tryz.prog 67 [aL .int (ys.getD i (dflt .nd)).next, aI (p7)] [] (aI p8) [] := by rw [hp8]; exact h_In (xs := x.next) (congrArg (fun n => n.next) he) rfl (by omega) (by omega)
      have q9 : Ret Tryz.prog 67 [aL .int (ys.getD i (dflt .nd)).mtch, aI (p8)] [] (aI p9) [] := by rw [hp9]; exact h_In (xs := x.mtch) (congrArg (fun n => n.mtch) he) rfl (by omega) (by omega)
      have q10 : Ret Tryz.prog 66 [aL .pr (ys.getD i (dflt .nd)).now.t.pairs, aI (IntKind.i64.wrap (IntKind.i64.wrap (p9 + 1) + 1))] [] (aI p10) [] := by rw [hp10]; exact h_Pr (xs := x.now.t.pairs) (congrArg (fun n => n.now.t.pairs) he) (by simp only [hs0, hs1, hs2, hs3, hs4, hs5, hs6, hs7, hs8]) (by omega) (by omega)
      have q11 : Ret Tryz.prog 67 [aL .int (ys.getD i (dflt .nd)).now.t.cuts, aI (p10)] [] (aI p11) [] := by rw [hp11]; exact h_In (xs := x.now.t.cuts) (congrArg (fun n => n.now.t.cuts) he) rfl (by omega) (by omega)
      have q12 : Ret Tryz.prog 68 [aL .tr (ys.getD i (dflt .nd)).now.t.kids, aI (p11)] [] (aI p12) [] := by rw [hp12]; exact h_Tr (xs := x.now.t.kids) (congrArg (fun n => n.now.t.kids) he) rfl (by omega) (by omega)
      have q13 : Ret Tryz.prog 69 [aL .ms (ys.getD i (dflt .nd)).now.t.buf, aI (p12)] [] (aI p13) [] := by rw [hp13]; exact h_Ms (xs := x.now.t.buf) (congrArg (fun n => n.now.t.buf) he) rfl (by omega) (by omega)
      have q14 : Ret Tryz.prog 115 [aL .dn (ys.getD i (dflt .nd)).now.last, aI (p13)] [] (aI p14) [] := by rw [hp14]; exact h_Dn (xs := x.now.last) (congrArg (fun n => n.now.last) he) rfl (by omega) (by omega)
      refine vc_sound hT hM _ _ _ ?_
      (repeat' ((conv => whnf); first | (refine nx ?_; intro s) | (refine rg ?_; intro s k) | ((refine cas (fun h => ?_) (fun h => ?_)) <;> (try simp [-List.getD_eq_getElem?_getD, he, t3, hs0, hs1, hs2, hs3, hs4, hs5, hs6, hs7, hs8] at h)) | ((refine may (fun h => ?_) ?_) <;> (try simp [-List.getD_eq_getElem?_getD, he, t3, hs0, hs1, hs2, hs3, hs4, hs5, hs6, hs7, hs8] at h)) | (refine giv fun hg => ?_; (try simp only [byE] at hg)) | (refine need (by kernel_rfl) ?_) | (refine need ⟨by omega, by omega⟩ ?_) | (refine need (by omega) ?_) | (refine need (by first | (simp; done) | (simp; omega)) ?_) | (refine call_p (q1) rfl (by (repeat' (first | exact trivial | refine ⟨?_, ?_⟩ | exact rfl | exact Or.inr rfl | exact Or.inl (Nat.le_of_ble_eq_true rfl)))) ?_) | (refine call_p (q2) rfl (by (repeat' (first | exact trivial | refine ⟨?_, ?_⟩ | exact rfl | exact Or.inr rfl | exact Or.inl (Nat.le_of_ble_eq_true rfl)))) ?_) | (refine call_p (q3) rfl (by (repeat' (first | exact trivial | refine ⟨?_, ?_⟩ | exact rfl | exact Or.inr rfl | exact Or.inl (Nat.le_of_ble_eq_true rfl)))) ?_) | (refine call_p (q4) rfl (by (repeat' (first | exact trivial | refine ⟨?_, ?_⟩ | exact rfl | exact Or.inr rfl | exact Or.inl (Nat.le_of_ble_eq_true rfl)))) ?_) | (refine call_p (q5) rfl (by (repeat' (first | exact trivial | refine ⟨?_, ?_⟩ | exact rfl | exact Or.inr rfl | exact Or.inl (Nat.le_of_ble_eq_true rfl)))) ?_) | (refine call_p (q6) rfl (by (repeat' (first | exact trivial | refine ⟨?_, ?_⟩ | exact rfl | exact Or.inr rfl | exact Or.inl (Nat.le_of_ble_eq_true rfl)))) ?_) | (refine call_p (q7) rfl (by (repeat' (first | exact trivial | refine ⟨?_, ?_⟩ | exact rfl | exact Or.inr rfl | exact Or.inl (Nat.le_of_ble_eq_true rfl)))) ?_) | (refine call_p (q8) rfl (by (repeat' (first | exact trivial | refine ⟨?_, ?_⟩ | exact rfl | exact Or.inr rfl | exact Or.inl (Nat.le_of_ble_eq_true rfl)))) ?_) | (refine call_p (q9) rfl (by (repeat' (first | exact trivial | refine ⟨?_, ?_⟩ | exact rfl | exact Or.inr rfl | exact Or.inl (Nat.le_of_ble_eq_true rfl)))) ?_) | (refine call_p (q10) rfl (by (repeat' (first | exact trivial | refine ⟨?_, ?_⟩ | exact rfl | exact Or.inr rfl | exact Or.inl (Nat.le_of_ble_eq_true rfl)))) ?_) | (refine call_p (q11) rfl (by (repeat' (first | exact trivial | refine ⟨?_, ?_⟩ | exact rfl | exact Or.inr rfl | exact Or.inl (Nat.le_of_ble_eq_true rfl)))) ?_) | (refine call_p (q12) rfl (by (repeat' (first | exact trivial | refine ⟨?_, ?_⟩ | exact rfl | exact Or.inr rfl | exact Or.inl (Nat.le_of_ble_eq_true rfl)))) ?_) | (refine call_p (q13) rfl (by (repeat' (first | exact trivial | refine ⟨?_, ?_⟩ | exact rfl | exact Or.inr rfl | exact Or.inl (Nat.le_of_ble_eq_true rfl)))) ?_) | (refine call_p (q14) rfl (by (repeat' (first | exact trivial | refine ⟨?_, ?_⟩ | exact rfl | exact Or.inr rfl | exact Or.inl (Nat.le_of_ble_eq_true rfl)))) ?_) | (refine ⟨(i + 1 : Nat), ?_, ?_, ?_⟩) | (exfalso; omega) | (refine fin_au rfl ?_; (conv => whnf); ((repeat' (first | exact trivial | refine ⟨?_, ?_⟩ | exact rfl | exact Or.inr rfl | exact Or.inl (Nat.le_of_ble_eq_true rfl))) <;> (try (conv => whnf)) <;> (try (first | refine congrArg C.bool ?_ | refine congrArg (C.int .i64) ?_ | refine congrArg C.str ?_ | refine congrArg (fun l => some (Ob.row _ l)) ?_ | refine congrArg (fun l => some (Ob.dp _ l)) ?_ | refine congrArg (C.sl _) ?_)) <;> (try (rw [wrap_i64 (by omega) (by omega)]; first | rfl | omega)))) | (refine WkF.au ?_; (conv => whnf); ((repeat' (first | exact trivial | refine ⟨?_, ?_⟩ | exact rfl | exact Or.inr rfl | exact Or.inl (Nat.le_of_ble_eq_true rfl))) <;> (try (conv => whnf)) <;> (try (first | refine congrArg C.bool ?_ | refine congrArg (C.int .i64) ?_ | refine congrArg C.str ?_ | refine congrArg (fun l => some (Ob.row _ l)) ?_ | refine congrArg (fun l => some (Ob.dp _ l)) ?_ | refine congrArg (C.sl _) ?_)) <;> (try (rw [wrap_i64 (by omega) (by omega)]; first | rfl | omega)))) | (refine altl ?_) | fail))
      all_goals first
        | omega
        | (simp only [hs0, hs1, hs2, hs3, hs4, hs5, hs6, hs7, hs8]; omega)
    · refine vc_sound hT hM _ _ _ ?_
      (repeat' ((conv => whnf); first | (refine nx ?_; intro s) | (refine rg ?_; intro s k) | ((refine cas (fun h => ?_) (fun h => ?_)) <;> (try simp [-List.getD_eq_getElem?_getD] at h)) | ((refine may (fun h => ?_) ?_) <;> (try simp [-List.getD_eq_getElem?_getD] at h)) | (refine giv fun hg => ?_; (try simp only [byE] at hg)) | (refine need (by kernel_rfl) ?_) | (refine need ⟨by omega, by omega⟩ ?_) | (refine need (by omega) ?_) | (refine need (by first | (simp; done) | (simp; omega)) ?_) | (exfalso; omega) | (refine WkF.au ?_; (conv => whnf); ((repeat' (first | exact trivial | refine ⟨?_, ?_⟩ | exact rfl | exact Or.inr rfl | exact Or.inl (Nat.le_of_ble_eq_true rfl))) <;> (try (conv => whnf)) <;> (try (first | refine congrArg C.bool ?_ | refine congrArg (C.int .i64) ?_ | refine congrArg C.str ?_ | refine congrArg (fun l => some (Ob.row _ l)) ?_ | refine congrArg (fun l => some (Ob.dp _ l)) ?_ | refine congrArg (C.sl _) ?_)) <;> (try (rw [wrap_i64 (by omega) (by omega)]; first | rfl | omega)))) | (refine altl ?_) | fail))
      all_goals first | (exfalso; omega) | skip
      (refine fin_au rfl ?_; (conv => whnf); ((repeat' (first | exact trivial | refine ⟨?_, ?_⟩ | exact rfl | exact Or.inr rfl | exact Or.inl (Nat.le_of_ble_eq_true rfl))) <;> (try (conv => whnf)) <;> (try (first | refine congrArg C.bool ?_ | refine congrArg (C.int .i64) ?_ | refine congrArg C.str ?_ | refine congrArg (fun l => some (Ob.row _ l)) ?_ | refine congrArg (fun l => some (Ob.dp _ l)) ?_ | refine congrArg (C.sl _) ?_)) <;> (try (rw [wrap_i64 (by omega) (by omega)]; first | rfl | omega))))
      all_goals first
        | (rw [cnG_all (by omega)]; done)
theorem r_heldRpcS (xs : List Rp) (q : Int) (h0 : 0 ≤ q) (h1 : q + cnG cRp xs ≤ 4611686018427387904) : Ret Tryz.prog 113 [aL .rp (mkG fRp cRp q xs), aI q] [] (aI (q + cnG cRp xs)) [] := by
  refine ret_vc hT hM Tryz.func113 rfl rfl (m := 0) (nx := 0) rfl (Nat.le_of_ble_eq_true rfl) ?_
  (repeat ((conv => whnf); first | (refine nx ?_; intro s) | (refine rg ?_; intro s k))); (conv => whnf)
  refine Tri.loop (fun i : Nat => ⟨[(0, aL .rp (mkG fRp cRp q xs)), (1, aI (q + cnG cRp (xs.take i))), (5, aI i)], [], 0⟩) (fun i => i ≤ xs.length) (fun i => xs.length - i) 0 (Nat.zero_le _) ?_ ?_
  · (refine WkF.au ?_; (conv => whnf); ((repeat' (first | exact trivial | refine ⟨?_, ?_⟩ | exact rfl | exact Or.inr rfl | exact Or.inl (Nat.le_of_ble_eq_true rfl))) <;> (try (conv => whnf)) <;> (try (first | refine congrArg C.bool ?_ | refine congrArg (C.int .i64) ?_ | refine congrArg C.str ?_ | refine congrArg (fun l => some (Ob.row _ l)) ?_ | refine congrArg (fun l => some (Ob.dp _ l)) ?_ | refine congrArg (C.sl _) ?_)) <;> (try (rw [wrap_i64 (by omega) (by omega)]; first | rfl | omega))))
    all_goals (simp [cnG]; done)
  · intro i hi
    rcases Nat.lt_or_ge i xs.length with hl | hl
    · have hp := cnG_pos cRp_pos (xs.take i)
      have hq3 := cnG_take cRp_pos xs (i + 1)
      have hsu := cnG_succ (c := cRp) xs i (dflt .rp) hl
      have hpt := cRp_parts (xs.getD i (dflt .rp))
      have he0 := mkG_getD (f := fRp) (c := cRp) xs q i (dflt .rp) hl
      generalize hx : xs.getD i (dflt .rp) = x at *
      generalize hc0 : q + cnG cRp (xs.take i) = c0 at *
      have hyl : (mkG fRp cRp q xs).length = xs.length := mkG_len _ _
      generalize mkG fRp cRp q xs = ys at *
      obtain ⟨p1, hp1⟩ : ∃ p : Int, p = c0 + 1 + 1 + 1 + 1 + 1 + 1 + 1 + 1 + cnG (cK 6) x.entries := ⟨_, rfl⟩
      obtain ⟨p2, hp2⟩ : ∃ p : Int, p = p1 + 1 + cnG (cK 2) x.snap.t.pairs := ⟨_, rfl⟩
      obtain ⟨p3, hp3⟩ : ∃ p : Int, p = p2 + cnG (cK 1) x.snap.t.cuts := ⟨_, rfl⟩
      obtain ⟨p4, hp4⟩ : ∃ p : Int, p = p3 + cnG cTr x.snap.t.kids := ⟨_, rfl⟩
      obtain ⟨p5, hp5⟩ : ∃ p : Int, p = p4 + cnG (cK 3) x.snap.t.buf := ⟨_, rfl⟩
      obtain ⟨p6, hp6⟩ : ∃ p : Int, p = p5 + cnG (cK 4) x.snap.last := ⟨_, rfl⟩
      have he : ys.getD i (dflt .rp) = ⟨c0, c0 + 1, c0 + 1 + 1, c0 + 1 + 1 + 1, c0 + 1 + 1 + 1 + 1, c0 + 1 + 1 + 1 + 1 + 1, c0 + 1 + 1 + 1 + 1 + 1 + 1, t3 (c0 + 1 + 1 + 1 + 1 + 1 + 1 + 1), mkG fEn (cK 6) (c0 + 1 + 1 + 1 + 1 + 1 + 1 + 1 + 1) x.entries, ⟨⟨t3 (p1), mkG fPr (cK 2) (p1 + 1) x.snap.t.pairs, mkG fInt (cK 1) (p2) x.snap.t.cuts, mkG fTr cTr (p3) x.snap.t.kids, mkG fMs (cK 3) (p4) x.snap.t.buf⟩, mkG fDn (cK 4) (p5) x.snap.last⟩⟩ := by
        subst hp6 hp5 hp4 hp3 hp2 hp1
        exact he0
      clear he0
      have hs0 : IntKind.i64.wrap (c0 + 1) = c0 + 1 := wrap_i64 (by omega) (by omega)
      have hs1 : IntKind.i64.wrap (c0 + 1 + 1) = c0 + 1 + 1 := wrap_i64 (by omega) (by omega)
      have hs2 : IntKind.i64.wrap (c0 + 1 + 1 + 1) = c0 + 1 + 1 + 1 := wrap_i64 (by omega) (by omega)
      have hs3 : IntKind.i64.wrap (c0 + 1 + 1 + 1 + 1) = c0 + 1 + 1 + 1 + 1 := wrap_i64 (by omega) (by omega)
      have hs4 : IntKind.i64.wrap (c0 + 1 + 1 + 1 + 1 + 1) = c0 + 1 + 1 + 1 + 1 + 1 := wrap_i64 (by omega) (by omega)
      have hs5 : IntKind.i64.wrap (c0 + 1 + 1 + 1 + 1 + 1 + 1) = c0 + 1 + 1 + 1 + 1 + 1 + 1 := wrap_i64 (by omega) (by omega)
      have hs6 : IntKind.i64.wrap (c0 + 1 + 1 + 1 + 1 + 1 + 1 + 1) = c0 + 1 + 1 + 1 + 1 + 1 + 1 + 1 := wrap_i64 (by omega) (by omega)
      have hs7 : IntKind.i64.wrap (c0 + 1 + 1 + 1 + 1 + 1 + 1 + 1 + 1) = c0 + 1 + 1 + 1 + 1 + 1 + 1 + 1 + 1 := wrap_i64 (by omega) (by omega)
      have hs8 : IntKind.i64.wrap (p1 + 1) = p1 + 1 := wrap_i64 (by omega) (by omega)
      have q1 : Ret Tryz.prog 192 [aL .en (ys.getD i (dflt .rp)).entries, aI (IntKind.i64.wrap (IntKind.i64.wrap (IntKind.i64.wrap (IntKind.i64.wrap (IntKind.i64.wrap (IntKind.i64.wrap (IntKind.i64.wrap (IntKind.i64.wrap (c0 + 1) + 1) + 1) + 1) + 1) + 1) + 1) + 1))] [] (aI p1) [] := by rw [hp1]; exact h_En (xs := x.entries) (congrArg (fun n => n.entries) he) (by simp only [hs0, hs1, hs2, hs3, hs4, hs5, hs6, hs7]) (by omega) (by omega)
      have q2 : Ret Tryz.prog 66 [aL .pr (ys.getD i (dflt .rp)).snap.t.pairs, aI (IntKind.i64.wrap (p1 + 1))] [] (aI p2) [] := by rw [hp2]; exact h_Pr (xs := x.snap.t.pairs) (congrArg (fun n => n.snap.t.pairs) he) (by simp only [hs0, hs1, hs2, hs3, hs4, hs5, hs6, hs7, hs8]) (by omega) (by omega)
      have q3 : Ret Tryz.prog 67 [aL .int (ys.getD i (dflt .rp)).snap.t.cuts, aI (p2)] [] (aI p3) [] := by rw [hp3]; exact h_In (xs := x.snap.t.cuts) (congrArg (fun n => n.snap.t.cuts) he) rfl (by omega) (by omega)
      have q4 : Ret Tryz.prog 68 [aL .tr (ys.getD i (dflt .rp)).snap.t.kids, aI (p3)] [] (aI p4) [] := by rw [hp4]; exact h_Tr (xs := x.snap.t.kids) (congrArg (fun n => n.snap.t.kids) he) rfl (by omega) (by omega)
      have q5 : Ret Tryz.prog 69 [aL .ms (ys.getD i (dflt .rp)).snap.t.buf, aI (p4)] [] (aI p5) [] := by rw [hp5]; exact h_Ms (xs := x.snap.t.buf) (congrArg (fun n => n.snap.t.buf) he) rfl (by omega) (by omega)
      have q6 : Ret Tryz.prog 115 [aL .dn (ys.getD i (dflt .rp)).snap.last, aI (p5)] [] (aI p6) [] := by rw [hp6]; exact h_Dn (xs := x.snap.last) (congrArg (fun n => n.snap.last) he) rfl (by omega) (by omega)
      refine vc_sound hT hM _ _ _ ?_
      (repeat' ((conv => whnf); first | (refine nx ?_; intro s) | (refine rg ?_; intro s k) | ((refine cas (fun h => ?_) (fun h => ?_)) <;> (try simp [-List.getD_eq_getElem?_getD, he, t3, hs0, hs1, hs2, hs3, hs4, hs5, hs6, hs7, hs8] at h)) | ((refine may (fun h => ?_) ?_) <;> (try simp [-List.getD_eq_getElem?_getD, he, t3, hs0, hs1, hs2, hs3, hs4, hs5, hs6, hs7, hs8] at h)) | (refine giv fun hg => ?_; (try simp only [byE] at hg)) | (refine need (by kernel_rfl) ?_) | (refine need ⟨by omega, by omega⟩ ?_) | (refine need (by omega) ?_) | (refine need (by first | (simp; done) | (simp; omega)) ?_) | (refine call_p (q1) rfl (by (repeat' (first | exact trivial | refine ⟨?_, ?_⟩ | exact rfl | exact Or.inr rfl | exact Or.inl (Nat.le_of_ble_eq_true rfl)))) ?_) | (refine call_p (q2) rfl (by (repeat' (first | exact trivial | refine ⟨?_, ?_⟩ | exact rfl | exact Or.inr rfl | exact Or.inl (Nat.le_of_ble_eq_true rfl)))) ?_) | (refine call_p (q3) rfl (by (repeat' (first | exact trivial | refine ⟨?_, ?_⟩ | exact rfl | exact Or.inr rfl | exact Or.inl (Nat.le_of_ble_eq_true rfl)))) ?_) | (refine call_p (q4) rfl (by (repeat' (first | exact trivial | refine ⟨?_, ?_⟩ | exact rfl | exact Or.inr rfl | exact Or.inl (Nat.le_of_ble_eq_true rfl)))) ?_) | (refine call_p (q5) rfl (by (repeat' (first | exact trivial | refine ⟨?_, ?_⟩ | exact rfl | exact Or.inr rfl | exact Or.inl (Nat.le_of_ble_eq_true rfl)))) ?_) | (refine call_p (q6) rfl (by (repeat' (first | exact trivial | refine ⟨?_, ?_⟩ | exact rfl | exact Or.inr rfl | exact Or.inl (Nat.le_of_ble_eq_true rfl)))) ?_) | (refine ⟨(i + 1 : Nat), ?_, ?_, ?_⟩) | (exfalso; omega) | (refine fin_au rfl ?_; (conv => whnf); ((repeat' (first | exact trivial | refine ⟨?_, ?_⟩ | exact rfl | exact Or.inr rfl | exact Or.inl (Nat.le_of_ble_eq_true rfl))) <;> (try (conv => whnf)) <;> (try (first | refine congrArg C.bool ?_ | refine congrArg (C.int .i64) ?_ | refine congrArg C.str ?_ | refine congrArg (fun l => some (Ob.row _ l)) ?_ | refine congrArg (fun l => some (Ob.dp _ l)) ?_ | refine congrArg (C.sl _) ?_)) <;> (try (rw [wrap_i64 (by omega) (by omega)]; first | rfl | omega)))) | (refine WkF.au ?_; (conv => whnf); ((repeat' (first | exact trivial | refine ⟨?_, ?_⟩ | exact rfl | exact Or.inr rfl | exact Or.inl (Nat.le_of_ble_eq_true rfl))) <;> (try (conv => whnf)) <;> (try (first | refine congrArg C.bool ?_ | refine congrArg (C.int .i64) ?_ | refine congrArg C.str ?_ | refine congrArg (fun l => some (Ob.row _ l)) ?_ | refine congrArg (fun l => some (Ob.dp _ l)) ?_ | refine congrArg (C.sl _) ?_)) <;> (try (rw [wrap_i64 (by omega) (by omega)]; first | rfl | omega)))) | (refine altl ?_) | fail))
      all_goals first
        | omega
        | (simp only [hs0, hs1, hs2, hs3, hs4, hs5, hs6, hs7, hs8]; omega)
    · refine vc_sound hT hM _ _ _ ?_
      (repeat' ((conv => whnf); first | (refine nx ?_; intro s) | (refine rg ?_; intro s k) | ((refine cas (fun h => ?_) (fun h => ?_)) <;> (try simp [-List.getD_eq_getElem?_getD] at h)) | ((refine may (fun h => ?_) ?_) <;> (try simp [-List.getD_eq_getElem?_getD] at h)) | (refine giv fun hg => ?_; (try simp only [byE] at hg)) | (refine need (by kernel_rfl) ?_) | (refine need ⟨by omega, by omega⟩ ?_) | (refine need (by omega) ?_) | (refine need (by first | (simp; done) | (simp; omega)) ?_) | (exfalso; omega) | (refine WkF.au ?_; (conv => whnf); ((repeat' (first | exact trivial | refine ⟨?_, ?_⟩ | exact rfl | exact Or.inr rfl | exact Or.inl (Nat.le_of_ble_eq_true rfl))) <;> (try (conv => whnf)) <;> (try (first | refine congrArg C.bool ?_ | refine congrArg (C.int .i64) ?_ | refine congrArg C.str ?_ | refine congrArg (fun l => some (Ob.row _ l)) ?_ | refine congrArg (fun l => some (Ob.dp _ l)) ?_ | refine congrArg (C.sl _) ?_)) <;> (try (rw [wrap_i64 (by omega) (by omega)]; first | rfl | omega)))) | (refine altl ?_) | fail))
      all_goals first | (exfalso; omega) | skip
      (refine fin_au rfl ?_; (conv => whnf); ((repeat' (first | exact trivial | refine ⟨?_, ?_⟩ | exact rfl | exact Or.inr rfl | exact Or.inl (Nat.le_of_ble_eq_true rfl))) <;> (try (conv => whnf)) <;> (try (first | refine congrArg C.bool ?_ | refine congrArg (C.int .i64) ?_ | refine congrArg C.str ?_ | refine congrArg (fun l => some (Ob.row _ l)) ?_ | refine congrArg (fun l => some (Ob.dp _ l)) ?_ | refine congrArg (C.sl _) ?_)) <;> (try (rw [wrap_i64 (by omega) (by omega)]; first | rfl | omega))))
      all_goals first
        | (rw [cnG_all (by omega)]; done)
theorem r_heldWorld (x : Wd) (q : Int) (h0 : 0 ≤ q) (h1 : q + cnWd x ≤ 4611686018427387904) : Ret Tryz.prog 35 [agL (Wd.cells (mkWd q x)), aI q] [] (aI (q + cnWd x)) [] := by
  have hpt := cnWd_parts x
  refine ret_vc hT hM Tryz.func35 rfl rfl (m := 0) (nx := 0) rfl (Nat.le_of_ble_eq_true rfl) ?_
  (repeat' ((conv => whnf); first | (refine nx ?_; intro s) | (refine rg ?_; intro s k) | ((refine cas (fun h => ?_) (fun h => ?_)) <;> (try simp [-List.getD_eq_getElem?_getD] at h)) | ((refine may (fun h => ?_) ?_) <;> (try simp [-List.getD_eq_getElem?_getD] at h)) | (refine giv fun hg => ?_; (try simp only [byE] at hg)) | (refine need (by kernel_rfl) ?_) | (refine need ⟨by omega, by omega⟩ ?_) | (refine need (by omega) ?_) | (refine need (by first | (simp; done) | (simp; omega)) ?_) | (refine call_p (r_heldNodeS x.nodes _ (by omega) (by omega)) rfl (by (repeat' (first | exact trivial | refine ⟨?_, ?_⟩ | exact rfl | exact Or.inr rfl | exact Or.inl (Nat.le_of_ble_eq_true rfl)))) ?_) | (refine call_p (r_heldRpcS x.net _ (by omega) (by omega)) rfl (by (repeat' (first | exact trivial | refine ⟨?_, ?_⟩ | exact rfl | exact Or.inr rfl | exact Or.inl (Nat.le_of_ble_eq_true rfl)))) ?_) | (refine call_p (r_heldCmdS x.chosen _ (by omega) (by omega)) rfl (by (repeat' (first | exact trivial | refine ⟨?_, ?_⟩ | exact rfl | exact Or.inr rfl | exact Or.inl (Nat.le_of_ble_eq_true rfl)))) ?_) | (refine call_p (r_heldDoneS x.acks _ (by omega) (by omega)) rfl (by (repeat' (first | exact trivial | refine ⟨?_, ?_⟩ | exact rfl | exact Or.inr rfl | exact Or.inl (Nat.le_of_ble_eq_true rfl)))) ?_) | (refine call_p (r_heldLeadS x.led _ (by omega) (by omega)) rfl (by (repeat' (first | exact trivial | refine ⟨?_, ?_⟩ | exact rfl | exact Or.inr rfl | exact Or.inl (Nat.le_of_ble_eq_true rfl)))) ?_) | (exfalso; omega) | (refine fin_au rfl ?_; (conv => whnf); ((repeat' (first | exact trivial | refine ⟨?_, ?_⟩ | exact rfl | exact Or.inr rfl | exact Or.inl (Nat.le_of_ble_eq_true rfl))) <;> (try (conv => whnf)) <;> (try (first | refine congrArg C.bool ?_ | refine congrArg (C.int .i64) ?_ | refine congrArg C.str ?_ | refine congrArg (fun l => some (Ob.row _ l)) ?_ | refine congrArg (fun l => some (Ob.dp _ l)) ?_ | refine congrArg (C.sl _) ?_)) <;> (try (rw [wrap_i64 (by omega) (by omega)]; first | rfl | omega)))) | (refine WkF.au ?_; (conv => whnf); ((repeat' (first | exact trivial | refine ⟨?_, ?_⟩ | exact rfl | exact Or.inr rfl | exact Or.inl (Nat.le_of_ble_eq_true rfl))) <;> (try (conv => whnf)) <;> (try (first | refine congrArg C.bool ?_ | refine congrArg (C.int .i64) ?_ | refine congrArg C.str ?_ | refine congrArg (fun l => some (Ob.row _ l)) ?_ | refine congrArg (fun l => some (Ob.dp _ l)) ?_ | refine congrArg (C.sl _) ?_)) <;> (try (rw [wrap_i64 (by omega) (by omega)]; first | rfl | omega)))) | (refine altl ?_) | fail))
  all_goals (first | omega | rfl)
end Go.Proofs.YthbpdhppelaihaaGreat
