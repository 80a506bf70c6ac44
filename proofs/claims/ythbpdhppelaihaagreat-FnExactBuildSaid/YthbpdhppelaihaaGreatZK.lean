/- Joined: K1 K2 K3 K4. -/
import Derived.Test.YthbpdhppelaihaaGreatP3
import Derived.Test.YthbpdhppelaihaaGreatP8
/- Marks: every number turned to the next number, every bool to whether three goes into it; and what holds them. Conditions: none. -/
set_option linter.unusedVariables false
set_option linter.unusedSimpArgs false
namespace Go.Proofs.YthbpdhppelaihaaGreat
open Go.RowKit
attribute [local irreducible] Tri Weak
set_option maxRecDepth 4000
set_option maxHeartbeats 4000000
def mkG {α : Type} (f : Int → α → α) (c : α → Int) : Int → List α → List α
  | _, [] => []
  | k, x :: xs => f k x :: mkG f c (k + c x) xs
def cnG {α : Type} (c : α → Int) : List α → Int
  | [] => 0
  | x :: xs => c x + cnG c xs
def mkR {α : Type} (f : Int → α → α) (c : α → Int) (k : Int) (xs : List α) (i : Nat) : List α := mkG f c k (xs.take i) ++ xs.drop i
variable {α : Type} {f : Int → α → α} {c : α → Int}
@[simp] theorem mkG_len : ∀ (xs : List α) (k : Int), (mkG f c k xs).length = xs.length
  | [], _ => rfl
  | x :: xs, k => by simp [mkG, mkG_len xs]
theorem cnG_succ : ∀ (xs : List α) (i : Nat) (d : α), i < xs.length → cnG c (xs.take (i + 1)) = cnG c (xs.take i) + c (xs.getD i d)
  | x :: xs, 0, d, _ => by simp [cnG]
  | x :: xs, i + 1, d, h => by
    have := cnG_succ xs i d (by simpa using h)
    simp only [List.take_succ_cons, cnG, List.getD_cons_succ]
    omega
theorem mkG_succ : ∀ (xs : List α) (k : Int) (i : Nat) (d : α), i < xs.length → mkG f c k (xs.take (i + 1)) = mkG f c k (xs.take i) ++ [f (k + cnG c (xs.take i)) (xs.getD i d)]
  | x :: xs, k, 0, d, _ => by simp [mkG, cnG]
  | x :: xs, k, i + 1, d, h => by
    have := mkG_succ xs (k + c x) i d (by simpa using h)
    simp only [List.take_succ_cons, cnG, List.getD_cons_succ, mkG, List.cons_append]
    rw [this, Int.add_assoc]
theorem mkG_getD : ∀ (xs : List α) (k : Int) (i : Nat) (d : α), i < xs.length → (mkG f c k xs).getD i d = f (k + cnG c (xs.take i)) (xs.getD i d)
  | x :: xs, k, 0, d, _ => by simp [mkG, cnG]
  | x :: xs, k, i + 1, d, h => by
    have := mkG_getD xs (k + c x) i d (by simpa using h)
    simp only [List.take_succ_cons, cnG, List.getD_cons_succ, mkG]
    rw [this, Int.add_assoc]
theorem cnG_pos (h : ∀ x, 0 ≤ c x) : ∀ xs : List α, 0 ≤ cnG c xs
  | [] => by simp [cnG]
  | x :: xs => by
    have := cnG_pos h xs
    have := h x
    simp only [cnG]; omega
theorem cnG_take (h : ∀ x, 0 ≤ c x) : ∀ (xs : List α) (i : Nat), cnG c (xs.take i) ≤ cnG c xs
  | [], i => by simp [cnG]
  | x :: xs, 0 => by simpa [cnG] using cnG_pos h (x :: xs)
  | x :: xs, i + 1 => by
    have := cnG_take h xs i
    simp only [List.take_succ_cons, cnG]; omega
theorem cnG_all {xs : List α} {i : Nat} (h : xs.length ≤ i) : cnG c (xs.take i) = cnG c xs := by rw [List.take_of_length_le h]
@[simp] theorem mkR_len (xs : List α) (k : Int) (i : Nat) : (mkR f c k xs i).length = xs.length := by
  simp only [mkR, List.length_append, mkG_len, List.length_take, List.length_drop]; omega
theorem mkR_zero (xs : List α) (k : Int) : mkR f c k xs 0 = xs := by simp [mkR, mkG]
theorem mkR_get (xs : List α) (k : Int) (i : Nat) (d : α) (h : i < xs.length) : (mkR f c k xs i).getD i d = xs.getD i d := by
  have hl : (mkG f c k (xs.take i)).length = i := by rw [mkG_len, List.length_take]; omega
  rw [List.getD_eq_getElem?_getD, List.getD_eq_getElem?_getD]
  unfold mkR
  rw [List.getElem?_append_right (by omega), hl, Nat.sub_self, List.getElem?_drop]
  rfl
theorem mkR_set (xs : List α) (k : Int) (i : Nat) (d : α) (h : i < xs.length) : (mkR f c k xs i).set i (f (k + cnG c (xs.take i)) (xs.getD i d)) = mkR f c k xs (i + 1) := by
  have hl : (mkG f c k (xs.take i)).length = i := by rw [mkG_len, List.length_take]; omega
  unfold mkR
  rw [List.set_append_right _ _ (by omega), hl, Nat.sub_self, mkG_succ xs k i d h, drop_getD h d, List.set_cons_zero, List.append_assoc]
  rfl
theorem mkR_all {xs : List α} {i : Nat} (k : Int) (h : xs.length ≤ i) : mkR f c k xs i = mkG f c k xs := by
  unfold mkR
  rw [List.take_of_length_le h, List.drop_eq_nil_of_le h, List.append_nil]
theorem set_getD (xs : List α) (i : Nat) (y d : α) (h : i < xs.length) : (xs.set i y).getD i d = y := by
  rw [List.getD_eq_getElem?_getD, List.getElem?_set_self h]; rfl
abbrev cK {α : Type} (n : Int) (_ : α) : Int := n
theorem cK_pos {α : Type} {n : Int} (h : 0 ≤ n) (x : α) : 0 ≤ cK n x := h
def t3 (k : Int) : Bool := decide (k.tmod 3 = 0)
end Go.Proofs.YthbpdhppelaihaaGreat
/- Marks of flat rows, and what holds them. Conditions: none. By program (gen5.py). -/
set_option linter.unusedVariables false
set_option linter.unusedSimpArgs false
namespace Go.Proofs.YthbpdhppelaihaaGreat
open Go.RowKit
attribute [local irreducible] Tri Weak
set_option maxRecDepth 4000
set_option maxHeartbeats 4000000
def fPr (k : Int) (_ : Pr) : Pr := ⟨k, k + 1⟩
theorem r_markPairS (xs : List Pr) (q : Int) (h0 : 0 ≤ q) (h1 : q + cnG (cK 2) xs ≤ 4611686018427387904) : Ret Tryz.prog 15 [.rw 0, aI q] [(0, .row .pr xs)] (aI (q + cnG (cK 2) xs)) [(0, .row .pr (mkG fPr (cK 2) q xs))] := by
  refine ret_vc hT hM Tryz.func15 rfl rfl (m := 1) (nx := 1) rfl (Nat.le_of_ble_eq_true rfl) ?_
  (repeat ((conv => whnf); first | (refine nx ?_; intro s) | (refine rg ?_; intro s k))); (conv => whnf)
  refine Tri.loop (fun i : Nat => ⟨[(0, .rw 0), (1, aI (q + cnG (cK 2) (xs.take i))), (5, aI i)], [(0, .row .pr (mkR fPr (cK 2) q xs i))], 1⟩) (fun i => i ≤ xs.length) (fun i => xs.length - i) 0 (Nat.zero_le _) ?_ ?_
  · (refine WkF.au ?_; (conv => whnf); ((repeat' (first | exact trivial | refine ⟨?_, ?_⟩ | exact rfl | exact Or.inr rfl | exact Or.inl (Nat.le_of_ble_eq_true rfl) | exact Or.inl rfl)) <;> (try (conv => whnf)) <;> (try (first | refine congrArg C.bool ?_ | refine congrArg (C.int .i64) ?_ | refine congrArg C.str ?_ | refine congrArg (fun l => some (Ob.row _ l)) ?_ | refine congrArg (fun l => some (Ob.dp _ l)) ?_ | refine congrArg (C.sl _) ?_)) <;> (try (rw [wrap_i64 (by omega) (by omega)]; first | rfl | omega))))
    all_goals first | (simp [cnG]; done) | exact (mkR_zero _ _).symm
  · intro i hi
    have hp := cnG_pos (c := cK (α := Pr) 2) (cK_pos (by decide)) (xs.take i)
    have hq2 := cnG_take (c := cK (α := Pr) 2) (cK_pos (by decide)) xs i
    have hq3 := cnG_take (c := cK (α := Pr) 2) (cK_pos (by decide)) xs (i + 1)
    have hn : i < xs.length → cnG (cK 2) (xs.take (i + 1)) = cnG (cK 2) (xs.take i) + 2 := fun h => cnG_succ xs i (dflt .pr) h
    refine vc_sound hT hM _ _ _ ?_
    (repeat' ((conv => whnf); first | (refine nx ?_; intro s) | (refine rg ?_; intro s k) | ((refine cas (fun h => ?_) (fun h => ?_)) <;> (try simp [-List.getD_eq_getElem?_getD, t3] at h)) | ((refine may (fun h => ?_) ?_) <;> (try simp [-List.getD_eq_getElem?_getD, t3] at h)) | (refine giv fun hg => ?_; (try simp only [byE] at hg)) | (refine need (by kernel_rfl) ?_) | (refine need ⟨by omega, by omega⟩ ?_) | (refine need (by omega) ?_) | (refine need (by first | (simp; done) | (simp; omega)) ?_) | (refine ⟨(i + 1 : Nat), ?_, ?_, ?_⟩) | (refine fin_au rfl ?_; (conv => whnf); ((repeat' (first | exact trivial | refine ⟨?_, ?_⟩ | exact rfl | exact Or.inr rfl | exact Or.inl (Nat.le_of_ble_eq_true rfl) | exact Or.inl rfl)) <;> (try (conv => whnf)) <;> (try (first | refine congrArg C.bool ?_ | refine congrArg (C.int .i64) ?_ | refine congrArg C.str ?_ | refine congrArg (fun l => some (Ob.row _ l)) ?_ | refine congrArg (fun l => some (Ob.dp _ l)) ?_ | refine congrArg (C.sl _) ?_)) <;> (try (rw [wrap_i64 (by omega) (by omega)]; first | rfl | omega)))) | (refine WkF.au ?_; (conv => whnf); ((repeat' (first | exact trivial | refine ⟨?_, ?_⟩ | exact rfl | exact Or.inr rfl | exact Or.inl (Nat.le_of_ble_eq_true rfl) | exact Or.inl rfl)) <;> (try (conv => whnf)) <;> (try (first | refine congrArg C.bool ?_ | refine congrArg (C.int .i64) ?_ | refine congrArg C.str ?_ | refine congrArg (fun l => some (Ob.row _ l)) ?_ | refine congrArg (fun l => some (Ob.dp _ l)) ?_ | refine congrArg (C.sl _) ?_)) <;> (try (rw [wrap_i64 (by omega) (by omega)]; first | rfl | omega)))) | (refine altl ?_) | fail))
    all_goals (try simp only [mkR_len, mkG_len, List.length_set] at hg)
    all_goals first
      | omega
      | exact mkR_all q (by omega)
      | (rw [cnG_all (by omega)]; done)
      | ((simp (disch := omega) only [wrap_i64]); omega)
      | (have hl : i < xs.length := by omega
         simp (disch := (first | omega | (simp; omega))) only [Int.toNat_natCast, set_getD, List.set_set, wrap_i64, mkR_len, List.length_set]
         rw [← mkR_set xs q i (dflt .pr) hl]
         first | rfl | (refine congrArg (fun y => (mkR fPr (cK 2) q xs i).set i y) ?_; simp [t3, fPr, mkE, C.n, C.b, spl, cells]))
theorem r_heldPairS (xs : List Pr) (q : Int) (h0 : 0 ≤ q) (h1 : q + cnG (cK 2) xs ≤ 4611686018427387904) : Ret Tryz.prog 66 [aL .pr (mkG fPr (cK 2) q xs), aI q] [] (aI (q + cnG (cK 2) xs)) [] := by
  refine ret_vc hT hM Tryz.func66 rfl rfl (m := 0) (nx := 0) rfl (Nat.le_of_ble_eq_true rfl) ?_
  (repeat ((conv => whnf); first | (refine nx ?_; intro s) | (refine rg ?_; intro s k))); (conv => whnf)
  refine Tri.loop (fun i : Nat => ⟨[(0, aL .pr (mkG fPr (cK 2) q xs)), (1, aI (q + cnG (cK 2) (xs.take i))), (5, aI i)], [], 0⟩) (fun i => i ≤ xs.length) (fun i => xs.length - i) 0 (Nat.zero_le _) ?_ ?_
  · (refine WkF.au ?_; (conv => whnf); ((repeat' (first | exact trivial | refine ⟨?_, ?_⟩ | exact rfl | exact Or.inr rfl | exact Or.inl (Nat.le_of_ble_eq_true rfl) | exact Or.inl rfl)) <;> (try (conv => whnf)) <;> (try (first | refine congrArg C.bool ?_ | refine congrArg (C.int .i64) ?_ | refine congrArg C.str ?_ | refine congrArg (fun l => some (Ob.row _ l)) ?_ | refine congrArg (fun l => some (Ob.dp _ l)) ?_ | refine congrArg (C.sl _) ?_)) <;> (try (rw [wrap_i64 (by omega) (by omega)]; first | rfl | omega))))
    all_goals (simp [cnG]; done)
  · intro i hi
    have hp := cnG_pos (c := cK (α := Pr) 2) (cK_pos (by decide)) (xs.take i)
    have hq2 := cnG_take (c := cK (α := Pr) 2) (cK_pos (by decide)) xs i
    have hq3 := cnG_take (c := cK (α := Pr) 2) (cK_pos (by decide)) xs (i + 1)
    have hn : i < xs.length → cnG (cK 2) (xs.take (i + 1)) = cnG (cK 2) (xs.take i) + 2 := fun h => cnG_succ xs i (dflt .pr) h
    rcases Nat.lt_or_ge i xs.length with hl | hl
    · have he := mkG_getD (f := fPr) (c := cK 2) xs q i (dflt .pr) hl
      refine vc_sound hT hM _ _ _ ?_
      (repeat' ((conv => whnf); first | (refine nx ?_; intro s) | (refine rg ?_; intro s k) | ((refine cas (fun h => ?_) (fun h => ?_)) <;> (try simp [-List.getD_eq_getElem?_getD, he, fPr, t3] at h)) | ((refine may (fun h => ?_) ?_) <;> (try simp [-List.getD_eq_getElem?_getD, he, fPr, t3] at h)) | (refine giv fun hg => ?_; (try simp only [byE] at hg)) | (refine need (by kernel_rfl) ?_) | (refine need ⟨by omega, by omega⟩ ?_) | (refine need (by omega) ?_) | (refine need (by first | (simp; done) | (simp; omega)) ?_) | (refine ⟨(i + 1 : Nat), ?_, ?_, ?_⟩) | (refine fin_au rfl ?_; (conv => whnf); ((repeat' (first | exact trivial | refine ⟨?_, ?_⟩ | exact rfl | exact Or.inr rfl | exact Or.inl (Nat.le_of_ble_eq_true rfl) | exact Or.inl rfl)) <;> (try (conv => whnf)) <;> (try (first | refine congrArg C.bool ?_ | refine congrArg (C.int .i64) ?_ | refine congrArg C.str ?_ | refine congrArg (fun l => some (Ob.row _ l)) ?_ | refine congrArg (fun l => some (Ob.dp _ l)) ?_ | refine congrArg (C.sl _) ?_)) <;> (try (rw [wrap_i64 (by omega) (by omega)]; first | rfl | omega)))) | (refine WkF.au ?_; (conv => whnf); ((repeat' (first | exact trivial | refine ⟨?_, ?_⟩ | exact rfl | exact Or.inr rfl | exact Or.inl (Nat.le_of_ble_eq_true rfl) | exact Or.inl rfl)) <;> (try (conv => whnf)) <;> (try (first | refine congrArg C.bool ?_ | refine congrArg (C.int .i64) ?_ | refine congrArg C.str ?_ | refine congrArg (fun l => some (Ob.row _ l)) ?_ | refine congrArg (fun l => some (Ob.dp _ l)) ?_ | refine congrArg (C.sl _) ?_)) <;> (try (rw [wrap_i64 (by omega) (by omega)]; first | rfl | omega)))) | (refine altl ?_) | fail))
      all_goals (try simp only [mkR_len, mkG_len, List.length_set] at hg)
      all_goals first
        | omega
        | (exfalso; revert h; simp (disch := omega) only [wrap_i64]; simp; done)
        | (rw [hn hl]; (try simp (disch := omega) only [wrap_i64]); omega)
        | ((simp (disch := omega) only [wrap_i64]); omega)
    · refine vc_sound hT hM _ _ _ ?_
      (repeat' ((conv => whnf); first | (refine nx ?_; intro s) | (refine rg ?_; intro s k) | ((refine cas (fun h => ?_) (fun h => ?_)) <;> (try simp [-List.getD_eq_getElem?_getD] at h)) | ((refine may (fun h => ?_) ?_) <;> (try simp [-List.getD_eq_getElem?_getD] at h)) | (refine giv fun hg => ?_; (try simp only [byE] at hg)) | (refine need (by kernel_rfl) ?_) | (refine need ⟨by omega, by omega⟩ ?_) | (refine need (by omega) ?_) | (refine need (by first | (simp; done) | (simp; omega)) ?_) | (refine WkF.au ?_; (conv => whnf); ((repeat' (first | exact trivial | refine ⟨?_, ?_⟩ | exact rfl | exact Or.inr rfl | exact Or.inl (Nat.le_of_ble_eq_true rfl) | exact Or.inl rfl)) <;> (try (conv => whnf)) <;> (try (first | refine congrArg C.bool ?_ | refine congrArg (C.int .i64) ?_ | refine congrArg C.str ?_ | refine congrArg (fun l => some (Ob.row _ l)) ?_ | refine congrArg (fun l => some (Ob.dp _ l)) ?_ | refine congrArg (C.sl _) ?_)) <;> (try (rw [wrap_i64 (by omega) (by omega)]; first | rfl | omega)))) | (refine altl ?_) | fail))
      all_goals first | (exfalso; omega) | ((refine fin_au rfl ?_; (conv => whnf); ((repeat' (first | exact trivial | refine ⟨?_, ?_⟩ | exact rfl | exact Or.inr rfl | exact Or.inl (Nat.le_of_ble_eq_true rfl) | exact Or.inl rfl)) <;> (try (conv => whnf)) <;> (try (first | refine congrArg C.bool ?_ | refine congrArg (C.int .i64) ?_ | refine congrArg C.str ?_ | refine congrArg (fun l => some (Ob.row _ l)) ?_ | refine congrArg (fun l => some (Ob.dp _ l)) ?_ | refine congrArg (C.sl _) ?_)) <;> (try (rw [wrap_i64 (by omega) (by omega)]; first | rfl | omega)))); rw [cnG_all (by omega)])
def fInt (k : Int) (_ : Int) : Int := k
theorem r_markIntS (xs : List Int) (q : Int) (h0 : 0 ≤ q) (h1 : q + cnG (cK 1) xs ≤ 4611686018427387904) : Ret Tryz.prog 63 [.rw 0, aI q] [(0, .row .int xs)] (aI (q + cnG (cK 1) xs)) [(0, .row .int (mkG fInt (cK 1) q xs))] := by
  refine ret_vc hT hM Tryz.func63 rfl rfl (m := 1) (nx := 1) rfl (Nat.le_of_ble_eq_true rfl) ?_
  (repeat ((conv => whnf); first | (refine nx ?_; intro s) | (refine rg ?_; intro s k))); (conv => whnf)
  refine Tri.loop (fun i : Nat => ⟨[(0, .rw 0), (1, aI (q + cnG (cK 1) (xs.take i))), (5, aI i)], [(0, .row .int (mkR fInt (cK 1) q xs i))], 1⟩) (fun i => i ≤ xs.length) (fun i => xs.length - i) 0 (Nat.zero_le _) ?_ ?_
  · (refine WkF.au ?_; (conv => whnf); ((repeat' (first | exact trivial | refine ⟨?_, ?_⟩ | exact rfl | exact Or.inr rfl | exact Or.inl (Nat.le_of_ble_eq_true rfl) | exact Or.inl rfl)) <;> (try (conv => whnf)) <;> (try (first | refine congrArg C.bool ?_ | refine congrArg (C.int .i64) ?_ | refine congrArg C.str ?_ | refine congrArg (fun l => some (Ob.row _ l)) ?_ | refine congrArg (fun l => some (Ob.dp _ l)) ?_ | refine congrArg (C.sl _) ?_)) <;> (try (rw [wrap_i64 (by omega) (by omega)]; first | rfl | omega))))
    all_goals first | (simp [cnG]; done) | exact (mkR_zero _ _).symm
  · intro i hi
    have hp := cnG_pos (c := cK (α := Int) 1) (cK_pos (by decide)) (xs.take i)
    have hq2 := cnG_take (c := cK (α := Int) 1) (cK_pos (by decide)) xs i
    have hq3 := cnG_take (c := cK (α := Int) 1) (cK_pos (by decide)) xs (i + 1)
    have hn : i < xs.length → cnG (cK 1) (xs.take (i + 1)) = cnG (cK 1) (xs.take i) + 1 := fun h => cnG_succ xs i (dflt .int) h
    refine vc_sound hT hM _ _ _ ?_
    (repeat' ((conv => whnf); first | (refine nx ?_; intro s) | (refine rg ?_; intro s k) | ((refine cas (fun h => ?_) (fun h => ?_)) <;> (try simp [-List.getD_eq_getElem?_getD, t3] at h)) | ((refine may (fun h => ?_) ?_) <;> (try simp [-List.getD_eq_getElem?_getD, t3] at h)) | (refine giv fun hg => ?_; (try simp only [byE] at hg)) | (refine need (by kernel_rfl) ?_) | (refine need ⟨by omega, by omega⟩ ?_) | (refine need (by omega) ?_) | (refine need (by first | (simp; done) | (simp; omega)) ?_) | (refine ⟨(i + 1 : Nat), ?_, ?_, ?_⟩) | (refine fin_au rfl ?_; (conv => whnf); ((repeat' (first | exact trivial | refine ⟨?_, ?_⟩ | exact rfl | exact Or.inr rfl | exact Or.inl (Nat.le_of_ble_eq_true rfl) | exact Or.inl rfl)) <;> (try (conv => whnf)) <;> (try (first | refine congrArg C.bool ?_ | refine congrArg (C.int .i64) ?_ | refine congrArg C.str ?_ | refine congrArg (fun l => some (Ob.row _ l)) ?_ | refine congrArg (fun l => some (Ob.dp _ l)) ?_ | refine congrArg (C.sl _) ?_)) <;> (try (rw [wrap_i64 (by omega) (by omega)]; first | rfl | omega)))) | (refine WkF.au ?_; (conv => whnf); ((repeat' (first | exact trivial | refine ⟨?_, ?_⟩ | exact rfl | exact Or.inr rfl | exact Or.inl (Nat.le_of_ble_eq_true rfl) | exact Or.inl rfl)) <;> (try (conv => whnf)) <;> (try (first | refine congrArg C.bool ?_ | refine congrArg (C.int .i64) ?_ | refine congrArg C.str ?_ | refine congrArg (fun l => some (Ob.row _ l)) ?_ | refine congrArg (fun l => some (Ob.dp _ l)) ?_ | refine congrArg (C.sl _) ?_)) <;> (try (rw [wrap_i64 (by omega) (by omega)]; first | rfl | omega)))) | (refine altl ?_) | fail))
    all_goals (try simp only [mkR_len, mkG_len, List.length_set] at hg)
    all_goals first
      | omega
      | exact mkR_all q (by omega)
      | (rw [cnG_all (by omega)]; done)
      | ((simp (disch := omega) only [wrap_i64]); omega)
      | (have hl : i < xs.length := by omega
         simp (disch := (first | omega | (simp; omega))) only [Int.toNat_natCast, set_getD, List.set_set, wrap_i64, mkR_len, List.length_set]
         rw [← mkR_set xs q i (dflt .int) hl]
         first | rfl | (refine congrArg (fun y => (mkR fInt (cK 1) q xs i).set i y) ?_; simp [t3, fInt, mkE, C.n, C.b, spl, cells]))
theorem r_heldIntS (xs : List Int) (q : Int) (h0 : 0 ≤ q) (h1 : q + cnG (cK 1) xs ≤ 4611686018427387904) : Ret Tryz.prog 67 [aL .int (mkG fInt (cK 1) q xs), aI q] [] (aI (q + cnG (cK 1) xs)) [] := by
  refine ret_vc hT hM Tryz.func67 rfl rfl (m := 0) (nx := 0) rfl (Nat.le_of_ble_eq_true rfl) ?_
  (repeat ((conv => whnf); first | (refine nx ?_; intro s) | (refine rg ?_; intro s k))); (conv => whnf)
  refine Tri.loop (fun i : Nat => ⟨[(0, aL .int (mkG fInt (cK 1) q xs)), (1, aI (q + cnG (cK 1) (xs.take i))), (5, aI i)], [], 0⟩) (fun i => i ≤ xs.length) (fun i => xs.length - i) 0 (Nat.zero_le _) ?_ ?_
  · (refine WkF.au ?_; (conv => whnf); ((repeat' (first | exact trivial | refine ⟨?_, ?_⟩ | exact rfl | exact Or.inr rfl | exact Or.inl (Nat.le_of_ble_eq_true rfl) | exact Or.inl rfl)) <;> (try (conv => whnf)) <;> (try (first | refine congrArg C.bool ?_ | refine congrArg (C.int .i64) ?_ | refine congrArg C.str ?_ | refine congrArg (fun l => some (Ob.row _ l)) ?_ | refine congrArg (fun l => some (Ob.dp _ l)) ?_ | refine congrArg (C.sl _) ?_)) <;> (try (rw [wrap_i64 (by omega) (by omega)]; first | rfl | omega))))
    all_goals (simp [cnG]; done)
  · intro i hi
    have hp := cnG_pos (c := cK (α := Int) 1) (cK_pos (by decide)) (xs.take i)
    have hq2 := cnG_take (c := cK (α := Int) 1) (cK_pos (by decide)) xs i
    have hq3 := cnG_take (c := cK (α := Int) 1) (cK_pos (by decide)) xs (i + 1)
    have hn : i < xs.length → cnG (cK 1) (xs.take (i + 1)) = cnG (cK 1) (xs.take i) + 1 := fun h => cnG_succ xs i (dflt .int) h
    rcases Nat.lt_or_ge i xs.length with hl | hl
    · have he := mkG_getD (f := fInt) (c := cK 1) xs q i (dflt .int) hl
      refine vc_sound hT hM _ _ _ ?_
      (repeat' ((conv => whnf); first | (refine nx ?_; intro s) | (refine rg ?_; intro s k) | ((refine cas (fun h => ?_) (fun h => ?_)) <;> (try simp [-List.getD_eq_getElem?_getD, he, fInt, t3] at h)) | ((refine may (fun h => ?_) ?_) <;> (try simp [-List.getD_eq_getElem?_getD, he, fInt, t3] at h)) | (refine giv fun hg => ?_; (try simp only [byE] at hg)) | (refine need (by kernel_rfl) ?_) | (refine need ⟨by omega, by omega⟩ ?_) | (refine need (by omega) ?_) | (refine need (by first | (simp; done) | (simp; omega)) ?_) | (refine ⟨(i + 1 : Nat), ?_, ?_, ?_⟩) | (refine fin_au rfl ?_; (conv => whnf); ((repeat' (first | exact trivial | refine ⟨?_, ?_⟩ | exact rfl | exact Or.inr rfl | exact Or.inl (Nat.le_of_ble_eq_true rfl) | exact Or.inl rfl)) <;> (try (conv => whnf)) <;> (try (first | refine congrArg C.bool ?_ | refine congrArg (C.int .i64) ?_ | refine congrArg C.str ?_ | refine congrArg (fun l => some (Ob.row _ l)) ?_ | refine congrArg (fun l => some (Ob.dp _ l)) ?_ | refine congrArg (C.sl _) ?_)) <;> (try (rw [wrap_i64 (by omega) (by omega)]; first | rfl | omega)))) | (refine WkF.au ?_; (conv => whnf); ((repeat' (first | exact trivial | refine ⟨?_, ?_⟩ | exact rfl | exact Or.inr rfl | exact Or.inl (Nat.le_of_ble_eq_true rfl) | exact Or.inl rfl)) <;> (try (conv => whnf)) <;> (try (first | refine congrArg C.bool ?_ | refine congrArg (C.int .i64) ?_ | refine congrArg C.str ?_ | refine congrArg (fun l => some (Ob.row _ l)) ?_ | refine congrArg (fun l => some (Ob.dp _ l)) ?_ | refine congrArg (C.sl _) ?_)) <;> (try (rw [wrap_i64 (by omega) (by omega)]; first | rfl | omega)))) | (refine altl ?_) | fail))
      all_goals (try simp only [mkR_len, mkG_len, List.length_set] at hg)
      all_goals first
        | omega
        | (exfalso; revert h; simp (disch := omega) only [wrap_i64]; simp; done)
        | (rw [hn hl]; (try simp (disch := omega) only [wrap_i64]); omega)
        | ((simp (disch := omega) only [wrap_i64]); omega)
    · refine vc_sound hT hM _ _ _ ?_
      (repeat' ((conv => whnf); first | (refine nx ?_; intro s) | (refine rg ?_; intro s k) | ((refine cas (fun h => ?_) (fun h => ?_)) <;> (try simp [-List.getD_eq_getElem?_getD] at h)) | ((refine may (fun h => ?_) ?_) <;> (try simp [-List.getD_eq_getElem?_getD] at h)) | (refine giv fun hg => ?_; (try simp only [byE] at hg)) | (refine need (by kernel_rfl) ?_) | (refine need ⟨by omega, by omega⟩ ?_) | (refine need (by omega) ?_) | (refine need (by first | (simp; done) | (simp; omega)) ?_) | (refine WkF.au ?_; (conv => whnf); ((repeat' (first | exact trivial | refine ⟨?_, ?_⟩ | exact rfl | exact Or.inr rfl | exact Or.inl (Nat.le_of_ble_eq_true rfl) | exact Or.inl rfl)) <;> (try (conv => whnf)) <;> (try (first | refine congrArg C.bool ?_ | refine congrArg (C.int .i64) ?_ | refine congrArg C.str ?_ | refine congrArg (fun l => some (Ob.row _ l)) ?_ | refine congrArg (fun l => some (Ob.dp _ l)) ?_ | refine congrArg (C.sl _) ?_)) <;> (try (rw [wrap_i64 (by omega) (by omega)]; first | rfl | omega)))) | (refine altl ?_) | fail))
      all_goals first | (exfalso; omega) | ((refine fin_au rfl ?_; (conv => whnf); ((repeat' (first | exact trivial | refine ⟨?_, ?_⟩ | exact rfl | exact Or.inr rfl | exact Or.inl (Nat.le_of_ble_eq_true rfl) | exact Or.inl rfl)) <;> (try (conv => whnf)) <;> (try (first | refine congrArg C.bool ?_ | refine congrArg (C.int .i64) ?_ | refine congrArg C.str ?_ | refine congrArg (fun l => some (Ob.row _ l)) ?_ | refine congrArg (fun l => some (Ob.dp _ l)) ?_ | refine congrArg (C.sl _) ?_)) <;> (try (rw [wrap_i64 (by omega) (by omega)]; first | rfl | omega)))); rw [cnG_all (by omega)])
def fMs (k : Int) (_ : Ms) : Ms := ⟨k, k + 1, k + 1 + 1⟩
theorem r_markMsgS (xs : List Ms) (q : Int) (h0 : 0 ≤ q) (h1 : q + cnG (cK 3) xs ≤ 4611686018427387904) : Ret Tryz.prog 65 [.rw 0, aI q] [(0, .row .ms xs)] (aI (q + cnG (cK 3) xs)) [(0, .row .ms (mkG fMs (cK 3) q xs))] := by
  refine ret_vc hT hM Tryz.func65 rfl rfl (m := 1) (nx := 1) rfl (Nat.le_of_ble_eq_true rfl) ?_
  (repeat ((conv => whnf); first | (refine nx ?_; intro s) | (refine rg ?_; intro s k))); (conv => whnf)
  refine Tri.loop (fun i : Nat => ⟨[(0, .rw 0), (1, aI (q + cnG (cK 3) (xs.take i))), (5, aI i)], [(0, .row .ms (mkR fMs (cK 3) q xs i))], 1⟩) (fun i => i ≤ xs.length) (fun i => xs.length - i) 0 (Nat.zero_le _) ?_ ?_
  · (refine WkF.au ?_; (conv => whnf); ((repeat' (first | exact trivial | refine ⟨?_, ?_⟩ | exact rfl | exact Or.inr rfl | exact Or.inl (Nat.le_of_ble_eq_true rfl) | exact Or.inl rfl)) <;> (try (conv => whnf)) <;> (try (first | refine congrArg C.bool ?_ | refine congrArg (C.int .i64) ?_ | refine congrArg C.str ?_ | refine congrArg (fun l => some (Ob.row _ l)) ?_ | refine congrArg (fun l => some (Ob.dp _ l)) ?_ | refine congrArg (C.sl _) ?_)) <;> (try (rw [wrap_i64 (by omega) (by omega)]; first | rfl | omega))))
    all_goals first | (simp [cnG]; done) | exact (mkR_zero _ _).symm
  · intro i hi
    have hp := cnG_pos (c := cK (α := Ms) 3) (cK_pos (by decide)) (xs.take i)
    have hq2 := cnG_take (c := cK (α := Ms) 3) (cK_pos (by decide)) xs i
    have hq3 := cnG_take (c := cK (α := Ms) 3) (cK_pos (by decide)) xs (i + 1)
    have hn : i < xs.length → cnG (cK 3) (xs.take (i + 1)) = cnG (cK 3) (xs.take i) + 3 := fun h => cnG_succ xs i (dflt .ms) h
    refine vc_sound hT hM _ _ _ ?_
    (repeat' ((conv => whnf); first | (refine nx ?_; intro s) | (refine rg ?_; intro s k) | ((refine cas (fun h => ?_) (fun h => ?_)) <;> (try simp [-List.getD_eq_getElem?_getD, t3] at h)) | ((refine may (fun h => ?_) ?_) <;> (try simp [-List.getD_eq_getElem?_getD, t3] at h)) | (refine giv fun hg => ?_; (try simp only [byE] at hg)) | (refine need (by kernel_rfl) ?_) | (refine need ⟨by omega, by omega⟩ ?_) | (refine need (by omega) ?_) | (refine need (by first | (simp; done) | (simp; omega)) ?_) | (refine ⟨(i + 1 : Nat), ?_, ?_, ?_⟩) | (refine fin_au rfl ?_; (conv => whnf); ((repeat' (first | exact trivial | refine ⟨?_, ?_⟩ | exact rfl | exact Or.inr rfl | exact Or.inl (Nat.le_of_ble_eq_true rfl) | exact Or.inl rfl)) <;> (try (conv => whnf)) <;> (try (first | refine congrArg C.bool ?_ | refine congrArg (C.int .i64) ?_ | refine congrArg C.str ?_ | refine congrArg (fun l => some (Ob.row _ l)) ?_ | refine congrArg (fun l => some (Ob.dp _ l)) ?_ | refine congrArg (C.sl _) ?_)) <;> (try (rw [wrap_i64 (by omega) (by omega)]; first | rfl | omega)))) | (refine WkF.au ?_; (conv => whnf); ((repeat' (first | exact trivial | refine ⟨?_, ?_⟩ | exact rfl | exact Or.inr rfl | exact Or.inl (Nat.le_of_ble_eq_true rfl) | exact Or.inl rfl)) <;> (try (conv => whnf)) <;> (try (first | refine congrArg C.bool ?_ | refine congrArg (C.int .i64) ?_ | refine congrArg C.str ?_ | refine congrArg (fun l => some (Ob.row _ l)) ?_ | refine congrArg (fun l => some (Ob.dp _ l)) ?_ | refine congrArg (C.sl _) ?_)) <;> (try (rw [wrap_i64 (by omega) (by omega)]; first | rfl | omega)))) | (refine altl ?_) | fail))
    all_goals (try simp only [mkR_len, mkG_len, List.length_set] at hg)
    all_goals first
      | omega
      | exact mkR_all q (by omega)
      | (rw [cnG_all (by omega)]; done)
      | ((simp (disch := omega) only [wrap_i64]); omega)
      | (have hl : i < xs.length := by omega
         simp (disch := (first | omega | (simp; omega))) only [Int.toNat_natCast, set_getD, List.set_set, wrap_i64, mkR_len, List.length_set]
         rw [← mkR_set xs q i (dflt .ms) hl]
         first | rfl | (refine congrArg (fun y => (mkR fMs (cK 3) q xs i).set i y) ?_; simp [t3, fMs, mkE, C.n, C.b, spl, cells]))
theorem r_heldMsgS (xs : List Ms) (q : Int) (h0 : 0 ≤ q) (h1 : q + cnG (cK 3) xs ≤ 4611686018427387904) : Ret Tryz.prog 69 [aL .ms (mkG fMs (cK 3) q xs), aI q] [] (aI (q + cnG (cK 3) xs)) [] := by
  refine ret_vc hT hM Tryz.func69 rfl rfl (m := 0) (nx := 0) rfl (Nat.le_of_ble_eq_true rfl) ?_
  (repeat ((conv => whnf); first | (refine nx ?_; intro s) | (refine rg ?_; intro s k))); (conv => whnf)
  refine Tri.loop (fun i : Nat => ⟨[(0, aL .ms (mkG fMs (cK 3) q xs)), (1, aI (q + cnG (cK 3) (xs.take i))), (5, aI i)], [], 0⟩) (fun i => i ≤ xs.length) (fun i => xs.length - i) 0 (Nat.zero_le _) ?_ ?_
  · (refine WkF.au ?_; (conv => whnf); ((repeat' (first | exact trivial | refine ⟨?_, ?_⟩ | exact rfl | exact Or.inr rfl | exact Or.inl (Nat.le_of_ble_eq_true rfl) | exact Or.inl rfl)) <;> (try (conv => whnf)) <;> (try (first | refine congrArg C.bool ?_ | refine congrArg (C.int .i64) ?_ | refine congrArg C.str ?_ | refine congrArg (fun l => some (Ob.row _ l)) ?_ | refine congrArg (fun l => some (Ob.dp _ l)) ?_ | refine congrArg (C.sl _) ?_)) <;> (try (rw [wrap_i64 (by omega) (by omega)]; first | rfl | omega))))
    all_goals (simp [cnG]; done)
  · intro i hi
    have hp := cnG_pos (c := cK (α := Ms) 3) (cK_pos (by decide)) (xs.take i)
    have hq2 := cnG_take (c := cK (α := Ms) 3) (cK_pos (by decide)) xs i
    have hq3 := cnG_take (c := cK (α := Ms) 3) (cK_pos (by decide)) xs (i + 1)
    have hn : i < xs.length → cnG (cK 3) (xs.take (i + 1)) = cnG (cK 3) (xs.take i) + 3 := fun h => cnG_succ xs i (dflt .ms) h
    rcases Nat.lt_or_ge i xs.length with hl | hl
    · have he := mkG_getD (f := fMs) (c := cK 3) xs q i (dflt .ms) hl
      refine vc_sound hT hM _ _ _ ?_
      (repeat' ((conv => whnf); first | (refine nx ?_; intro s) | (refine rg ?_; intro s k) | ((refine cas (fun h => ?_) (fun h => ?_)) <;> (try simp [-List.getD_eq_getElem?_getD, he, fMs, t3] at h)) | ((refine may (fun h => ?_) ?_) <;> (try simp [-List.getD_eq_getElem?_getD, he, fMs, t3] at h)) | (refine giv fun hg => ?_; (try simp only [byE] at hg)) | (refine need (by kernel_rfl) ?_) | (refine need ⟨by omega, by omega⟩ ?_) | (refine need (by omega) ?_) | (refine need (by first | (simp; done) | (simp; omega)) ?_) | (refine ⟨(i + 1 : Nat), ?_, ?_, ?_⟩) | (refine fin_au rfl ?_; (conv => whnf); ((repeat' (first | exact trivial | refine ⟨?_, ?_⟩ | exact rfl | exact Or.inr rfl | exact Or.inl (Nat.le_of_ble_eq_true rfl) | exact Or.inl rfl)) <;> (try (conv => whnf)) <;> (try (first | refine congrArg C.bool ?_ | refine congrArg (C.int .i64) ?_ | refine congrArg C.str ?_ | refine congrArg (fun l => some (Ob.row _ l)) ?_ | refine congrArg (fun l => some (Ob.dp _ l)) ?_ | refine congrArg (C.sl _) ?_)) <;> (try (rw [wrap_i64 (by omega) (by omega)]; first | rfl | omega)))) | (refine WkF.au ?_; (conv => whnf); ((repeat' (first | exact trivial | refine ⟨?_, ?_⟩ | exact rfl | exact Or.inr rfl | exact Or.inl (Nat.le_of_ble_eq_true rfl) | exact Or.inl rfl)) <;> (try (conv => whnf)) <;> (try (first | refine congrArg C.bool ?_ | refine congrArg (C.int .i64) ?_ | refine congrArg C.str ?_ | refine congrArg (fun l => some (Ob.row _ l)) ?_ | refine congrArg (fun l => some (Ob.dp _ l)) ?_ | refine congrArg (C.sl _) ?_)) <;> (try (rw [wrap_i64 (by omega) (by omega)]; first | rfl | omega)))) | (refine altl ?_) | fail))
      all_goals (try simp only [mkR_len, mkG_len, List.length_set] at hg)
      all_goals first
        | omega
        | (exfalso; revert h; simp (disch := omega) only [wrap_i64]; simp; done)
        | (rw [hn hl]; (try simp (disch := omega) only [wrap_i64]); omega)
        | ((simp (disch := omega) only [wrap_i64]); omega)
    · refine vc_sound hT hM _ _ _ ?_
      (repeat' ((conv => whnf); first | (refine nx ?_; intro s) | (refine rg ?_; intro s k) | ((refine cas (fun h => ?_) (fun h => ?_)) <;> (try simp [-List.getD_eq_getElem?_getD] at h)) | ((refine may (fun h => ?_) ?_) <;> (try simp [-List.getD_eq_getElem?_getD] at h)) | (refine giv fun hg => ?_; (try simp only [byE] at hg)) | (refine need (by kernel_rfl) ?_) | (refine need ⟨by omega, by omega⟩ ?_) | (refine need (by omega) ?_) | (refine need (by first | (simp; done) | (simp; omega)) ?_) | (refine WkF.au ?_; (conv => whnf); ((repeat' (first | exact trivial | refine ⟨?_, ?_⟩ | exact rfl | exact Or.inr rfl | exact Or.inl (Nat.le_of_ble_eq_true rfl) | exact Or.inl rfl)) <;> (try (conv => whnf)) <;> (try (first | refine congrArg C.bool ?_ | refine congrArg (C.int .i64) ?_ | refine congrArg C.str ?_ | refine congrArg (fun l => some (Ob.row _ l)) ?_ | refine congrArg (fun l => some (Ob.dp _ l)) ?_ | refine congrArg (C.sl _) ?_)) <;> (try (rw [wrap_i64 (by omega) (by omega)]; first | rfl | omega)))) | (refine altl ?_) | fail))
      all_goals first | (exfalso; omega) | ((refine fin_au rfl ?_; (conv => whnf); ((repeat' (first | exact trivial | refine ⟨?_, ?_⟩ | exact rfl | exact Or.inr rfl | exact Or.inl (Nat.le_of_ble_eq_true rfl) | exact Or.inl rfl)) <;> (try (conv => whnf)) <;> (try (first | refine congrArg C.bool ?_ | refine congrArg (C.int .i64) ?_ | refine congrArg C.str ?_ | refine congrArg (fun l => some (Ob.row _ l)) ?_ | refine congrArg (fun l => some (Ob.dp _ l)) ?_ | refine congrArg (C.sl _) ?_)) <;> (try (rw [wrap_i64 (by omega) (by omega)]; first | rfl | omega)))); rw [cnG_all (by omega)])
end Go.Proofs.YthbpdhppelaihaaGreat
/- Marks of trees, and what holds them. Conditions: none. -/
set_option linter.unusedVariables false
set_option linter.unusedSimpArgs false
namespace Go.Proofs.YthbpdhppelaihaaGreat
open Go.RowKit
attribute [local irreducible] Tri Weak
set_option maxRecDepth 4000
set_option maxHeartbeats 4000000
mutual
def cnT : Tr → Int
  | ⟨_, p, c, ks, b⟩ => cnG (cK 2) p + (cnG (cK 1) c + (cnTs ks + cnG (cK 3) b))
def cnTs : List Tr → Int
  | [] => 0
  | t :: ts => 1 + cnT t + cnTs ts
end
def setL (b : Bool) (t : Tr) : Tr := ⟨b, t.pairs, t.cuts, t.kids, t.buf⟩
mutual
def mkT : Int → Tr → Tr
  | k, ⟨l, p, c, ks, b⟩ => ⟨l, mkG fPr (cK 2) k p, mkG fInt (cK 1) (k + cnG (cK 2) p) c, mkTs (k + cnG (cK 2) p + cnG (cK 1) c) ks, mkG fMs (cK 3) (k + cnG (cK 2) p + cnG (cK 1) c + cnTs ks) b⟩
def mkTs : Int → List Tr → List Tr
  | _, [] => []
  | k, t :: ts => setL (t3 k) (mkT (k + 1) t) :: mkTs (k + (1 + cnT t)) ts
end
def cTr (t : Tr) : Int := 1 + cnT t
def fTr (k : Int) (t : Tr) : Tr := setL (t3 k) (mkT (k + 1) t)
theorem cnTs_eq : ∀ xs : List Tr, cnTs xs = cnG cTr xs
  | [] => by simp only [cnTs, cnG]
  | x :: xs => by simp only [cnTs, cnG, cTr]; rw [cnTs_eq xs]
theorem mkTs_eq : ∀ (xs : List Tr) (q : Int), mkTs q xs = mkG fTr cTr q xs
  | [], q => by simp only [mkTs, mkG]
  | x :: xs, q => by simp only [mkTs, mkG, fTr, cTr]; rw [mkTs_eq xs]
theorem cnT_eq (t : Tr) : cnT t = cnG (cK 2) t.pairs + (cnG (cK 1) t.cuts + (cnG cTr t.kids + cnG (cK 3) t.buf)) := by
  cases t; simp only [cnT, cnTs_eq]
theorem mkT_eq (q : Int) (t : Tr) : mkT q t = ⟨t.leaf, mkG fPr (cK 2) q t.pairs, mkG fInt (cK 1) (q + cnG (cK 2) t.pairs) t.cuts, mkG fTr cTr (q + cnG (cK 2) t.pairs + cnG (cK 1) t.cuts) t.kids, mkG fMs (cK 3) (q + cnG (cK 2) t.pairs + cnG (cK 1) t.cuts + cnG cTr t.kids) t.buf⟩ := by
  cases t; simp only [mkT, cnTs_eq, mkTs_eq]
theorem fTr_eq (q : Int) (t : Tr) : fTr q t = ⟨t3 q, mkG fPr (cK 2) (q + 1) t.pairs, mkG fInt (cK 1) (q + 1 + cnG (cK 2) t.pairs) t.cuts, mkG fTr cTr (q + 1 + cnG (cK 2) t.pairs + cnG (cK 1) t.cuts) t.kids, mkG fMs (cK 3) (q + 1 + cnG (cK 2) t.pairs + cnG (cK 1) t.cuts + cnG cTr t.kids) t.buf⟩ := by
  show setL (t3 q) (mkT (q + 1) t) = _
  rw [mkT_eq]
  rfl
mutual
theorem cnT_pos : ∀ t : Tr, 0 ≤ cnT t
  | ⟨_, p, c, ks, b⟩ => by
    have h1 := cnG_pos (c := cK (α := Pr) 2) (cK_pos (by decide)) p
    have h2 := cnG_pos (c := cK (α := Int) 1) (cK_pos (by decide)) c
    have h3 := cnG_pos (c := cK (α := Ms) 3) (cK_pos (by decide)) b
    have h4 := cnTs_pos ks
    simp only [cnT]; omega
theorem cnTs_pos : ∀ ts : List Tr, 0 ≤ cnTs ts
  | [] => by simp [cnTs]
  | t :: ts => by
    have h1 := cnT_pos t
    have h2 := cnTs_pos ts
    simp only [cnTs]; omega
end
theorem cTr_pos (t : Tr) : 0 ≤ cTr t := by have := cnT_pos t; unfold cTr; omega
theorem cT_parts (t : Tr) : cTr t = 1 + (cnG (cK 2) t.pairs + (cnG (cK 1) t.cuts + (cnG cTr t.kids + cnG (cK 3) t.buf))) ∧ 0 ≤ cnG (cK 2) t.pairs ∧ 0 ≤ cnG (cK 1) t.cuts ∧ 0 ≤ cnG cTr t.kids ∧ 0 ≤ cnG (cK 3) t.buf :=
  ⟨by show 1 + cnT t = _; rw [cnT_eq], cnG_pos (cK_pos (by decide)) _, cnG_pos (cK_pos (by decide)) _, cnG_pos cTr_pos _, cnG_pos (cK_pos (by decide)) _⟩
theorem r_markTreeS' : ∀ (n : Nat) (xs : List Tr) (q : Int), SizeOf.sizeOf xs < n → 0 ≤ q → q + cnG cTr xs ≤ 4611686018427387904 → Ret Tryz.prog 64 [.rw 0, aI q] [(0, .dp .tr xs)] (aI (q + cnG cTr xs)) [(0, .dp .tr (mkG fTr cTr q xs))] := by
  intro n
  induction n with
  | zero => intro xs q h; omega
  | succ n ih =>
    intro xs q hn h0 h1
    refine ret_vc hT hM Tryz.func64 rfl rfl (m := 1) (nx := 1) rfl (Nat.le_of_ble_eq_true rfl) ?_
    (repeat ((conv => whnf); first | (refine nx ?_; intro s) | (refine rg ?_; intro s k))); (conv => whnf)
    refine Tri.loop (fun i : Nat => ⟨[(0, .rw 0), (1, aI (q + cnG cTr (xs.take i))), (5, aI i)], [(0, .dp .tr (mkR fTr cTr q xs i))], 5⟩) (fun i => i ≤ xs.length) (fun i => xs.length - i) 0 (Nat.zero_le _) ?_ ?_
    · (refine WkF.au ?_; (conv => whnf); ((repeat' (first | exact trivial | refine ⟨?_, ?_⟩ | exact rfl | exact Or.inr rfl | exact Or.inl (Nat.le_of_ble_eq_true rfl) | exact Or.inl rfl)) <;> (try (conv => whnf)) <;> (try (first | refine congrArg C.bool ?_ | refine congrArg (C.int .i64) ?_ | refine congrArg C.str ?_ | refine congrArg (fun l => some (Ob.row _ l)) ?_ | refine congrArg (fun l => some (Ob.dp _ l)) ?_ | refine congrArg (C.sl _) ?_)) <;> (try (rw [wrap_i64 (by omega) (by omega)]; first | rfl | omega))))
      all_goals first | (simp [cnG]; done) | exact (mkR_zero _ _).symm
    · intro i hi
      rcases Nat.lt_or_ge i xs.length with hl | hl
      · have hp := cnG_pos cTr_pos (xs.take i)
        have hq3 := cnG_take cTr_pos xs (i + 1)
        have hsu := cnG_succ (c := cTr) xs i (dflt .tr) hl
        have hpt := cT_parts (xs.getD i (dflt .tr))
        have hst := mkR_set (f := fTr) (c := cTr) xs q i (dflt .tr) hl
        have hkd : SizeOf.sizeOf (xs.getD i (dflt .tr)).kids < n := by
          have h2 : SizeOf.sizeOf (xs.getD i (dflt .tr)) < SizeOf.sizeOf xs := List.sizeOf_lt_of_mem (List.mem_of_getElem? (getD_some hl (dflt .tr)))
          have h3 : SizeOf.sizeOf (xs.getD i (dflt .tr)).kids < SizeOf.sizeOf (xs.getD i (dflt .tr)) := by
            cases xs.getD i (dflt .tr); simp; omega
          omega
        refine Tri.weak (Weak.focus 0 i 1 rfl (by simpa using hl) ?_) ?_
        · intro k' hk'
          simp [focH, obF, flat, keys] at hk'
          rcases hk' with rfl | rfl | rfl | rfl <;> rfl
        have hfo : focS ⟨[(0, .rw 0), (1, aI (q + cnG cTr (xs.take i))), (5, aI i)], [(0, .dp .tr (mkR fTr cTr q xs i))], 5⟩ 0 i 1 .tr (mkR fTr cTr q xs i) = ⟨[(0, .rw 0), (1, aI (q + cnG cTr (xs.take i))), (5, aI i)], [(0, .fo .tr ((mkR fTr cTr q xs i).take i) [.c (.bool ((mkR fTr cTr q xs i).getD i (dflt .tr)).leaf), .rw 1, .rw 2, .rw 3, .rw 4] ((mkR fTr cTr q xs i).drop (i + 1))), (1, .row .pr ((mkR fTr cTr q xs i).getD i (dflt .tr)).pairs), (2, .row .int ((mkR fTr cTr q xs i).getD i (dflt .tr)).cuts), (3, .dp .tr ((mkR fTr cTr q xs i).getD i (dflt .tr)).kids), (4, .row .ms ((mkR fTr cTr q xs i).getD i (dflt .tr)).buf), (0, .dp .tr (mkR fTr cTr q xs i))], 5⟩ := rfl
        rw [hfo, mkR_get xs q i _ hl]
        clear hfo
        generalize hx : xs.getD i (dflt .tr) = x at *
        generalize hc0 : q + cnG cTr (xs.take i) = c0 at *
        have hw := wrap_i64 (n := c0 + 1) (by omega) (by omega)
        refine vc_sound hT hM _ _ _ ?_
        (repeat' ((conv => whnf); first | (refine nx ?_; intro s) | (refine rg ?_; intro s k) | ((refine cas (fun h => ?_) (fun h => ?_)) <;> (try simp [-List.getD_eq_getElem?_getD] at h)) | ((refine may (fun h => ?_) ?_) <;> (try simp [-List.getD_eq_getElem?_getD] at h)) | (refine giv fun hg => ?_; (try simp only [byE] at hg)) | (refine need (by simp only [List.length_take, mkR_len]; omega) ?_) | (refine need (by kernel_rfl) ?_) | (refine need ⟨by omega, by omega⟩ ?_) | (refine need (by omega) ?_) | (refine need (by first | (simp; done) | (simp; omega)) ?_) | (refine call_g [1] (r_markPairS x.pairs _ (by omega) (by omega)) rfl rfl rfl (by (repeat' (first | exact trivial | refine ⟨?_, ?_⟩ | exact rfl | exact Or.inr rfl | exact Or.inl (Nat.le_of_ble_eq_true rfl) | exact Or.inl rfl)); (first | done | fail)) (by (repeat' (first | exact trivial | refine ⟨?_, ?_⟩ | exact rfl | exact Or.inr rfl | exact Or.inl (Nat.le_of_ble_eq_true rfl) | exact Or.inl rfl)); (first | done | fail)) (by (repeat' (first | exact trivial | refine ⟨?_, ?_⟩ | exact rfl | exact Or.inr rfl | exact Or.inl (Nat.le_of_ble_eq_true rfl) | exact Or.inl rfl)); (first | done | fail)) (by (repeat' (first | exact trivial | refine ⟨?_, ?_⟩ | exact rfl | exact Or.inr rfl | exact Or.inl (Nat.le_of_ble_eq_true rfl) | exact Or.inl rfl)); (first | done | fail)) ?_) | (refine call_g [2] (r_markIntS x.cuts _ (by omega) (by omega)) rfl rfl rfl (by (repeat' (first | exact trivial | refine ⟨?_, ?_⟩ | exact rfl | exact Or.inr rfl | exact Or.inl (Nat.le_of_ble_eq_true rfl) | exact Or.inl rfl)); (first | done | fail)) (by (repeat' (first | exact trivial | refine ⟨?_, ?_⟩ | exact rfl | exact Or.inr rfl | exact Or.inl (Nat.le_of_ble_eq_true rfl) | exact Or.inl rfl)); (first | done | fail)) (by (repeat' (first | exact trivial | refine ⟨?_, ?_⟩ | exact rfl | exact Or.inr rfl | exact Or.inl (Nat.le_of_ble_eq_true rfl) | exact Or.inl rfl)); (first | done | fail)) (by (repeat' (first | exact trivial | refine ⟨?_, ?_⟩ | exact rfl | exact Or.inr rfl | exact Or.inl (Nat.le_of_ble_eq_true rfl) | exact Or.inl rfl)); (first | done | fail)) ?_) | (refine call_g [3] (ih x.kids _ hkd (by omega) (by omega)) rfl rfl rfl (by (repeat' (first | exact trivial | refine ⟨?_, ?_⟩ | exact rfl | exact Or.inr rfl | exact Or.inl (Nat.le_of_ble_eq_true rfl) | exact Or.inl rfl)); (first | done | fail)) (by (repeat' (first | exact trivial | refine ⟨?_, ?_⟩ | exact rfl | exact Or.inr rfl | exact Or.inl (Nat.le_of_ble_eq_true rfl) | exact Or.inl rfl)); (first | done | fail)) (by (repeat' (first | exact trivial | refine ⟨?_, ?_⟩ | exact rfl | exact Or.inr rfl | exact Or.inl (Nat.le_of_ble_eq_true rfl) | exact Or.inl rfl)); (first | done | fail)) (by (repeat' (first | exact trivial | refine ⟨?_, ?_⟩ | exact rfl | exact Or.inr rfl | exact Or.inl (Nat.le_of_ble_eq_true rfl) | exact Or.inl rfl)); (first | done | fail)) ?_) | (refine call_g [4] (r_markMsgS x.buf _ (by omega) (by omega)) rfl rfl rfl (by (repeat' (first | exact trivial | refine ⟨?_, ?_⟩ | exact rfl | exact Or.inr rfl | exact Or.inl (Nat.le_of_ble_eq_true rfl) | exact Or.inl rfl)); (first | done | fail)) (by (repeat' (first | exact trivial | refine ⟨?_, ?_⟩ | exact rfl | exact Or.inr rfl | exact Or.inl (Nat.le_of_ble_eq_true rfl) | exact Or.inl rfl)); (first | done | fail)) (by (repeat' (first | exact trivial | refine ⟨?_, ?_⟩ | exact rfl | exact Or.inr rfl | exact Or.inl (Nat.le_of_ble_eq_true rfl) | exact Or.inl rfl)); (first | done | fail)) (by (repeat' (first | exact trivial | refine ⟨?_, ?_⟩ | exact rfl | exact Or.inr rfl | exact Or.inl (Nat.le_of_ble_eq_true rfl) | exact Or.inl rfl)); (first | done | fail)) ?_) | (refine ⟨(i + 1 : Nat), ?_, ?_, (Weak.unfocus 0 rfl rfl rfl rfl (fTr c0 x) ?_).trans ?_⟩) | (exfalso; omega) | (refine fin_au rfl ?_; (conv => whnf); ((repeat' (first | exact trivial | refine ⟨?_, ?_⟩ | exact rfl | exact Or.inr rfl | exact Or.inl (Nat.le_of_ble_eq_true rfl) | exact Or.inl rfl)) <;> (try (conv => whnf)) <;> (try (first | refine congrArg C.bool ?_ | refine congrArg (C.int .i64) ?_ | refine congrArg C.str ?_ | refine congrArg (fun l => some (Ob.row _ l)) ?_ | refine congrArg (fun l => some (Ob.dp _ l)) ?_ | refine congrArg (C.sl _) ?_)) <;> (try (rw [wrap_i64 (by omega) (by omega)]; first | rfl | omega)))) | (refine WkF.au ?_; (conv => whnf); ((repeat' (first | exact trivial | refine ⟨?_, ?_⟩ | exact rfl | exact Or.inr rfl | exact Or.inl (Nat.le_of_ble_eq_true rfl) | exact Or.inl rfl)) <;> (try (conv => whnf)) <;> (try (first | refine congrArg C.bool ?_ | refine congrArg (C.int .i64) ?_ | refine congrArg C.str ?_ | refine congrArg (fun l => some (Ob.row _ l)) ?_ | refine congrArg (fun l => some (Ob.dp _ l)) ?_ | refine congrArg (C.sl _) ?_)) <;> (try (rw [wrap_i64 (by omega) (by omega)]; first | rfl | omega)))) | (refine altl ?_) | fail))
        all_goals (try simp only [List.length_append, List.length_take, List.length_cons, List.length_drop, mkR_len] at hg)
        all_goals first
          | omega
          | (rw [fTr_eq, hw]; rfl)
          | (rw [wrap_i64 (by omega) (by omega)]; rfl)
          | (rw [← hst, List.set_eq_take_append_cons_drop, if_pos (by simpa using hl)])
      · refine vc_sound hT hM _ _ _ ?_
        (repeat' ((conv => whnf); first | (refine nx ?_; intro s) | (refine rg ?_; intro s k) | ((refine cas (fun h => ?_) (fun h => ?_)) <;> (try simp [-List.getD_eq_getElem?_getD] at h)) | ((refine may (fun h => ?_) ?_) <;> (try simp [-List.getD_eq_getElem?_getD] at h)) | (refine giv fun hg => ?_; (try simp only [byE] at hg)) | (refine need (by kernel_rfl) ?_) | (refine need ⟨by omega, by omega⟩ ?_) | (refine need (by omega) ?_) | (refine need (by first | (simp; done) | (simp; omega)) ?_) | (exfalso; omega) | (refine WkF.au ?_; (conv => whnf); ((repeat' (first | exact trivial | refine ⟨?_, ?_⟩ | exact rfl | exact Or.inr rfl | exact Or.inl (Nat.le_of_ble_eq_true rfl) | exact Or.inl rfl)) <;> (try (conv => whnf)) <;> (try (first | refine congrArg C.bool ?_ | refine congrArg (C.int .i64) ?_ | refine congrArg C.str ?_ | refine congrArg (fun l => some (Ob.row _ l)) ?_ | refine congrArg (fun l => some (Ob.dp _ l)) ?_ | refine congrArg (C.sl _) ?_)) <;> (try (rw [wrap_i64 (by omega) (by omega)]; first | rfl | omega)))) | (refine altl ?_) | fail))
        all_goals first | (exfalso; omega) | skip
        (refine fin_au rfl ?_; (conv => whnf); ((repeat' (first | exact trivial | refine ⟨?_, ?_⟩ | exact rfl | exact Or.inr rfl | exact Or.inl (Nat.le_of_ble_eq_true rfl) | exact Or.inl rfl)) <;> (try (conv => whnf)) <;> (try (first | refine congrArg C.bool ?_ | refine congrArg (C.int .i64) ?_ | refine congrArg C.str ?_ | refine congrArg (fun l => some (Ob.row _ l)) ?_ | refine congrArg (fun l => some (Ob.dp _ l)) ?_ | refine congrArg (C.sl _) ?_)) <;> (try (rw [wrap_i64 (by omega) (by omega)]; first | rfl | omega))))
        all_goals first
          | exact mkR_all q (by omega)
          | (rw [cnG_all (by omega)]; done)
theorem r_markTreeS (xs : List Tr) (q : Int) (h0 : 0 ≤ q) (h1 : q + cnG cTr xs ≤ 4611686018427387904) : Ret Tryz.prog 64 [.rw 0, aI q] [(0, .dp .tr xs)] (aI (q + cnG cTr xs)) [(0, .dp .tr (mkG fTr cTr q xs))] := r_markTreeS' _ xs q (Nat.lt_succ_self _) h0 h1
theorem r_markTree (x : Tr) (q : Int) (h0 : 0 ≤ q) (h1 : q + cnT x ≤ 4611686018427387904) : Ret Tryz.prog 16 [ownA .tr x, aI q] (ownH .tr x) (aI (q + cnT x)) (ownH .tr (mkT q x)) := by
  have hpt := cT_parts x
  have he := cnT_eq x
  rw [mkT_eq]
  refine ret_vc hT hM Tryz.func16 rfl rfl (m := 4) (nx := 4) rfl (Nat.le_of_ble_eq_true rfl) ?_
  (repeat' ((conv => whnf); first | (refine nx ?_; intro s) | (refine rg ?_; intro s k) | ((refine cas (fun h => ?_) (fun h => ?_)) <;> (try simp [-List.getD_eq_getElem?_getD] at h)) | ((refine may (fun h => ?_) ?_) <;> (try simp [-List.getD_eq_getElem?_getD] at h)) | (refine giv fun hg => ?_; (try simp only [byE] at hg)) | (refine need (by kernel_rfl) ?_) | (refine need ⟨by omega, by omega⟩ ?_) | (refine need (by omega) ?_) | (refine need (by first | (simp; done) | (simp; omega)) ?_) | (refine call_g [0] (r_markPairS x.pairs _ (by omega) (by omega)) rfl rfl rfl (by (repeat' (first | exact trivial | refine ⟨?_, ?_⟩ | exact rfl | exact Or.inr rfl | exact Or.inl (Nat.le_of_ble_eq_true rfl) | exact Or.inl rfl)); (first | done | fail)) (by (repeat' (first | exact trivial | refine ⟨?_, ?_⟩ | exact rfl | exact Or.inr rfl | exact Or.inl (Nat.le_of_ble_eq_true rfl) | exact Or.inl rfl)); (first | done | fail)) (by (repeat' (first | exact trivial | refine ⟨?_, ?_⟩ | exact rfl | exact Or.inr rfl | exact Or.inl (Nat.le_of_ble_eq_true rfl) | exact Or.inl rfl)); (first | done | fail)) (by (repeat' (first | exact trivial | refine ⟨?_, ?_⟩ | exact rfl | exact Or.inr rfl | exact Or.inl (Nat.le_of_ble_eq_true rfl) | exact Or.inl rfl)); (first | done | fail)) ?_) | (refine call_g [1] (r_markIntS x.cuts _ (by omega) (by omega)) rfl rfl rfl (by (repeat' (first | exact trivial | refine ⟨?_, ?_⟩ | exact rfl | exact Or.inr rfl | exact Or.inl (Nat.le_of_ble_eq_true rfl) | exact Or.inl rfl)); (first | done | fail)) (by (repeat' (first | exact trivial | refine ⟨?_, ?_⟩ | exact rfl | exact Or.inr rfl | exact Or.inl (Nat.le_of_ble_eq_true rfl) | exact Or.inl rfl)); (first | done | fail)) (by (repeat' (first | exact trivial | refine ⟨?_, ?_⟩ | exact rfl | exact Or.inr rfl | exact Or.inl (Nat.le_of_ble_eq_true rfl) | exact Or.inl rfl)); (first | done | fail)) (by (repeat' (first | exact trivial | refine ⟨?_, ?_⟩ | exact rfl | exact Or.inr rfl | exact Or.inl (Nat.le_of_ble_eq_true rfl) | exact Or.inl rfl)); (first | done | fail)) ?_) | (refine call_g [2] (r_markTreeS x.kids _ (by omega) (by omega)) rfl rfl rfl (by (repeat' (first | exact trivial | refine ⟨?_, ?_⟩ | exact rfl | exact Or.inr rfl | exact Or.inl (Nat.le_of_ble_eq_true rfl) | exact Or.inl rfl)); (first | done | fail)) (by (repeat' (first | exact trivial | refine ⟨?_, ?_⟩ | exact rfl | exact Or.inr rfl | exact Or.inl (Nat.le_of_ble_eq_true rfl) | exact Or.inl rfl)); (first | done | fail)) (by (repeat' (first | exact trivial | refine ⟨?_, ?_⟩ | exact rfl | exact Or.inr rfl | exact Or.inl (Nat.le_of_ble_eq_true rfl) | exact Or.inl rfl)); (first | done | fail)) (by (repeat' (first | exact trivial | refine ⟨?_, ?_⟩ | exact rfl | exact Or.inr rfl | exact Or.inl (Nat.le_of_ble_eq_true rfl) | exact Or.inl rfl)); (first | done | fail)) ?_) | (refine call_g [3] (r_markMsgS x.buf _ (by omega) (by omega)) rfl rfl rfl (by (repeat' (first | exact trivial | refine ⟨?_, ?_⟩ | exact rfl | exact Or.inr rfl | exact Or.inl (Nat.le_of_ble_eq_true rfl) | exact Or.inl rfl)); (first | done | fail)) (by (repeat' (first | exact trivial | refine ⟨?_, ?_⟩ | exact rfl | exact Or.inr rfl | exact Or.inl (Nat.le_of_ble_eq_true rfl) | exact Or.inl rfl)); (first | done | fail)) (by (repeat' (first | exact trivial | refine ⟨?_, ?_⟩ | exact rfl | exact Or.inr rfl | exact Or.inl (Nat.le_of_ble_eq_true rfl) | exact Or.inl rfl)); (first | done | fail)) (by (repeat' (first | exact trivial | refine ⟨?_, ?_⟩ | exact rfl | exact Or.inr rfl | exact Or.inl (Nat.le_of_ble_eq_true rfl) | exact Or.inl rfl)); (first | done | fail)) ?_) | (refine fin_au rfl ?_; (conv => whnf); ((repeat' (first | exact trivial | refine ⟨?_, ?_⟩ | exact rfl | exact Or.inr rfl | exact Or.inl (Nat.le_of_ble_eq_true rfl) | exact Or.inl rfl)) <;> (try (conv => whnf)) <;> (try (first | refine congrArg C.bool ?_ | refine congrArg (C.int .i64) ?_ | refine congrArg C.str ?_ | refine congrArg (fun l => some (Ob.row _ l)) ?_ | refine congrArg (fun l => some (Ob.dp _ l)) ?_ | refine congrArg (C.sl _) ?_)) <;> (try (rw [wrap_i64 (by omega) (by omega)]; first | rfl | omega)))) | (refine WkF.au ?_; (conv => whnf); ((repeat' (first | exact trivial | refine ⟨?_, ?_⟩ | exact rfl | exact Or.inr rfl | exact Or.inl (Nat.le_of_ble_eq_true rfl) | exact Or.inl rfl)) <;> (try (conv => whnf)) <;> (try (first | refine congrArg C.bool ?_ | refine congrArg (C.int .i64) ?_ | refine congrArg C.str ?_ | refine congrArg (fun l => some (Ob.row _ l)) ?_ | refine congrArg (fun l => some (Ob.dp _ l)) ?_ | refine congrArg (C.sl _) ?_)) <;> (try (rw [wrap_i64 (by omega) (by omega)]; first | rfl | omega)))) | (refine altl ?_) | fail))
  all_goals (rw [he]; omega)
end Go.Proofs.YthbpdhppelaihaaGreat
/- What holds the marks of trees. Conditions: none. -/
set_option linter.unusedVariables false
set_option linter.unusedSimpArgs false
namespace Go.Proofs.YthbpdhppelaihaaGreat
open Go.RowKit
attribute [local irreducible] Tri Weak
set_option maxRecDepth 4000
set_option maxHeartbeats 4000000
theorem h_Pr {ys xs : List Pr} {q k : Int} (hy : ys = mkG fPr (cK 2) q xs) (hq : k = q) (h0 : 0 ≤ q) (h1 : q + cnG (cK 2) xs ≤ 4611686018427387904) : Ret Tryz.prog 66 [aL .pr ys, aI k] [] (aI (q + cnG (cK 2) xs)) [] := by
  subst hy; subst hq; exact r_heldPairS xs k h0 h1
theorem h_In {ys xs : List Int} {q k : Int} (hy : ys = mkG fInt (cK 1) q xs) (hq : k = q) (h0 : 0 ≤ q) (h1 : q + cnG (cK 1) xs ≤ 4611686018427387904) : Ret Tryz.prog 67 [aL .int ys, aI k] [] (aI (q + cnG (cK 1) xs)) [] := by
  subst hy; subst hq; exact r_heldIntS xs k h0 h1
theorem h_Ms {ys xs : List Ms} {q k : Int} (hy : ys = mkG fMs (cK 3) q xs) (hq : k = q) (h0 : 0 ≤ q) (h1 : q + cnG (cK 3) xs ≤ 4611686018427387904) : Ret Tryz.prog 69 [aL .ms ys, aI k] [] (aI (q + cnG (cK 3) xs)) [] := by
  subst hy; subst hq; exact r_heldMsgS xs k h0 h1
theorem r_heldTreeS' : ∀ (n : Nat) (xs ys : List Tr) (q k : Int), SizeOf.sizeOf xs < n → ys = mkG fTr cTr q xs → k = q → 0 ≤ q → q + cnG cTr xs ≤ 4611686018427387904 → Ret Tryz.prog 68 [aL .tr ys, aI k] [] (aI (q + cnG cTr xs)) [] := by
  intro n
  induction n with
  | zero => intro xs ys q k h; omega
  | succ n ih =>
    intro xs ys q q1 hn hy hk h0 h1
    subst hy
    have hk := hk.symm
    subst hk
    refine ret_vc hT hM Tryz.func68 rfl rfl (m := 0) (nx := 0) rfl (Nat.le_of_ble_eq_true rfl) ?_
    (repeat ((conv => whnf); first | (refine nx ?_; intro s) | (refine rg ?_; intro s k))); (conv => whnf)
    refine Tri.loop (fun i : Nat => ⟨[(0, aL .tr (mkG fTr cTr q xs)), (1, aI (q + cnG cTr (xs.take i))), (5, aI i)], [], 0⟩) (fun i => i ≤ xs.length) (fun i => xs.length - i) 0 (Nat.zero_le _) ?_ ?_
    · (refine WkF.au ?_; (conv => whnf); ((repeat' (first | exact trivial | refine ⟨?_, ?_⟩ | exact rfl | exact Or.inr rfl | exact Or.inl (Nat.le_of_ble_eq_true rfl) | exact Or.inl rfl)) <;> (try (conv => whnf)) <;> (try (first | refine congrArg C.bool ?_ | refine congrArg (C.int .i64) ?_ | refine congrArg C.str ?_ | refine congrArg (fun l => some (Ob.row _ l)) ?_ | refine congrArg (fun l => some (Ob.dp _ l)) ?_ | refine congrArg (C.sl _) ?_)) <;> (try (rw [wrap_i64 (by omega) (by omega)]; first | rfl | omega))))
      all_goals (simp [cnG]; done)
    · intro i hi
      rcases Nat.lt_or_ge i xs.length with hl | hl
      · have hp := cnG_pos cTr_pos (xs.take i)
        have hq3 := cnG_take cTr_pos xs (i + 1)
        have hsu := cnG_succ (c := cTr) xs i (dflt .tr) hl
        have hpt := cT_parts (xs.getD i (dflt .tr))
        have he := (mkG_getD (f := fTr) (c := cTr) xs q i (dflt .tr) hl).trans (fTr_eq _ _)
        have hkd : SizeOf.sizeOf (xs.getD i (dflt .tr)).kids < n := by
          have h2 : SizeOf.sizeOf (xs.getD i (dflt .tr)) < SizeOf.sizeOf xs := List.sizeOf_lt_of_mem (List.mem_of_getElem? (getD_some hl (dflt .tr)))
          have h3 : SizeOf.sizeOf (xs.getD i (dflt .tr)).kids < SizeOf.sizeOf (xs.getD i (dflt .tr)) := by
            cases xs.getD i (dflt .tr); simp; omega
          omega
        generalize hx : xs.getD i (dflt .tr) = x at *
        generalize hc0 : q + cnG cTr (xs.take i) = c0 at *
        have hw := wrap_i64 (n := c0 + 1) (by omega) (by omega)
        refine vc_sound hT hM _ _ _ ?_
        (repeat' ((conv => whnf); first | (refine nx ?_; intro s) | (refine rg ?_; intro s k) | ((refine cas (fun h => ?_) (fun h => ?_)) <;> (try simp [-List.getD_eq_getElem?_getD, he, t3] at h)) | ((refine may (fun h => ?_) ?_) <;> (try simp [-List.getD_eq_getElem?_getD, he, t3] at h)) | (refine giv fun hg => ?_; (try simp only [byE] at hg)) | (refine need (by kernel_rfl) ?_) | (refine need ⟨by omega, by omega⟩ ?_) | (refine need (by omega) ?_) | (refine need (by first | (simp; done) | (simp; omega)) ?_) | (refine call_p (h_Pr (xs := x.pairs) (congrArg Tr.pairs he) hw (by omega) (by omega)) rfl (by (repeat' (first | exact trivial | refine ⟨?_, ?_⟩ | exact rfl | exact Or.inr rfl | exact Or.inl (Nat.le_of_ble_eq_true rfl) | exact Or.inl rfl)); (first | done | fail)) ?_) | (refine call_p (h_In (xs := x.cuts) (congrArg Tr.cuts he) rfl (by omega) (by omega)) rfl (by (repeat' (first | exact trivial | refine ⟨?_, ?_⟩ | exact rfl | exact Or.inr rfl | exact Or.inl (Nat.le_of_ble_eq_true rfl) | exact Or.inl rfl)); (first | done | fail)) ?_) | (refine call_p (ih x.kids _ _ _ hkd (congrArg Tr.kids he) rfl (by omega) (by omega)) rfl (by (repeat' (first | exact trivial | refine ⟨?_, ?_⟩ | exact rfl | exact Or.inr rfl | exact Or.inl (Nat.le_of_ble_eq_true rfl) | exact Or.inl rfl)); (first | done | fail)) ?_) | (refine call_p (h_Ms (xs := x.buf) (congrArg Tr.buf he) rfl (by omega) (by omega)) rfl (by (repeat' (first | exact trivial | refine ⟨?_, ?_⟩ | exact rfl | exact Or.inr rfl | exact Or.inl (Nat.le_of_ble_eq_true rfl) | exact Or.inl rfl)); (first | done | fail)) ?_) | (refine ⟨(i + 1 : Nat), ?_, ?_, ?_⟩) | (exfalso; omega) | (refine fin_au rfl ?_; (conv => whnf); ((repeat' (first | exact trivial | refine ⟨?_, ?_⟩ | exact rfl | exact Or.inr rfl | exact Or.inl (Nat.le_of_ble_eq_true rfl) | exact Or.inl rfl)) <;> (try (conv => whnf)) <;> (try (first | refine congrArg C.bool ?_ | refine congrArg (C.int .i64) ?_ | refine congrArg C.str ?_ | refine congrArg (fun l => some (Ob.row _ l)) ?_ | refine congrArg (fun l => some (Ob.dp _ l)) ?_ | refine congrArg (C.sl _) ?_)) <;> (try (rw [wrap_i64 (by omega) (by omega)]; first | rfl | omega)))) | (refine WkF.au ?_; (conv => whnf); ((repeat' (first | exact trivial | refine ⟨?_, ?_⟩ | exact rfl | exact Or.inr rfl | exact Or.inl (Nat.le_of_ble_eq_true rfl) | exact Or.inl rfl)) <;> (try (conv => whnf)) <;> (try (first | refine congrArg C.bool ?_ | refine congrArg (C.int .i64) ?_ | refine congrArg C.str ?_ | refine congrArg (fun l => some (Ob.row _ l)) ?_ | refine congrArg (fun l => some (Ob.dp _ l)) ?_ | refine congrArg (C.sl _) ?_)) <;> (try (rw [wrap_i64 (by omega) (by omega)]; first | rfl | omega)))) | (refine altl ?_) | fail))
        all_goals (try simp only [mkG_len] at hg)
        all_goals first
          | omega
          | (rw [wrap_i64 (by omega) (by omega)]; rfl)
      · refine vc_sound hT hM _ _ _ ?_
        (repeat' ((conv => whnf); first | (refine nx ?_; intro s) | (refine rg ?_; intro s k) | ((refine cas (fun h => ?_) (fun h => ?_)) <;> (try simp [-List.getD_eq_getElem?_getD] at h)) | ((refine may (fun h => ?_) ?_) <;> (try simp [-List.getD_eq_getElem?_getD] at h)) | (refine giv fun hg => ?_; (try simp only [byE] at hg)) | (refine need (by kernel_rfl) ?_) | (refine need ⟨by omega, by omega⟩ ?_) | (refine need (by omega) ?_) | (refine need (by first | (simp; done) | (simp; omega)) ?_) | (exfalso; omega) | (refine WkF.au ?_; (conv => whnf); ((repeat' (first | exact trivial | refine ⟨?_, ?_⟩ | exact rfl | exact Or.inr rfl | exact Or.inl (Nat.le_of_ble_eq_true rfl) | exact Or.inl rfl)) <;> (try (conv => whnf)) <;> (try (first | refine congrArg C.bool ?_ | refine congrArg (C.int .i64) ?_ | refine congrArg C.str ?_ | refine congrArg (fun l => some (Ob.row _ l)) ?_ | refine congrArg (fun l => some (Ob.dp _ l)) ?_ | refine congrArg (C.sl _) ?_)) <;> (try (rw [wrap_i64 (by omega) (by omega)]; first | rfl | omega)))) | (refine altl ?_) | fail))
        all_goals first | (exfalso; omega) | skip
        (refine fin_au rfl ?_; (conv => whnf); ((repeat' (first | exact trivial | refine ⟨?_, ?_⟩ | exact rfl | exact Or.inr rfl | exact Or.inl (Nat.le_of_ble_eq_true rfl) | exact Or.inl rfl)) <;> (try (conv => whnf)) <;> (try (first | refine congrArg C.bool ?_ | refine congrArg (C.int .i64) ?_ | refine congrArg C.str ?_ | refine congrArg (fun l => some (Ob.row _ l)) ?_ | refine congrArg (fun l => some (Ob.dp _ l)) ?_ | refine congrArg (C.sl _) ?_)) <;> (try (rw [wrap_i64 (by omega) (by omega)]; first | rfl | omega))))
        all_goals first
          | (rw [cnG_all (by omega)]; done)
theorem r_heldTreeS (xs : List Tr) (q : Int) (h0 : 0 ≤ q) (h1 : q + cnG cTr xs ≤ 4611686018427387904) : Ret Tryz.prog 68 [aL .tr (mkG fTr cTr q xs), aI q] [] (aI (q + cnG cTr xs)) [] := r_heldTreeS' _ xs _ q q (Nat.lt_succ_self _) rfl rfl h0 h1
theorem r_heldTree (x : Tr) (q : Int) (h0 : 0 ≤ q) (h1 : q + cnT x ≤ 4611686018427387904) : Ret Tryz.prog 17 [agE .tr (mkT q x), aI q] [] (aI (q + cnT x)) [] := by
  have hpt := cT_parts x
  have he := cnT_eq x
  rw [mkT_eq]
  refine ret_vc hT hM Tryz.func17 rfl rfl (m := 0) (nx := 0) rfl (Nat.le_of_ble_eq_true rfl) ?_
  (repeat' ((conv => whnf); first | (refine nx ?_; intro s) | (refine rg ?_; intro s k) | ((refine cas (fun h => ?_) (fun h => ?_)) <;> (try simp [-List.getD_eq_getElem?_getD] at h)) | ((refine may (fun h => ?_) ?_) <;> (try simp [-List.getD_eq_getElem?_getD] at h)) | (refine giv fun hg => ?_; (try simp only [byE] at hg)) | (refine need (by kernel_rfl) ?_) | (refine need ⟨by omega, by omega⟩ ?_) | (refine need (by omega) ?_) | (refine need (by first | (simp; done) | (simp; omega)) ?_) | (refine call_p (r_heldPairS x.pairs _ (by omega) (by omega)) rfl (by (repeat' (first | exact trivial | refine ⟨?_, ?_⟩ | exact rfl | exact Or.inr rfl | exact Or.inl (Nat.le_of_ble_eq_true rfl) | exact Or.inl rfl)); (first | done | fail)) ?_) | (refine call_p (r_heldIntS x.cuts _ (by omega) (by omega)) rfl (by (repeat' (first | exact trivial | refine ⟨?_, ?_⟩ | exact rfl | exact Or.inr rfl | exact Or.inl (Nat.le_of_ble_eq_true rfl) | exact Or.inl rfl)); (first | done | fail)) ?_) | (refine call_p (r_heldTreeS x.kids _ (by omega) (by omega)) rfl (by (repeat' (first | exact trivial | refine ⟨?_, ?_⟩ | exact rfl | exact Or.inr rfl | exact Or.inl (Nat.le_of_ble_eq_true rfl) | exact Or.inl rfl)); (first | done | fail)) ?_) | (refine call_p (r_heldMsgS x.buf _ (by omega) (by omega)) rfl (by (repeat' (first | exact trivial | refine ⟨?_, ?_⟩ | exact rfl | exact Or.inr rfl | exact Or.inl (Nat.le_of_ble_eq_true rfl) | exact Or.inl rfl)); (first | done | fail)) ?_) | (exfalso; omega) | (refine fin_au rfl ?_; (conv => whnf); ((repeat' (first | exact trivial | refine ⟨?_, ?_⟩ | exact rfl | exact Or.inr rfl | exact Or.inl (Nat.le_of_ble_eq_true rfl) | exact Or.inl rfl)) <;> (try (conv => whnf)) <;> (try (first | refine congrArg C.bool ?_ | refine congrArg (C.int .i64) ?_ | refine congrArg C.str ?_ | refine congrArg (fun l => some (Ob.row _ l)) ?_ | refine congrArg (fun l => some (Ob.dp _ l)) ?_ | refine congrArg (C.sl _) ?_)) <;> (try (rw [wrap_i64 (by omega) (by omega)]; first | rfl | omega)))) | (refine WkF.au ?_; (conv => whnf); ((repeat' (first | exact trivial | refine ⟨?_, ?_⟩ | exact rfl | exact Or.inr rfl | exact Or.inl (Nat.le_of_ble_eq_true rfl) | exact Or.inl rfl)) <;> (try (conv => whnf)) <;> (try (first | refine congrArg C.bool ?_ | refine congrArg (C.int .i64) ?_ | refine congrArg C.str ?_ | refine congrArg (fun l => some (Ob.row _ l)) ?_ | refine congrArg (fun l => some (Ob.dp _ l)) ?_ | refine congrArg (C.sl _) ?_)) <;> (try (rw [wrap_i64 (by omega) (by omega)]; first | rfl | omega)))) | (refine altl ?_) | fail))
  all_goals (rw [he]; omega)
end Go.Proofs.YthbpdhppelaihaaGreat
