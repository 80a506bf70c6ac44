/- Bounds of what is handed over, marks of trees covered by what was counted, copies of trees (parts of K7 and K8, without worlds). Conditions: none. -/
import Derived.Test.YthbpdhppelaihaaGreatZK
import Derived.Test.YthbpdhppelaihaaGreatZT
set_option linter.unusedVariables false
set_option linter.unusedSimpArgs false
namespace Go.Proofs.YthbpdhppelaihaaGreat
open Go.RowKit
def szG {α : Type} (f : α → Int → Int) : List α → Int → Int
  | [], l => l
  | t :: ts, l => if f t l < 0 then -1 else szG f ts (f t l)
def szS {α : Type} (f : α → Int → Int) (k : List α) (left : Int) : Int := if sz1 k.length left < 0 then -1 else szG f k (sz1 k.length left)
def szq : List (Int → Int) → Int → Int
  | [], l => l
  | f :: fs, l => if f l < 0 then -1 else szq fs (f l)
abbrev agL (l : List C) : A := .ag (l.map .c)
mutual
/-- No slice is too long, all the way down. -/
inductive BndC : C → Prop
  | int (k : IntKind) (n : Int) : BndC (.int k n)
  | bool (b : Bool) : BndC (.bool b)
  | str (s : List UInt8) : BndC (.str s)
  | sl (e : Ty) (xs : List (El e)) (hb : xs.length * byE e ≤ 140737488355328) (hr : BndL (xs.flatMap (cells e))) : BndC (.sl e xs)
inductive BndL : List C → Prop
  | nil : BndL []
  | cons {c : C} {cs : List C} (h : BndC c) (t : BndL cs) : BndL (c :: cs)
end
mutual
theorem RepC.bnd {F : Nat → Prop} {w : World} : ∀ {v : Value} {c : C}, RepC F w v c → BndC c
  | _, _, .int k n => .int k n
  | _, _, .bool b => .bool b
  | _, _, .str s hs => .str _
  | _, _, .sl e xs A c us hc hb hA hr => .sl e xs hb (RepL.bnd hr)
theorem RepL.bnd {F : Nat → Prop} {w : World} : ∀ {us : List Value} {cs : List C}, RepL F w us cs → BndL cs
  | _, _, .nil => .nil
  | _, _, .cons h t => .cons (RepC.bnd h) (RepL.bnd t)
end
theorem BndL.un {c : C} {cs : List C} (h : BndL (c :: cs)) : BndC c ∧ BndL cs := by cases h with | cons h t => exact ⟨h, t⟩
theorem BndL.app : ∀ {a b : List C}, BndL (a ++ b) → BndL a ∧ BndL b
  | [], _, h => ⟨.nil, h⟩
  | c :: a, b, h => by
    have h1 := (BndL.un (cs := a ++ b) h)
    have h2 := BndL.app h1.2
    exact ⟨.cons h1.1 h2.1, h2.2⟩
theorem BndC.len {e : Ty} {xs : List (El e)} (h : BndC (.sl e xs)) : xs.length ≤ 140737488355328 := by
  cases h with | sl _ _ hb _ =>
  have := byE_pos e
  calc xs.length = xs.length * 1 := (Nat.mul_one _).symm
    _ ≤ xs.length * byE e := Nat.mul_le_mul_left _ this
    _ ≤ _ := hb
theorem bnd_flat {e : Ty} : ∀ {xs : List (El e)}, BndL (xs.flatMap (cells e)) → ∀ x ∈ xs, BndL (cells e x)
  | [], _, x, hx => by simp at hx
  | y :: xs, h, x, hx => by
    rw [List.flatMap_cons] at h
    rcases List.mem_cons.1 hx with rfl | hx
    · exact h.app.1
    · exact bnd_flat h.app.2 x hx
theorem BndC.el {e : Ty} {xs : List (El e)} (h : BndC (.sl e xs)) : ∀ x ∈ xs, BndL (cells e x) := by
  cases h with | sl _ _ _ hr => exact bnd_flat hr
theorem bnd_as {F : Nat → Prop} {V : Nat → Value} {w : World} : ∀ {cs : List C} {us : List Value}, RepAs F V w us (cs.map .c) → BndL cs
  | [], _, _ => .nil
  | c :: cs, _, h => by
    cases h with
    | cons h t =>
      cases h with
      | c h => exact .cons h.bnd (bnd_as t)
/-- A struct that is handed over is bounded. -/
theorem ret_bnd {P : Program} {f : Nat} {az : List A} {hin : Hp} {r : A} {hout : Hp} (j : Nat) {cs : List C} (he : Ent P f) (ha : az[j]? = some (agL cs)) (h : BndL cs → Ret P f az hin r hout) : Ret P f az hin r hout := by
  refine ⟨he, fun F V B w args h1 h2 h3 h4 h5 => ?_⟩
  obtain ⟨u, hu, hr⟩ := h4.get ha
  have hb : BndL cs := by
    cases hr with | ag hr _ => exact bnd_as hr
  exact (h hb).2 F V B w args h1 h2 h3 h4 h5
theorem ret_bndS {P : Program} {f : Nat} {az : List A} {hin : Hp} {r : A} {hout : Hp} (j : Nat) {c : C} (he : Ent P f) (ha : az[j]? = some (.c c)) (h : BndC c → Ret P f az hin r hout) : Ret P f az hin r hout := by
  refine ⟨he, fun F V B w args h1 h2 h3 h4 h5 => ?_⟩
  obtain ⟨u, hu, hr⟩ := h4.get ha
  have hb : BndC c := by
    cases hr with | c hr => exact hr.bnd
  exact (h hb).2 F V B w args h1 h2 h3 h4 h5
/-- What f takes off covers c marks. -/
def Cov (f : Int → Int) (c : Int) : Prop := ∀ l, 0 ≤ l → l ≤ 1099511627776 → ¬ f l < 0 → c + 9 * f l ≤ 9 * l
theorem good_nil : Cov (szq []) 0 := fun l h0 h1 h2 => by simp [szq]
theorem good_cons {f : Int → Int} {fs : List (Int → Int)} {c d : Int} (hf : Cov f c) (hc : 0 ≤ c) (hd : Cov (szq fs) d) : Cov (szq (f :: fs)) (c + d) := by
  intro l h0 h1 h2
  simp only [szq] at h2 ⊢
  by_cases hn : f l < 0
  · rw [if_pos hn] at h2; omega
  · rw [if_neg hn] at h2 ⊢
    have h3 := hf l h0 h1 hn
    have h4 := hd (f l) (by omega) (by omega) h2
    omega
theorem sz1_ok {n : Nat} {l : Int} (hn : n ≤ 140737488355328) (h0 : 0 ≤ l) (h1 : l ≤ 1099511627776) (h : ¬ sz1 n l < 0) : sz1 n l = l - n := by
  have hw := wrap_i64 (n := l - n) (by omega) (by omega)
  unfold sz1 at *
  rw [hw] at h ⊢
  split at h
  · omega
  · rename_i h2; rw [if_neg h2]
theorem good_sz1 {n : Nat} {c : Int} (hn : n ≤ 140737488355328) (hc : c ≤ 9 * n) : Cov (sz1 n) c := fun l h0 h1 h2 => by
  rw [sz1_ok hn h0 h1 h2]; omega
theorem cnG_cK {α : Type} (j : Int) : ∀ xs : List α, cnG (cK j) xs = j * xs.length
  | [] => by simp [cnG]
  | x :: xs => by simp only [cnG, cnG_cK j xs, List.length_cons, cK]; rw [Int.natCast_add, Int.mul_add]; omega
theorem good_fl {e : Ty} {xs : List (El e)} (h : BndC (.sl e xs)) (j : Int) (h0 : 0 ≤ j) (h1 : j ≤ 9) : Cov (sz1 xs.length) (cnG (cK j) xs) := by
  refine good_sz1 h.len ?_
  rw [cnG_cK]
  exact Int.mul_le_mul_of_nonneg_right h1 (by omega)
theorem good_szG {α : Type} {f : α → Int → Int} {c d : α → Int} : ∀ {xs : List α}, (∀ x ∈ xs, Cov (f x) (d x) ∧ 0 ≤ d x ∧ c x ≤ d x + 9) → ∀ l, 0 ≤ l → l ≤ 1099511627776 → ¬ szG f xs l < 0 → cnG c xs + 9 * szG f xs l ≤ 9 * l + 9 * xs.length
  | [], _, l, h0, h1, h2 => by simp [szG, cnG]
  | x :: xs, h, l, h0, h1, h2 => by
    obtain ⟨h3, h4, h5⟩ := h x (List.mem_cons_self ..)
    simp only [szG] at h2 ⊢
    by_cases hn : f x l < 0
    · rw [if_pos hn] at h2; omega
    · rw [if_neg hn] at h2 ⊢
      have h6 := h3 l h0 h1 hn
      have h7 := good_szG (fun y hy => h y (List.mem_cons_of_mem _ hy)) (f x l) (by omega) (by omega) h2
      simp only [cnG, List.length_cons]
      omega
theorem good_szS {α : Type} {f : α → Int → Int} {c d : α → Int} {xs : List α} (hb : xs.length ≤ 140737488355328) (h : ∀ x ∈ xs, Cov (f x) (d x) ∧ 0 ≤ d x ∧ c x ≤ d x + 9) : Cov (szS f xs) (cnG c xs) := by
  intro l h0 h1 h2
  unfold szS at h2 ⊢
  by_cases hn : sz1 xs.length l < 0
  · rw [if_pos hn] at h2; omega
  · rw [if_neg hn] at h2 ⊢
    have h3 := sz1_ok hb h0 h1 hn
    have h4 := good_szG h _ (by omega) (by omega) h2
    omega
theorem szTl_eq : ∀ (xs : List Tr) (l : Int), szTl xs l = szG szT xs l
  | [], l => by simp only [szTl, szG]
  | x :: xs, l => by simp only [szTl, szG]; rw [szTl_eq xs]
theorem szT_q (t : Tr) (l : Int) : szT t l = szq [sz1 t.pairs.length, sz1 t.cuts.length, szS szT t.kids, sz1 t.buf.length] l := by
  rw [szT_eq]
  have : szTs t.kids = szS szT t.kids := by funext l; simp only [szTs, szS, szTl_eq]
  rw [this]
  simp only [szq]
  repeat' split
  all_goals rfl
theorem good_T' : ∀ (n : Nat) (t : Tr), SizeOf.sizeOf t < n → BndL (Tr.cells t) → Cov (szT t) (cnT t) := by
  intro n
  induction n with
  | zero => intro t h; omega
  | succ n ih =>
    intro t hn hb
    have h1 := hb.un.2.un
    have h2 := h1.2.un
    have h3 := h2.2.un
    have h4 := h3.2.un
    have hp := cT_parts t
    have hk : Cov (szS szT t.kids) (cnG cTr t.kids) := good_szS (d := cnT) h3.1.len fun x hx => ⟨ih x (by have := kid_lt hx; omega) (h3.1.el x hx), cnT_pos x, by unfold cTr; omega⟩
    have := good_cons (good_fl h1.1 2 (by decide) (by decide)) hp.2.1 (good_cons (good_fl h2.1 1 (by decide) (by decide)) hp.2.2.1 (good_cons hk hp.2.2.2.1 (good_cons (good_fl h4.1 3 (by decide) (by decide)) hp.2.2.2.2 good_nil)))
    intro l h0 h1 h2
    rw [szT_q] at h2 ⊢
    have := this l h0 h1 h2
    rw [cnT_eq]
    omega
theorem good_T (t : Tr) (h : BndL (Tr.cells t)) : Cov (szT t) (cnT t) := good_T' _ t (Nat.lt_succ_self _) h
theorem Cov.le {f : Int → Int} {c d : Int} (h : Cov f c) (hd : d ≤ c) : Cov f d := fun l h0 h1 h2 => by have := h l h0 h1 h2; omega
section
attribute [local irreducible] Tri Weak
set_option maxRecDepth 4000
set_option maxHeartbeats 4000000
theorem take_snoc {α : Type} (xs : List α) (d : α) {i : Nat} (h : i < xs.length) : xs.take i ++ [xs.getD i d] = xs.take (i + 1) := by
  rw [List.take_add_one, List.getD_eq_getElem?_getD, List.getElem?_eq_getElem h]; rfl
theorem snoc_chunk (e : Ty) (xs : List (El e)) (d : El e) {i : Nat} (h : i < xs.length) : xs.take i ++ chunk e 1 (cells e (xs.getD i d)) = xs.take (i + 1) := by
  rw [← take_snoc xs d h]
  show _ ++ [mkE e ((cells e (xs.getD i d)).take (szE e))] = _
  rw [List.take_of_length_le (l := cells e (xs.getD i d)) (by rw [cells_len]; exact Nat.le_refl _), mkE_cells]
theorem copyTree' : ∀ (n : Nat) (t : Tr), SizeOf.sizeOf t < n → Ret Tryz.prog 83 [agE .tr t] [] (ownA .tr t) (ownH .tr t) := by
  intro n
  induction n with
  | zero => intro t h; omega
  | succ n ih =>
    intro t hn
    refine ret_vc hT hM Tryz.func83 rfl rfl (m := 0) (nx := 0) rfl (Nat.le_of_ble_eq_true rfl) ?_
    (repeat' ((conv => whnf); first | (refine nx ?_; intro s) | (refine rg ?_; intro s k) | ((refine cas (fun h => ?_) (fun h => ?_)) <;> (try simp [-List.getD_eq_getElem?_getD] at h)) | ((refine may (fun h => ?_) ?_) <;> (try simp [-List.getD_eq_getElem?_getD] at h)) | (refine giv fun hg => ?_; (try simp only [byE] at hg)) | (refine need (by kernel_rfl) ?_) | (refine need ⟨by omega, by omega⟩ ?_) | (refine need (by omega) ?_) | (refine need (by first | (simp; done) | (simp; omega)) ?_) | (refine fin_au rfl ?_; (conv => whnf); ((repeat' (first | exact trivial | refine ⟨?_, ?_⟩ | exact rfl | exact Or.inr rfl | exact Or.inl (Nat.le_of_ble_eq_true rfl) | exact Or.inl rfl)) <;> (try (conv => whnf)) <;> (try (first | refine congrArg C.bool ?_ | refine congrArg (C.int .i64) ?_ | refine congrArg C.str ?_ | refine congrArg (fun l => some (Ob.row _ l)) ?_ | refine congrArg (fun l => some (Ob.dp _ l)) ?_ | refine congrArg (C.sl _) ?_)) <;> (try (rw [wrap_i64 (by omega) (by omega)]; first | rfl | omega)))) | (refine WkF.au ?_; (conv => whnf); ((repeat' (first | exact trivial | refine ⟨?_, ?_⟩ | exact rfl | exact Or.inr rfl | exact Or.inl (Nat.le_of_ble_eq_true rfl) | exact Or.inl rfl)) <;> (try (conv => whnf)) <;> (try (first | refine congrArg C.bool ?_ | refine congrArg (C.int .i64) ?_ | refine congrArg C.str ?_ | refine congrArg (fun l => some (Ob.row _ l)) ?_ | refine congrArg (fun l => some (Ob.dp _ l)) ?_ | refine congrArg (C.sl _) ?_)) <;> (try (rw [wrap_i64 (by omega) (by omega)]; first | rfl | omega)))) | (refine altl ?_) | fail))
    (repeat ((conv => whnf); first | (refine nx ?_; intro s) | (refine rg ?_; intro s k))); (conv => whnf)
    refine Tri.loop (fun i : Nat => ⟨[(1, .pt 0 0), (2, .pt 1 0), (3, .rw 2), (8, aL .tr t.kids), (9, aI t.kids.length), (10, aI i)], [(0, .box ((cells .tr t).map .c)), (1, .box [.kb false, .nl, .nl, .nl, .nl]), (2, .dp .tr (t.kids.take i))], 3⟩) (fun i => i ≤ t.kids.length) (fun i => t.kids.length - i) 0 (Nat.zero_le _) ?_ ?_
    · (refine WkF.au ?_; (conv => whnf); ((repeat' (first | exact trivial | refine ⟨?_, ?_⟩ | exact rfl | exact Or.inr rfl | exact Or.inl (Nat.le_of_ble_eq_true rfl) | exact Or.inl rfl)) <;> (try (conv => whnf)) <;> (try (first | refine congrArg C.bool ?_ | refine congrArg (C.int .i64) ?_ | refine congrArg C.str ?_ | refine congrArg (fun l => some (Ob.row _ l)) ?_ | refine congrArg (fun l => some (Ob.dp _ l)) ?_ | refine congrArg (C.sl _) ?_)) <;> (try (rw [wrap_i64 (by omega) (by omega)]; first | rfl | omega))))
    · intro i hi
      have hkd : i < t.kids.length → SizeOf.sizeOf (t.kids.getD i (dflt .tr)) < n := fun hl => by
        have h2 := kid_lt (List.mem_of_getElem? (getD_some hl (dflt .tr)))
        omega
      refine vc_sound hT hM _ _ _ ?_
      (repeat' ((conv => whnf); first | (refine nx ?_; intro s) | (refine rg ?_; intro s k) | ((refine cas (fun h => ?_) (fun h => ?_)) <;> (try simp [-List.getD_eq_getElem?_getD] at h)) | ((refine may (fun h => ?_) ?_) <;> (try simp [-List.getD_eq_getElem?_getD] at h)) | (refine giv fun hg => ?_; (try simp only [byE] at hg)) | (refine need (by kernel_rfl) ?_) | (refine need ⟨by omega, by omega⟩ ?_) | (refine need (by omega) ?_) | (refine need (by first | (simp; done) | (simp; omega)) ?_) | (refine call_n (ih (t.kids.getD i (dflt .tr)) (hkd (by omega))) rfl (by (repeat' (first | exact trivial | refine ⟨?_, ?_⟩ | exact rfl | exact Or.inr rfl | exact Or.inl (Nat.le_of_ble_eq_true rfl) | exact Or.inl rfl)); (first | done | fail)) (by (repeat' (first | exact trivial | refine ⟨?_, ?_⟩ | exact rfl | exact Or.inr rfl | exact Or.inl (Nat.le_of_ble_eq_true rfl) | exact Or.inl rfl)); (first | done | fail)) ?_) | (refine call_n (r_clonePr t.pairs) rfl (by (repeat' (first | exact trivial | refine ⟨?_, ?_⟩ | exact rfl | exact Or.inr rfl | exact Or.inl (Nat.le_of_ble_eq_true rfl) | exact Or.inl rfl)); (first | done | fail)) (by (repeat' (first | exact trivial | refine ⟨?_, ?_⟩ | exact rfl | exact Or.inr rfl | exact Or.inl (Nat.le_of_ble_eq_true rfl) | exact Or.inl rfl)); (first | done | fail)) ?_) | (refine call_n (r_cloneIn t.cuts) rfl (by (repeat' (first | exact trivial | refine ⟨?_, ?_⟩ | exact rfl | exact Or.inr rfl | exact Or.inl (Nat.le_of_ble_eq_true rfl) | exact Or.inl rfl)); (first | done | fail)) (by (repeat' (first | exact trivial | refine ⟨?_, ?_⟩ | exact rfl | exact Or.inr rfl | exact Or.inl (Nat.le_of_ble_eq_true rfl) | exact Or.inl rfl)); (first | done | fail)) ?_) | (refine call_n (r_cloneMs t.buf) rfl (by (repeat' (first | exact trivial | refine ⟨?_, ?_⟩ | exact rfl | exact Or.inr rfl | exact Or.inl (Nat.le_of_ble_eq_true rfl) | exact Or.inl rfl)); (first | done | fail)) (by (repeat' (first | exact trivial | refine ⟨?_, ?_⟩ | exact rfl | exact Or.inr rfl | exact Or.inl (Nat.le_of_ble_eq_true rfl) | exact Or.inl rfl)); (first | done | fail)) ?_) | (refine need (by simp [byE, chunk] at *; omega) ?_) | (refine ⟨(i + 1 : Nat), ?_, ?_, ?_⟩) | (refine fin_au rfl ?_; (conv => whnf); ((repeat' (first | exact trivial | refine ⟨?_, ?_⟩ | exact rfl | exact Or.inr rfl | exact Or.inl (Nat.le_of_ble_eq_true rfl) | exact Or.inl rfl)) <;> (try (conv => whnf)) <;> (try (first | refine congrArg C.bool ?_ | refine congrArg (C.int .i64) ?_ | refine congrArg C.str ?_ | refine congrArg (fun l => some (Ob.row _ l)) ?_ | refine congrArg (fun l => some (Ob.dp _ l)) ?_ | refine congrArg (C.sl _) ?_)) <;> (try (rw [wrap_i64 (by omega) (by omega)]; first | rfl | omega)))) | (refine WkF.au ?_; (conv => whnf); ((repeat' (first | exact trivial | refine ⟨?_, ?_⟩ | exact rfl | exact Or.inr rfl | exact Or.inl (Nat.le_of_ble_eq_true rfl) | exact Or.inl rfl)) <;> (try (conv => whnf)) <;> (try (first | refine congrArg C.bool ?_ | refine congrArg (C.int .i64) ?_ | refine congrArg C.str ?_ | refine congrArg (fun l => some (Ob.row _ l)) ?_ | refine congrArg (fun l => some (Ob.dp _ l)) ?_ | refine congrArg (C.sl _) ?_)) <;> (try (rw [wrap_i64 (by omega) (by omega)]; first | rfl | omega)))) | (refine altl ?_) | fail))
      all_goals first
        | omega
        | exact snoc_chunk .tr t.kids (dflt .tr) (by omega)
        | (rw [List.take_of_length_le (by omega)])
theorem r_copyTree (t : Tr) : Ret Tryz.prog 83 [agE .tr t] [] (ownA .tr t) (ownH .tr t) := copyTree' _ t (Nat.lt_succ_self _)
theorem l2Copy' : ∀ (n : Nat) (t : Tr), SizeOf.sizeOf t < n → Ret Tryz.prog 75 [agE .tr t] [] (ownA .tr t) (ownH .tr t) := by
  intro n
  induction n with
  | zero => intro t h; omega
  | succ n ih =>
    intro t hn
    refine ret_bnd 0 ⟨_, Tryz.func75, rfl, rfl⟩ rfl fun hb => ?_
    have hb1 := hb.un.2.un
    have hb2 := hb1.2.un
    have hb3 := hb2.2.un.2.un
    have e1 : t.pairs.length * 16 ≤ 140737488355328 := by cases hb1.1 with | sl _ _ h _ => exact h
    have e2 : t.cuts.length * 8 ≤ 140737488355328 := by cases hb2.1 with | sl _ _ h _ => exact h
    have e3 : t.buf.length * 24 ≤ 140737488355328 := by cases hb3.1 with | sl _ _ h _ => exact h
    refine ret_vc hT hM Tryz.func75 rfl rfl (m := 0) (nx := 0) rfl (Nat.le_of_ble_eq_true rfl) ?_
    (repeat' ((conv => whnf); first | (refine nx ?_; intro s) | (refine rg ?_; intro s k) | ((refine cas (fun h => ?_) (fun h => ?_)) <;> (try simp [-List.getD_eq_getElem?_getD] at h)) | ((refine may (fun h => ?_) ?_) <;> (try simp [-List.getD_eq_getElem?_getD] at h)) | (refine giv fun hg => ?_; (try simp only [byE] at hg)) | (refine need (by kernel_rfl) ?_) | (refine need ⟨by omega, by omega⟩ ?_) | (refine need (by omega) ?_) | (refine need (by first | (simp; done) | (simp; omega)) ?_) | (refine need (by simp [chunk]; omega) ?_) | (refine fin_au rfl ?_; (conv => whnf); ((repeat' (first | exact trivial | refine ⟨?_, ?_⟩ | exact rfl | exact Or.inr rfl | exact Or.inl (Nat.le_of_ble_eq_true rfl) | exact Or.inl rfl)) <;> (try (conv => whnf)) <;> (try (first | refine congrArg C.bool ?_ | refine congrArg (C.int .i64) ?_ | refine congrArg C.str ?_ | refine congrArg (fun l => some (Ob.row _ l)) ?_ | refine congrArg (fun l => some (Ob.dp _ l)) ?_ | refine congrArg (C.sl _) ?_)) <;> (try (rw [wrap_i64 (by omega) (by omega)]; first | rfl | omega)))) | (refine WkF.au ?_; (conv => whnf); ((repeat' (first | exact trivial | refine ⟨?_, ?_⟩ | exact rfl | exact Or.inr rfl | exact Or.inl (Nat.le_of_ble_eq_true rfl) | exact Or.inl rfl)) <;> (try (conv => whnf)) <;> (try (first | refine congrArg C.bool ?_ | refine congrArg (C.int .i64) ?_ | refine congrArg C.str ?_ | refine congrArg (fun l => some (Ob.row _ l)) ?_ | refine congrArg (fun l => some (Ob.dp _ l)) ?_ | refine congrArg (C.sl _) ?_)) <;> (try (rw [wrap_i64 (by omega) (by omega)]; first | rfl | omega)))) | (refine altl ?_) | fail))
    (repeat ((conv => whnf); first | (refine nx ?_; intro s) | (refine rg ?_; intro s k))); (conv => whnf)
    refine Tri.loop (fun i : Nat => ⟨[(1, .pt 0 0), (2, .pt 1 0), (3, .pt 2 0), (4, aI i)], [(0, .box ((cells .tr t).map .c)), (1, .box [.kb false, .nl, .nl, .nl, .nl]), (2, .box [.c (.bool t.leaf), .rw 3, .rw 4, .rw 5, .rw 6]), (3, .row .pr t.pairs), (4, .row .int t.cuts), (5, .dp .tr (t.kids.take i)), (6, .row .ms t.buf)], 7⟩) (fun i => i ≤ t.kids.length) (fun i => t.kids.length - i) 0 (Nat.zero_le _) ?_ ?_
    · (refine WkF.au ?_; (conv => whnf); ((repeat' (first | exact trivial | refine ⟨?_, ?_⟩ | exact rfl | exact Or.inr rfl | exact Or.inl (Nat.le_of_ble_eq_true rfl) | exact Or.inl rfl)) <;> (try (conv => whnf)) <;> (try (first | refine congrArg C.bool ?_ | refine congrArg (C.int .i64) ?_ | refine congrArg C.str ?_ | refine congrArg (fun l => some (Ob.row _ l)) ?_ | refine congrArg (fun l => some (Ob.dp _ l)) ?_ | refine congrArg (C.sl _) ?_)) <;> (try (rw [wrap_i64 (by omega) (by omega)]; first | rfl | omega))))
    · intro i hi
      have hkd : i < t.kids.length → SizeOf.sizeOf (t.kids.getD i (dflt .tr)) < n := fun hl => by
        have h2 := kid_lt (List.mem_of_getElem? (getD_some hl (dflt .tr)))
        omega
      refine vc_sound hT hM _ _ _ ?_
      (repeat' ((conv => whnf); first | (refine nx ?_; intro s) | (refine rg ?_; intro s k) | ((refine cas (fun h => ?_) (fun h => ?_)) <;> (try simp [-List.getD_eq_getElem?_getD] at h)) | ((refine may (fun h => ?_) ?_) <;> (try simp [-List.getD_eq_getElem?_getD] at h)) | (refine giv fun hg => ?_; (try simp only [byE] at hg)) | (refine need (by kernel_rfl) ?_) | (refine need ⟨by omega, by omega⟩ ?_) | (refine need (by omega) ?_) | (refine need (by first | (simp; done) | (simp; omega)) ?_) | (refine call_n (ih (t.kids.getD i (dflt .tr)) (hkd (by omega))) rfl (by (repeat' (first | exact trivial | refine ⟨?_, ?_⟩ | exact rfl | exact Or.inr rfl | exact Or.inl (Nat.le_of_ble_eq_true rfl) | exact Or.inl rfl)); (first | done | fail)) (by (repeat' (first | exact trivial | refine ⟨?_, ?_⟩ | exact rfl | exact Or.inr rfl | exact Or.inl (Nat.le_of_ble_eq_true rfl) | exact Or.inl rfl)); (first | done | fail)) ?_) | (refine need (by simp [byE, chunk] at *; omega) ?_) | (refine ⟨(i + 1 : Nat), ?_, ?_, ?_⟩) | (refine fin_au rfl ?_; (conv => whnf); ((repeat' (first | exact trivial | refine ⟨?_, ?_⟩ | exact rfl | exact Or.inr rfl | exact Or.inl (Nat.le_of_ble_eq_true rfl) | exact Or.inl rfl)) <;> (try (conv => whnf)) <;> (try (first | refine congrArg C.bool ?_ | refine congrArg (C.int .i64) ?_ | refine congrArg C.str ?_ | refine congrArg (fun l => some (Ob.row _ l)) ?_ | refine congrArg (fun l => some (Ob.dp _ l)) ?_ | refine congrArg (C.sl _) ?_)) <;> (try (rw [wrap_i64 (by omega) (by omega)]; first | rfl | omega)))) | (refine WkF.au ?_; (conv => whnf); ((repeat' (first | exact trivial | refine ⟨?_, ?_⟩ | exact rfl | exact Or.inr rfl | exact Or.inl (Nat.le_of_ble_eq_true rfl) | exact Or.inl rfl)) <;> (try (conv => whnf)) <;> (try (first | refine congrArg C.bool ?_ | refine congrArg (C.int .i64) ?_ | refine congrArg C.str ?_ | refine congrArg (fun l => some (Ob.row _ l)) ?_ | refine congrArg (fun l => some (Ob.dp _ l)) ?_ | refine congrArg (C.sl _) ?_)) <;> (try (rw [wrap_i64 (by omega) (by omega)]; first | rfl | omega)))) | (refine altl ?_) | fail))
      all_goals first
        | omega
        | exact snoc_chunk .tr t.kids (dflt .tr) (by omega)
        | (rw [wrap_i64 (by omega) (by simp [byE] at *; omega)]; omega)
        | (rw [List.take_of_length_le (by omega)])
theorem r_l2Copy (t : Tr) : Ret Tryz.prog 75 [agE .tr t] [] (ownA .tr t) (ownH .tr t) := l2Copy' _ t (Nat.lt_succ_self _)
end
end Go.Proofs.YthbpdhppelaihaaGreat
