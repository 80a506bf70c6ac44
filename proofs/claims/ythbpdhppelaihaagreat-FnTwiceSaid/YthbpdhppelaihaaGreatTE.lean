/- Joined: P1 P2 P3 P4 P5 P6 P7 P8. -/
import Derived.Test.YthbpdhppelaihaaGreatN
import Derived.Test.YthbpdhppelaihaaGreatHF
import Derived.Test.YthbpdhppelaihaaGreatH4
/- Walks that are alike from function to function, by program (gen.py). Conditions: none. -/
set_option linter.unusedVariables false
set_option linter.unusedSimpArgs false
namespace Go.Proofs.YthbpdhppelaihaaGreat
open Go.RowKit
attribute [local irreducible] Tri
set_option maxRecDepth 4000
set_option maxHeartbeats 4000000
end Go.Proofs.YthbpdhppelaihaaGreat
/- Trees: sizes, copies, comparisons, by induction over the tree. Conditions: none. -/
namespace Go.Proofs.YthbpdhppelaihaaGreat
open Go.RowKit
attribute [local irreducible] Tri
set_option maxRecDepth 4000
set_option maxHeartbeats 4000000
theorem kid_lt {t x : Tr} (h : x ∈ t.kids) : SizeOf.sizeOf x < SizeOf.sizeOf t := by
 have h1 := List.sizeOf_lt_of_mem h
 have h2 : SizeOf.sizeOf t.kids < SizeOf.sizeOf t := by cases t; simp; omega
 omega
end Go.Proofs.YthbpdhppelaihaaGreat
/- Trees: what laws.szTree leaves. Conditions: none. -/
namespace Go.Proofs.YthbpdhppelaihaaGreat
open Go.RowKit
attribute [local irreducible] Tri
set_option maxRecDepth 4000
set_option maxHeartbeats 4000000
end Go.Proofs.YthbpdhppelaihaaGreat
/- What is right: numbers, messages, maps, on either side. Conditions: none. -/
namespace Go.Proofs.YthbpdhppelaihaaGreat
open Go.RowKit
attribute [local irreducible] Tri
set_option maxRecDepth 4000
set_option maxHeartbeats 4000000
def inB (x lo hi : Int) : Bool := decide (lo ≤ x) && decide (x ≤ hi)
theorem r_l1In (x lo hi : Int) : Ret Tryz.prog 120 [.c (.int .i64 x), .c (.int .i64 lo), .c (.int .i64 hi)] [] (.c (.bool (inB x lo hi))) [] := by
 refine ret_vc hT hM Tryz.func120 rfl rfl (m := 0) (nx := 0) rfl (Nat.le_of_ble_eq_true rfl) ?_
 (repeat ((conv => whnf); first | (apply nx; intro s) | (apply rg; intro s k))); (conv => whnf)
 refine cas (fun h0 => ?_) (fun h0 => ?_)
 · (repeat ((conv => whnf); first | (apply nx; intro s) | (apply rg; intro s k))); (conv => whnf)
   refine ⟨_, rfl, [], [], rfl, trivial, ⟨?_, trivial⟩, trivial, ⟨trivial, trivial⟩, trivial⟩
   show C.bool _ = C.bool _
   simp at h0
   simp [inB, h0]
 · (repeat ((conv => whnf); first | (apply nx; intro s) | (apply rg; intro s k))); (conv => whnf)
   refine ⟨_, rfl, [], [], rfl, trivial, ⟨?_, trivial⟩, trivial, ⟨trivial, trivial⟩, trivial⟩
   show C.bool _ = C.bool _
   have h1 : ¬ lo ≤ x := by simp at h0; omega
   simp [inB, h1]
theorem r_within (x lo hi : Int) : Ret Tryz.prog 201 [.c (.int .i64 x), .c (.int .i64 lo), .c (.int .i64 hi)] [] (.c (.bool (inB x lo hi))) [] := by
 refine ret_vc hT hM Tryz.func201 rfl rfl (m := 0) (nx := 0) rfl (Nat.le_of_ble_eq_true rfl) ?_
 (repeat ((conv => whnf); first | (apply nx; intro s) | (apply rg; intro s k))); (conv => whnf)
 refine cas (fun h0 => ?_) (fun h0 => ?_)
 · (repeat ((conv => whnf); first | (apply nx; intro s) | (apply rg; intro s k))); (conv => whnf)
   refine ⟨_, rfl, [], [], rfl, trivial, ⟨?_, trivial⟩, trivial, ⟨trivial, trivial⟩, trivial⟩
   show C.bool _ = C.bool _
   simp at h0
   simp [inB, h0]
 · (repeat ((conv => whnf); first | (apply nx; intro s) | (apply rg; intro s k))); (conv => whnf)
   refine ⟨_, rfl, [], [], rfl, trivial, ⟨?_, trivial⟩, trivial, ⟨trivial, trivial⟩, trivial⟩
   show C.bool _ = C.bool _
   have h1 : ¬ lo ≤ x := by simp at h0; omega
   simp [inB, h1]
theorem r_l1Value (x : Int) : Ret Tryz.prog 146 [.c (.int .i64 x)] [] (.c (.bool (inB x (-1000000000) 1000000000))) [] := by
 refine ret_vc hT hM Tryz.func146 rfl rfl (m := 0) (nx := 0) rfl (Nat.le_of_ble_eq_true rfl) ?_
 (repeat ((conv => whnf); first | (apply nx; intro s) | (apply rg; intro s k))); (conv => whnf)
 refine call_p (r_l1In x (-1000000000) 1000000000) rfl ⟨trivial, trivial, trivial, trivial⟩ ?_
 (repeat ((conv => whnf); first | (apply nx; intro s) | (apply rg; intro s k))); (conv => whnf)
 exact ⟨_, rfl, [], [], rfl, trivial, ⟨rfl, trivial⟩, trivial, ⟨trivial, trivial⟩, trivial⟩
theorem r_isNum (x : Int) : Ret Tryz.prog 149 [.c (.int .i64 x)] [] (.c (.bool (inB x (-1000000000) 1000000000))) [] := by
 refine ret_vc hT hM Tryz.func149 rfl rfl (m := 0) (nx := 0) rfl (Nat.le_of_ble_eq_true rfl) ?_
 (repeat ((conv => whnf); first | (apply nx; intro s) | (apply rg; intro s k))); (conv => whnf)
 refine call_p (r_within x (-1000000000) 1000000000) rfl ⟨trivial, trivial, trivial, trivial⟩ ?_
 (repeat ((conv => whnf); first | (apply nx; intro s) | (apply rg; intro s k))); (conv => whnf)
 exact ⟨_, rfl, [], [], rfl, trivial, ⟨rfl, trivial⟩, trivial, ⟨trivial, trivial⟩, trivial⟩
theorem r_isKey (x : Int) : Ret Tryz.prog 148 [.c (.int .i64 x)] [] (.c (.bool (inB x 0 999))) [] := by
 refine ret_vc hT hM Tryz.func148 rfl rfl (m := 0) (nx := 0) rfl (Nat.le_of_ble_eq_true rfl) ?_
 (repeat ((conv => whnf); first | (apply nx; intro s) | (apply rg; intro s k))); (conv => whnf)
 refine call_p (r_within x 0 999) rfl ⟨trivial, trivial, trivial, trivial⟩ ?_
 (repeat ((conv => whnf); first | (apply nx; intro s) | (apply rg; intro s k))); (conv => whnf)
 exact ⟨_, rfl, [], [], rfl, trivial, ⟨rfl, trivial⟩, trivial, ⟨trivial, trivial⟩, trivial⟩
def msgOk (m : Ms) : Bool := inB m.op 1 4 && inB m.k 0 999 && inB m.v (-1000000000) 1000000000 && (decide (m.v = 0) || decide (m.op = 1) || decide (m.op = 3))
theorem r_implMsgOk (m : Ms) : Ret Tryz.prog 82 [agE .ms m] [] (.c (.bool (msgOk m))) [] := by
 refine ret_vc hT hM Tryz.func82 rfl rfl (m := 0) (nx := 0) rfl (Nat.le_of_ble_eq_true rfl) ?_
 (repeat ((conv => whnf); first | (apply nx; intro s) | (apply rg; intro s k))); (conv => whnf)
 refine call_p (r_isKey m.k) rfl ⟨trivial, trivial⟩ ?_
 (repeat ((conv => whnf); first | (apply nx; intro s) | (apply rg; intro s k))); (conv => whnf)
 refine cas (fun h0 => ?_) (fun h0 => ?_)
 · refine ⟨_, rfl, [], [], rfl, trivial, ⟨?_, trivial⟩, trivial, ⟨trivial, trivial⟩, trivial⟩
   show C.bool _ = C.bool _
   simp at h0
   simp [msgOk, h0]
 · simp at h0
   (repeat ((conv => whnf); first | (apply nx; intro s) | (apply rg; intro s k))); (conv => whnf)
   refine cas (fun h1 => ?_) (fun h1 => ?_)
   · have h1' : m.op = 1 := by simpa using h1
     (repeat ((conv => whnf); first | (apply nx; intro s) | (apply rg; intro s k))); (conv => whnf)
     refine cas (fun h2 => ?_) (fun h2 => absurd h2 (by simp [h1']))
     (repeat ((conv => whnf); first | (apply nx; intro s) | (apply rg; intro s k))); (conv => whnf)
     refine call_p (r_isNum m.v) rfl ⟨trivial, trivial⟩ ?_
     (repeat ((conv => whnf); first | (apply nx; intro s) | (apply rg; intro s k))); (conv => whnf)
     refine ⟨_, rfl, [], [], rfl, trivial, ⟨?_, trivial⟩, trivial, ⟨trivial, trivial⟩, trivial⟩
     show C.bool _ = C.bool _
     simp [msgOk, h0, h1', show inB 1 1 4 = true from rfl]
   · have h1' : m.op ≠ 1 := by simpa using h1
     (repeat ((conv => whnf); first | (apply nx; intro s) | (apply rg; intro s k))); (conv => whnf)
     refine cas (fun h2 => ?_) (fun h2 => ?_)
     · have h2' : m.op = 3 := by simpa using h2
       (repeat ((conv => whnf); first | (apply nx; intro s) | (apply rg; intro s k))); (conv => whnf)
       refine call_p (r_isNum m.v) rfl ⟨trivial, trivial⟩ ?_
       (repeat ((conv => whnf); first | (apply nx; intro s) | (apply rg; intro s k))); (conv => whnf)
       refine ⟨_, rfl, [], [], rfl, trivial, ⟨?_, trivial⟩, trivial, ⟨trivial, trivial⟩, trivial⟩
       show C.bool _ = C.bool _
       simp [msgOk, h0, h2', show inB 3 1 4 = true from rfl]
     · have h2' : m.op ≠ 3 := by simpa using h2
       (repeat ((conv => whnf); first | (apply nx; intro s) | (apply rg; intro s k))); (conv => whnf)
       refine cas (fun h3 => ?_) (fun h3 => ?_)
       · have h3' : m.op = 2 := by simpa using h3
         (repeat ((conv => whnf); first | (apply nx; intro s) | (apply rg; intro s k))); (conv => whnf)
         refine cas (fun h6 => ?_) (fun h6 => absurd h6 (by simp [h3']))
         (repeat ((conv => whnf); first | (apply nx; intro s) | (apply rg; intro s k))); (conv => whnf)
         refine ⟨_, rfl, [], [], rfl, trivial, ⟨?_, trivial⟩, trivial, ⟨trivial, trivial⟩, trivial⟩
         show C.bool _ = C.bool _
         have h5 : inB m.op 1 4 = true := by simp [inB, h3']
         by_cases hv : m.v = 0
         · simp [msgOk, h0, h5, hv, show inB 0 (-1000000000) 1000000000 = true from rfl]
         · simp [msgOk, h3', hv]
       · have h3' : m.op ≠ 2 := by simpa using h3
         (repeat ((conv => whnf); first | (apply nx; intro s) | (apply rg; intro s k))); (conv => whnf)
         refine cas (fun h4 => ?_) (fun h4 => ?_)
         · have h4' : m.op = 4 := by simpa using h4
           (repeat ((conv => whnf); first | (apply nx; intro s) | (apply rg; intro s k))); (conv => whnf)
           refine ⟨_, rfl, [], [], rfl, trivial, ⟨?_, trivial⟩, trivial, ⟨trivial, trivial⟩, trivial⟩
           show C.bool _ = C.bool _
           have h5 : inB m.op 1 4 = true := by simp [inB, h4']
           by_cases hv : m.v = 0
           · simp [msgOk, h0, h5, hv, show inB 0 (-1000000000) 1000000000 = true from rfl]
           · simp [msgOk, h4', hv]
         · have h4' : m.op ≠ 4 := by simpa using h4
           refine ⟨_, rfl, [], [], rfl, trivial, ⟨?_, trivial⟩, trivial, ⟨trivial, trivial⟩, trivial⟩
           show C.bool _ = C.bool _
           have h5 : inB m.op 1 4 = false := by
            simp [inB]
            omega
           simp [msgOk, h5]
end Go.Proofs.YthbpdhppelaihaaGreat
/- What is right, on: messages and maps. Conditions: none. -/
namespace Go.Proofs.YthbpdhppelaihaaGreat
open Go.RowKit
attribute [local irreducible] Tri Weak
set_option maxRecDepth 4000
set_option maxHeartbeats 4000000
theorem r_specMsgOk (m : Ms) : Ret Tryz.prog 74 [agE .ms m] [] (.c (.bool (msgOk m))) [] := by
 refine ret_vc hT hM Tryz.func74 rfl rfl (m := 0) (nx := 0) rfl (Nat.le_of_ble_eq_true rfl) ?_
 (repeat' ((conv => whnf); first | (apply nx; intro s) | (apply rg; intro s k) | ((first | refine cas (fun h => ?_) (fun h => ?_) | refine may (fun h => ?_) ?_) <;> (try simp [-List.getD_eq_getElem?_getD] at h)) | (refine giv fun hg => ?_; (try simp only [byE] at hg)) | refine need (by first | kernel_rfl | omega | (simp; done) | (simp; omega)) ?_ | (refine call_p (r_l1In m.op 1 4) rfl (by (repeat' first | exact trivial | refine ⟨?_, ?_⟩ | exact rfl | exact oR | exact orB rfl | exact oL); (first | done | fail)) ?_) | (refine call_p (r_l1In m.k 0 999) rfl (by (repeat' first | exact trivial | refine ⟨?_, ?_⟩ | exact rfl | exact oR | exact orB rfl | exact oL); (first | done | fail)) ?_) | (refine call_p (r_l1Value m.v) rfl (by (repeat' first | exact trivial | refine ⟨?_, ?_⟩ | exact rfl | exact oR | exact orB rfl | exact oL); (first | done | fail)) ?_) | ((first | refine fin_au rfl ?_ | apply WkF.au); (conv => whnf); ((repeat' first | exact trivial | refine ⟨?_, ?_⟩ | exact rfl | exact oR | exact orB rfl | exact oL) <;> (try conv => whnf) <;> (try first | apply cgB | apply cgI | apply cgS | apply cgR | apply cgD | refine cgL ?_) <;> (try (rw [wrap_i64 (by omega) (by omega)]; first | rfl | omega)))) | apply altl))
 all_goals simp_all [msgOk]
def mapStep (xs : List Pr) (i : Nat) : Bool := inB (xs.getD i (dflt .pr)).k 0 999 && inB (xs.getD i (dflt .pr)).v (-1000000000) 1000000000 && (decide (i = 0) || decide ((xs.getD (i - 1) (dflt .pr)).k < (xs.getD i (dflt .pr)).k))
def mapOk (xs : List Pr) : Bool := (List.range xs.length).all (mapStep xs)
theorem mapOk_no {xs : List Pr} {i : Nat} (hi : i < xs.length) (h : mapStep xs i = false) : mapOk xs = false := by
 unfold mapOk
 rw [List.all_eq_false]
 exact ⟨i, by simpa using hi, by simp [h]⟩
theorem mapOk_yes {xs : List Pr} (h : ∀ j, j < xs.length → mapStep xs j = true) : mapOk xs = true := by
 unfold mapOk
 rw [List.all_eq_true]
 intro j hj
 exact h j (by simpa using hj)
theorem wrap_pred {i : Nat} (h0 : 0 < i) (h1 : i ≤ 9223372036854775807) : IntKind.i64.wrap ((i : Int) - 1) = ((i - 1 : Nat) : Int) := by
 rw [wrap_i64 (by omega) (by omega)]
 omega
theorem r_specMapOk (xs : List Pr) : Ret Tryz.prog 50 [.c (.sl .pr xs)] [] (.c (.bool (mapOk xs))) [] := by
 refine ret_vc hT hM Tryz.func50 rfl rfl (m := 0) (nx := 0) rfl (Nat.le_of_ble_eq_true rfl) ?_
 (repeat ((conv => whnf); first | (apply nx; intro s) | (apply rg; intro s k))); (conv => whnf)
 refine Tri.loop (fun i : Nat => ⟨[(0, .c (.sl .pr xs)), (3, .c (.int .i64 i))], [], 0⟩) (fun i => i ≤ xs.length ∧ ∀ j, j < i → mapStep xs j = true) (fun i => xs.length - i) 0 ⟨by omega, fun j hj => by omega⟩ ?_ ?_
 · (apply WkF.au; (conv => whnf); ((repeat' first | exact trivial | refine ⟨?_, ?_⟩ | exact rfl | exact oR | exact orB rfl | exact oL) <;> (try conv => whnf) <;> (try first | apply cgB | apply cgI | apply cgS | apply cgR | apply cgD | refine cgL ?_) <;> (try (rw [wrap_i64 (by omega) (by omega)]; first | rfl | omega))))
 · intro i ⟨hi, hpre⟩
   refine vc_sound hT hM _ _ _ ?_
   (repeat' ((conv => whnf); first | (apply nx; intro s) | (apply rg; intro s k) | ((first | refine cas (fun h => ?_) (fun h => ?_) | refine may (fun h => ?_) ?_) <;> (try simp [-List.getD_eq_getElem?_getD] at h)) | (refine giv fun hg => ?_; (try simp only [byE] at hg)) | refine need (by first | kernel_rfl | omega | (simp; done) | (simp; omega)) ?_ | (refine call_p (r_l1In (xs.getD i (dflt .pr)).k 0 999) rfl (by (repeat' first | exact trivial | refine ⟨?_, ?_⟩ | exact rfl | exact oR | exact orB rfl | exact oL); (first | done | fail)) ?_) | (refine call_p (r_l1Value (xs.getD i (dflt .pr)).v) rfl (by (repeat' first | exact trivial | refine ⟨?_, ?_⟩ | exact rfl | exact oR | exact orB rfl | exact oL); (first | done | fail)) ?_) | (refine ⟨i + 1, ?_, by omega, ?_⟩) | (refine need (by rw [wrap_pred (by omega) (by omega)]; omega) ?_) | ((first | refine fin_au rfl ?_ | apply WkF.au); (conv => whnf); ((repeat' first | exact trivial | refine ⟨?_, ?_⟩ | exact rfl | exact oR | exact orB rfl | exact oL) <;> (try conv => whnf) <;> (try first | apply cgB | apply cgI | apply cgS | apply cgR | apply cgD | refine cgL ?_) <;> (try (rw [wrap_i64 (by omega) (by omega)]; first | rfl | omega)))) | apply altl))
   all_goals try (rw [wrap_pred (by omega) (by omega), Int.toNat_natCast] at h)
   all_goals first
    | exact (mapOk_no (i := i) (by omega) (by simp_all [mapStep] <;> omega)).symm
    | exact (mapOk_yes fun j hj => hpre j (by omega)).symm
    | (refine ⟨by omega, fun j hj => ?_⟩
       rcases Nat.lt_succ_iff_lt_or_eq.1 hj with hj | rfl
       · exact hpre j hj
       · simp_all [mapStep])
abbrev aI (n : Int) : A := .c (.int .i64 n)
abbrev aL (e : Ty) (xs : List (El e)) : A := .c (.sl e xs)
theorem r_implMapOk (xs : List Pr) : Ret Tryz.prog 56 [.c (.sl .pr xs)] [] (.c (.bool (mapOk xs))) [] := by
 refine ret_vc hT hM Tryz.func56 rfl rfl (m := 0) (nx := 0) rfl (Nat.le_of_ble_eq_true rfl) ?_
 (repeat' ((conv => whnf); first | (apply nx; intro s) | (apply rg; intro s k) | ((first | refine cas (fun h => ?_) (fun h => ?_) | refine may (fun h => ?_) ?_) <;> (try simp [-List.getD_eq_getElem?_getD] at h)) | (refine giv fun hg => ?_; (try simp only [byE] at hg)) | refine need (by first | kernel_rfl | omega | (simp; done) | (simp; omega)) ?_ | ((first | refine fin_au rfl ?_ | apply WkF.au); (conv => whnf); ((repeat' first | exact trivial | refine ⟨?_, ?_⟩ | exact rfl | exact oR | exact orB rfl | exact oL) <;> (try conv => whnf) <;> (try first | apply cgB | apply cgI | apply cgS | apply cgR | apply cgD | refine cgL ?_) <;> (try (rw [wrap_i64 (by omega) (by omega)]; first | rfl | omega)))) | apply altl))
 (repeat ((conv => whnf); first | (apply nx; intro s) | (apply rg; intro s k))); (conv => whnf)
 refine Tri.loop (fun i : Nat => ⟨[(0, aL .pr xs), (5, aL .pr xs), (6, aI xs.length), (7, aI i)], [], 0⟩) (fun i => i ≤ xs.length ∧ ∀ j, j < i → mapStep xs j = true) (fun i => xs.length - i) 0 ⟨by omega, fun j hj => by omega⟩ ?_ ?_
 · (apply WkF.au; (conv => whnf); ((repeat' first | exact trivial | refine ⟨?_, ?_⟩ | exact rfl | exact oR | exact orB rfl | exact oL) <;> (try conv => whnf) <;> (try first | apply cgB | apply cgI | apply cgS | apply cgR | apply cgD | refine cgL ?_) <;> (try (rw [wrap_i64 (by omega) (by omega)]; first | rfl | omega))))
 · intro i ⟨hi, hpre⟩
   refine vc_sound hT hM _ _ _ ?_
   (repeat' ((conv => whnf); first | (apply nx; intro s) | (apply rg; intro s k) | ((first | refine cas (fun h => ?_) (fun h => ?_) | refine may (fun h => ?_) ?_) <;> (try simp [-List.getD_eq_getElem?_getD] at h)) | (refine giv fun hg => ?_; (try simp only [byE] at hg)) | refine need (by first | kernel_rfl | omega | (simp; done) | (simp; omega)) ?_ | (refine call_p (r_isKey (xs.getD i (dflt .pr)).k) rfl (by (repeat' first | exact trivial | refine ⟨?_, ?_⟩ | exact rfl | exact oR | exact orB rfl | exact oL); (first | done | fail)) ?_) | (refine call_p (r_isNum (xs.getD i (dflt .pr)).v) rfl (by (repeat' first | exact trivial | refine ⟨?_, ?_⟩ | exact rfl | exact oR | exact orB rfl | exact oL); (first | done | fail)) ?_) | (refine ⟨i + 1, ?_, by omega, ?_⟩) | (refine need (by rw [wrap_pred (by omega) (by omega)]; omega) ?_) | ((first | refine fin_au rfl ?_ | apply WkF.au); (conv => whnf); ((repeat' first | exact trivial | refine ⟨?_, ?_⟩ | exact rfl | exact oR | exact orB rfl | exact oL) <;> (try conv => whnf) <;> (try first | apply cgB | apply cgI | apply cgS | apply cgR | apply cgD | refine cgL ?_) <;> (try (rw [wrap_i64 (by omega) (by omega)]; first | rfl | omega)))) | apply altl))
   all_goals try (rw [wrap_pred (by omega) (by omega), Int.toNat_natCast] at h)
   all_goals first
    | exact (mapOk_no (i := i) (by omega) (by simp_all [mapStep] <;> omega)).symm
    | exact (mapOk_yes fun j hj => hpre j (by omega)).symm
    | (refine ⟨by omega, fun j hj => ?_⟩
       rcases Nat.lt_succ_iff_lt_or_eq.1 hj with hj | rfl
       · exact hpre j hj
       · simp_all [mapStep])
end Go.Proofs.YthbpdhppelaihaaGreat
/- Leaves, what a tree's depth is, on either side. Conditions: none. -/
namespace Go.Proofs.YthbpdhppelaihaaGreat
open Go.RowKit
attribute [local irreducible] Tri Weak
set_option maxRecDepth 4000
set_option maxHeartbeats 4000000
def ixF {α : Type} (p : α → Bool) (xs : List α) : Int := match xs.findIdx? p with
 | some i => (i : Int)
 | none => -1
theorem ixF_some {α : Type} {p : α → Bool} {xs : List α} {i : Nat} {d : α} (hi : i < xs.length) (hp : p (xs.getD i d) = true) (hpre : ∀ j, j < i → p (xs.getD j d) = false) : ixF p xs = i := by
 have hg : ∀ j (h : j < xs.length), xs.getD j d = xs[j] := fun j h => by rw [List.getD_eq_getElem?_getD, List.getElem?_eq_getElem h]; rfl
 have : xs.findIdx? p = some i := by
  rw [List.findIdx?_eq_some_iff_getElem]
  refine ⟨hi, by rw [← hg i hi]; exact hp, fun j hj => ?_⟩
  have := hpre j hj
  rw [hg j (by omega)] at this
  simp [this]
 unfold ixF
 rw [this]
theorem ixF_none {α : Type} {p : α → Bool} {xs : List α} {d : α} (hpre : ∀ j, j < xs.length → p (xs.getD j d) = false) : ixF p xs = -1 := by
 have : xs.findIdx? p = none := by
  rw [List.findIdx?_eq_none_iff]
  intro x hx
  obtain ⟨j, hj, rfl⟩ := List.mem_iff_getElem.1 hx
  have := hpre j hj
  rwa [List.getD_eq_getElem?_getD, List.getElem?_eq_getElem hj] at this
 unfold ixF
 rw [this]
theorem ixF_any {α : Type} (p : α → Bool) (xs : List α) : decide (0 ≤ ixF p xs) = xs.any p := by
 unfold ixF
 cases h : xs.findIdx? p with
 | none =>
   rw [List.findIdx?_eq_none_iff] at h
   simp
   intro x hx; simpa using h x hx
 | some i =>
   rw [List.findIdx?_eq_some_iff_getElem] at h
   obtain ⟨h1, h2, _⟩ := h
   simp
   exact ⟨_, List.getElem_mem h1, h2⟩
theorem r_leafOkF (lo hi : Int) (h0 : 0 ≤ hi ∧ hi ≤ 1000) (x : Pr) : Ret Tryz.prog 271 [agE .pr x, .pt 0 0, .pt 1 0] [(0, .box [aI lo]), (1, .box [aI hi])] (.c (.bool (!inB x.k lo (hi - 1)))) [(0, .box [aI lo]), (1, .box [aI hi])] := by
 have hw : IntKind.i64.wrap (hi - 1) = hi - 1 := wrap_i64 (by omega) (by omega)
 refine ret_vc hT hM Tryz.func271 rfl rfl (m := 2) (nx := 2) rfl (Nat.le_of_ble_eq_true rfl) ?_
 (repeat' ((conv => whnf); first | (apply nx; intro s) | (apply rg; intro s k) | ((first | refine cas (fun h => ?_) (fun h => ?_) | refine may (fun h => ?_) ?_) <;> (try simp [-List.getD_eq_getElem?_getD] at h)) | (refine giv fun hg => ?_; (try simp only [byE] at hg)) | refine need (by first | kernel_rfl | omega | (simp; done) | (simp; omega)) ?_ | (refine call_p (r_within x.k lo (IntKind.i64.wrap (hi - 1))) rfl (by (repeat' first | exact trivial | refine ⟨?_, ?_⟩ | exact rfl | exact oR | exact orB rfl | exact oL); (first | done | fail)) ?_) | ((first | refine fin_au rfl ?_ | apply WkF.au); (conv => whnf); ((repeat' first | exact trivial | refine ⟨?_, ?_⟩ | exact rfl | exact oR | exact orB rfl | exact oL) <;> (try conv => whnf) <;> (try first | apply cgB | apply cgI | apply cgS | apply cgR | apply cgD | refine cgL ?_) <;> (try (rw [wrap_i64 (by omega) (by omega)]; first | rfl | omega)))) | apply altl))
 rw [hw]
theorem r_depthOfF (lo hi : Int) (h0 : 0 ≤ hi ∧ hi ≤ 1000) (x : Ms) : Ret Tryz.prog 259 [agE .ms x, .pt 0 0, .pt 1 0] [(0, .box [aI lo]), (1, .box [aI hi])] (.c (.bool (!(msgOk x && decide (x.op ≠ 4) && inB x.k lo (hi - 1))))) [(0, .box [aI lo]), (1, .box [aI hi])] := by
 have hw : IntKind.i64.wrap (hi - 1) = hi - 1 := wrap_i64 (by omega) (by omega)
 refine ret_vc hT hM Tryz.func259 rfl rfl (m := 2) (nx := 2) rfl (Nat.le_of_ble_eq_true rfl) ?_
 (repeat' ((conv => whnf); first | (apply nx; intro s) | (apply rg; intro s k) | ((first | refine cas (fun h => ?_) (fun h => ?_) | refine may (fun h => ?_) ?_) <;> (try simp [-List.getD_eq_getElem?_getD] at h)) | (refine giv fun hg => ?_; (try simp only [byE] at hg)) | refine need (by first | kernel_rfl | omega | (simp; done) | (simp; omega)) ?_ | (refine call_p (r_implMsgOk x) rfl (by (repeat' first | exact trivial | refine ⟨?_, ?_⟩ | exact rfl | exact oR | exact orB rfl | exact oL); (first | done | fail)) ?_) | (refine call_p (r_within x.k lo (IntKind.i64.wrap (hi - 1))) rfl (by (repeat' first | exact trivial | refine ⟨?_, ?_⟩ | exact rfl | exact oR | exact orB rfl | exact oL); (first | done | fail)) ?_) | ((first | refine fin_au rfl ?_ | apply WkF.au); (conv => whnf); ((repeat' first | exact trivial | refine ⟨?_, ?_⟩ | exact rfl | exact oR | exact orB rfl | exact oL) <;> (try conv => whnf) <;> (try first | apply cgB | apply cgI | apply cgS | apply cgR | apply cgD | refine cgL ?_) <;> (try (rw [wrap_i64 (by omega) (by omega)]; first | rfl | omega)))) | apply altl))
 all_goals simp_all
theorem ix_leafOk (p : El .pr → Bool) (lo hi : Int) (hc : ∀ x : El .pr, Ret Tryz.prog 271 [agE .pr x, .pt 0 0, .pt 1 0] [(0, .box [aI lo]), (1, .box [aI hi])] (.c (.bool (p x))) [(0, .box [aI lo]), (1, .box [aI hi])]) (xs : List (El .pr)) : Ret Tryz.prog 274 [aL .pr xs, .fn 271 [.pt 0 0, .pt 1 0]] [(0, .box [aI lo]), (1, .box [aI hi])] (aI (ixF p xs)) [(0, .box [aI lo]), (1, .box [aI hi])] := by
 refine ret_vc hT hM Tryz.func274 rfl rfl (m := 2) (nx := 2) rfl (Nat.le_of_ble_eq_true rfl) ?_
 (repeat' ((conv => whnf); first | (apply nx; intro s) | (apply rg; intro s k) | ((first | refine cas (fun h => ?_) (fun h => ?_) | refine may (fun h => ?_) ?_) <;> (try simp [-List.getD_eq_getElem?_getD] at h)) | (refine giv fun hg => ?_; (try simp only [byE] at hg)) | refine need (by first | kernel_rfl | omega | (simp; done) | (simp; omega)) ?_ | ((first | refine fin_au rfl ?_ | apply WkF.au); (conv => whnf); ((repeat' first | exact trivial | refine ⟨?_, ?_⟩ | exact rfl | exact oR | exact orB rfl | exact oL) <;> (try conv => whnf) <;> (try first | apply cgB | apply cgI | apply cgS | apply cgR | apply cgD | refine cgL ?_) <;> (try (rw [wrap_i64 (by omega) (by omega)]; first | rfl | omega)))) | apply altl))
 (repeat ((conv => whnf); first | (apply nx; intro s) | (apply rg; intro s k))); (conv => whnf)
 refine Tri.loop (fun i : Nat => ⟨[(0, aL .pr xs), (1, .fn 271 [.pt 0 0, .pt 1 0]), (7, aI xs.length), (8, aI i)], [(0, .box [aI lo]), (1, .box [aI hi])], 2⟩) (fun i => i ≤ xs.length ∧ ∀ j, j < i → p (xs.getD j (dflt .pr)) = false) (fun i => xs.length - i) 0 ⟨by omega, fun j hj => by omega⟩ ?_ ?_
 · (apply WkF.au; (conv => whnf); ((repeat' first | exact trivial | refine ⟨?_, ?_⟩ | exact rfl | exact oR | exact orB rfl | exact oL) <;> (try conv => whnf) <;> (try first | apply cgB | apply cgI | apply cgS | apply cgR | apply cgD | refine cgL ?_) <;> (try (rw [wrap_i64 (by omega) (by omega)]; first | rfl | omega))))
 · intro i ⟨hi, hpre⟩
   refine vc_sound hT hM _ _ _ ?_
   (repeat' ((conv => whnf); first | (apply nx; intro s) | (apply rg; intro s k) | ((first | refine cas (fun h => ?_) (fun h => ?_) | refine may (fun h => ?_) ?_) <;> (try simp [-List.getD_eq_getElem?_getD] at h)) | (refine giv fun hg => ?_; (try simp only [byE] at hg)) | refine need (by first | kernel_rfl | omega | (simp; done) | (simp; omega)) ?_ | (refine call_g [0,1] (hc (xs.getD i (dflt .pr))) rfl rfl rfl ?_ ?_ ?_ ?_ ?_; iterate 4 (focus (repeat' first | exact trivial | refine ⟨?_, ?_⟩ | exact rfl | exact oR | exact orB rfl | exact oL); (first | done | fail))) | (refine ⟨i + 1, ?_, by omega, ?_⟩) | ((first | refine fin_au rfl ?_ | apply WkF.au); (conv => whnf); ((repeat' first | exact trivial | refine ⟨?_, ?_⟩ | exact rfl | exact oR | exact orB rfl | exact oL) <;> (try conv => whnf) <;> (try first | apply cgB | apply cgI | apply cgS | apply cgR | apply cgD | refine cgL ?_) <;> (try (rw [wrap_i64 (by omega) (by omega)]; first | rfl | omega)))) | apply altl))
   all_goals first
    | exact (ixF_some (by omega) (by simpa using h) hpre).symm
    | exact (ixF_none fun j hj => hpre j (by omega)).symm
    | exact ⟨by omega, fun j hj => (Nat.lt_succ_iff_lt_or_eq.1 hj).elim (hpre j) fun e => by subst e; simpa using h⟩
theorem cf_leafOk (p : El .pr → Bool) (lo hi : Int) (hc : ∀ x : El .pr, Ret Tryz.prog 271 [agE .pr x, .pt 0 0, .pt 1 0] [(0, .box [aI lo]), (1, .box [aI hi])] (.c (.bool (p x))) [(0, .box [aI lo]), (1, .box [aI hi])]) (xs : List (El .pr)) : Ret Tryz.prog 270 [aL .pr xs, .fn 271 [.pt 0 0, .pt 1 0]] [(0, .box [aI lo]), (1, .box [aI hi])] (.c (.bool (xs.any p))) [(0, .box [aI lo]), (1, .box [aI hi])] := by
 refine ret_vc hT hM Tryz.func270 rfl rfl (m := 2) (nx := 2) rfl (Nat.le_of_ble_eq_true rfl) ?_
 (repeat' ((conv => whnf); first | (apply nx; intro s) | (apply rg; intro s k) | ((first | refine cas (fun h => ?_) (fun h => ?_) | refine may (fun h => ?_) ?_) <;> (try simp [-List.getD_eq_getElem?_getD] at h)) | (refine giv fun hg => ?_; (try simp only [byE] at hg)) | refine need (by first | kernel_rfl | omega | (simp; done) | (simp; omega)) ?_ | (refine call_g [0,1] (ix_leafOk p lo hi hc xs) rfl rfl rfl ?_ ?_ ?_ ?_ ?_; iterate 4 (focus (repeat' first | exact trivial | refine ⟨?_, ?_⟩ | exact rfl | exact oR | exact orB rfl | exact oL); (first | done | fail))) | ((first | refine fin_au rfl ?_ | apply WkF.au); (conv => whnf); ((repeat' first | exact trivial | refine ⟨?_, ?_⟩ | exact rfl | exact oR | exact orB rfl | exact oL) <;> (try conv => whnf) <;> (try first | apply cgB | apply cgI | apply cgS | apply cgR | apply cgD | refine cgL ?_) <;> (try (rw [wrap_i64 (by omega) (by omega)]; first | rfl | omega)))) | apply altl))
 all_goals exact ixF_any p xs
theorem ix_depthOf (p : El .ms → Bool) (lo hi : Int) (hc : ∀ x : El .ms, Ret Tryz.prog 259 [agE .ms x, .pt 0 0, .pt 1 0] [(0, .box [aI lo]), (1, .box [aI hi])] (.c (.bool (p x))) [(0, .box [aI lo]), (1, .box [aI hi])]) (xs : List (El .ms)) : Ret Tryz.prog 224 [aL .ms xs, .fn 259 [.pt 0 0, .pt 1 0]] [(0, .box [aI lo]), (1, .box [aI hi])] (aI (ixF p xs)) [(0, .box [aI lo]), (1, .box [aI hi])] := by
 refine ret_vc hT hM Tryz.func224 rfl rfl (m := 2) (nx := 2) rfl (Nat.le_of_ble_eq_true rfl) ?_
 (repeat' ((conv => whnf); first | (apply nx; intro s) | (apply rg; intro s k) | ((first | refine cas (fun h => ?_) (fun h => ?_) | refine may (fun h => ?_) ?_) <;> (try simp [-List.getD_eq_getElem?_getD] at h)) | (refine giv fun hg => ?_; (try simp only [byE] at hg)) | refine need (by first | kernel_rfl | omega | (simp; done) | (simp; omega)) ?_ | ((first | refine fin_au rfl ?_ | apply WkF.au); (conv => whnf); ((repeat' first | exact trivial | refine ⟨?_, ?_⟩ | exact rfl | exact oR | exact orB rfl | exact oL) <;> (try conv => whnf) <;> (try first | apply cgB | apply cgI | apply cgS | apply cgR | apply cgD | refine cgL ?_) <;> (try (rw [wrap_i64 (by omega) (by omega)]; first | rfl | omega)))) | apply altl))
 (repeat ((conv => whnf); first | (apply nx; intro s) | (apply rg; intro s k))); (conv => whnf)
 refine Tri.loop (fun i : Nat => ⟨[(0, aL .ms xs), (1, .fn 259 [.pt 0 0, .pt 1 0]), (7, aI xs.length), (8, aI i)], [(0, .box [aI lo]), (1, .box [aI hi])], 2⟩) (fun i => i ≤ xs.length ∧ ∀ j, j < i → p (xs.getD j (dflt .ms)) = false) (fun i => xs.length - i) 0 ⟨by omega, fun j hj => by omega⟩ ?_ ?_
 · (apply WkF.au; (conv => whnf); ((repeat' first | exact trivial | refine ⟨?_, ?_⟩ | exact rfl | exact oR | exact orB rfl | exact oL) <;> (try conv => whnf) <;> (try first | apply cgB | apply cgI | apply cgS | apply cgR | apply cgD | refine cgL ?_) <;> (try (rw [wrap_i64 (by omega) (by omega)]; first | rfl | omega))))
 · intro i ⟨hi, hpre⟩
   refine vc_sound hT hM _ _ _ ?_
   (repeat' ((conv => whnf); first | (apply nx; intro s) | (apply rg; intro s k) | ((first | refine cas (fun h => ?_) (fun h => ?_) | refine may (fun h => ?_) ?_) <;> (try simp [-List.getD_eq_getElem?_getD] at h)) | (refine giv fun hg => ?_; (try simp only [byE] at hg)) | refine need (by first | kernel_rfl | omega | (simp; done) | (simp; omega)) ?_ | (refine call_g [0,1] (hc (xs.getD i (dflt .ms))) rfl rfl rfl ?_ ?_ ?_ ?_ ?_; iterate 4 (focus (repeat' first | exact trivial | refine ⟨?_, ?_⟩ | exact rfl | exact oR | exact orB rfl | exact oL); (first | done | fail))) | (refine ⟨i + 1, ?_, by omega, ?_⟩) | ((first | refine fin_au rfl ?_ | apply WkF.au); (conv => whnf); ((repeat' first | exact trivial | refine ⟨?_, ?_⟩ | exact rfl | exact oR | exact orB rfl | exact oL) <;> (try conv => whnf) <;> (try first | apply cgB | apply cgI | apply cgS | apply cgR | apply cgD | refine cgL ?_) <;> (try (rw [wrap_i64 (by omega) (by omega)]; first | rfl | omega)))) | apply altl))
   all_goals first
    | exact (ixF_some (by omega) (by simpa using h) hpre).symm
    | exact (ixF_none fun j hj => hpre j (by omega)).symm
    | exact ⟨by omega, fun j hj => (Nat.lt_succ_iff_lt_or_eq.1 hj).elim (hpre j) fun e => by subst e; simpa using h⟩
theorem cf_depthOf (p : El .ms → Bool) (lo hi : Int) (hc : ∀ x : El .ms, Ret Tryz.prog 259 [agE .ms x, .pt 0 0, .pt 1 0] [(0, .box [aI lo]), (1, .box [aI hi])] (.c (.bool (p x))) [(0, .box [aI lo]), (1, .box [aI hi])]) (xs : List (El .ms)) : Ret Tryz.prog 221 [aL .ms xs, .fn 259 [.pt 0 0, .pt 1 0]] [(0, .box [aI lo]), (1, .box [aI hi])] (.c (.bool (xs.any p))) [(0, .box [aI lo]), (1, .box [aI hi])] := by
 refine ret_vc hT hM Tryz.func221 rfl rfl (m := 2) (nx := 2) rfl (Nat.le_of_ble_eq_true rfl) ?_
 (repeat' ((conv => whnf); first | (apply nx; intro s) | (apply rg; intro s k) | ((first | refine cas (fun h => ?_) (fun h => ?_) | refine may (fun h => ?_) ?_) <;> (try simp [-List.getD_eq_getElem?_getD] at h)) | (refine giv fun hg => ?_; (try simp only [byE] at hg)) | refine need (by first | kernel_rfl | omega | (simp; done) | (simp; omega)) ?_ | (refine call_g [0,1] (ix_depthOf p lo hi hc xs) rfl rfl rfl ?_ ?_ ?_ ?_ ?_; iterate 4 (focus (repeat' first | exact trivial | refine ⟨?_, ?_⟩ | exact rfl | exact oR | exact orB rfl | exact oL); (first | done | fail))) | ((first | refine fin_au rfl ?_ | apply WkF.au); (conv => whnf); ((repeat' first | exact trivial | refine ⟨?_, ?_⟩ | exact rfl | exact oR | exact orB rfl | exact oL) <;> (try conv => whnf) <;> (try first | apply cgB | apply cgI | apply cgS | apply cgR | apply cgD | refine cgL ?_) <;> (try (rw [wrap_i64 (by omega) (by omega)]; first | rfl | omega)))) | apply altl))
 all_goals exact ixF_any p xs
def leafB (t : Tr) (lo hi : Int) : Bool := mapOk t.pairs && decide (t.pairs.length ≤ 4) && decide (t.cuts.length = 0) && decide (t.kids.length = 0) && decide (t.buf.length = 0) && !(t.pairs.any fun x => !inB x.k lo (hi - 1))
theorem r_implLeaf (t : Tr) (lo hi : Int) (h0 : 0 ≤ hi ∧ hi ≤ 1000) : Ret Tryz.prog 258 [agE .tr t, aI lo, aI hi] [] (.c (.bool (leafB t lo hi))) [] := by
 refine ret_vc hT hM Tryz.func258 rfl rfl (m := 0) (nx := 0) rfl (Nat.le_of_ble_eq_true rfl) ?_
 (repeat' ((conv => whnf); first | (apply nx; intro s) | (apply rg; intro s k) | ((first | refine cas (fun h => ?_) (fun h => ?_) | refine may (fun h => ?_) ?_) <;> (try simp [-List.getD_eq_getElem?_getD] at h)) | (refine giv fun hg => ?_; (try simp only [byE] at hg)) | refine need (by first | kernel_rfl | omega | (simp; done) | (simp; omega)) ?_ | (refine call_p (r_implMapOk t.pairs) rfl (by (repeat' first | exact trivial | refine ⟨?_, ?_⟩ | exact rfl | exact oR | exact orB rfl | exact oL); (first | done | fail)) ?_) | (refine call_g [1,2] (cf_leafOk (fun x => !inB x.k lo (hi - 1)) lo hi (r_leafOkF lo hi h0) t.pairs) rfl rfl rfl ?_ ?_ ?_ ?_ ?_; iterate 4 (focus (repeat' first | exact trivial | refine ⟨?_, ?_⟩ | exact rfl | exact oR | exact orB rfl | exact oL); (first | done | fail))) | ((first | refine fin_au rfl ?_ | apply WkF.au); (conv => whnf); ((repeat' first | exact trivial | refine ⟨?_, ?_⟩ | exact rfl | exact oR | exact orB rfl | exact oL) <;> (try conv => whnf) <;> (try first | apply cgB | apply cgI | apply cgS | apply cgR | apply cgD | refine cgL ?_) <;> (try (rw [wrap_i64 (by omega) (by omega)]; first | rfl | omega)))) | apply altl))
 all_goals
  unfold leafB
  first
   | (simp_all; done)
   | (simp_all [List.length_pos_iff]; done)
   | (simp_all <;> omega)
theorem r_specLeaf (t : Tr) (lo hi : Int) (h0 : 0 ≤ hi ∧ hi ≤ 1000) : Ret Tryz.prog 253 [agE .tr t, aI lo, aI hi] [] (aI (if leafB t lo hi then 1 else 0)) [] := by
 have hw : IntKind.i64.wrap (hi - 1) = hi - 1 := wrap_i64 (by omega) (by omega)
 have hlen : t.pairs.length ≤ 4 → (mapOk t.pairs = true) → (t.cuts.length + t.kids.length + t.buf.length = 0) → leafB t lo hi = !(t.pairs.any fun x => !inB x.k lo (hi - 1)) := fun h1 h2 h3 => by
  unfold leafB
  rw [h2, decide_eq_true h1, decide_eq_true (show t.cuts.length = 0 by omega), decide_eq_true (show t.kids.length = 0 by omega), decide_eq_true (show t.buf.length = 0 by omega)]
  simp
 refine ret_vc hT hM Tryz.func253 rfl rfl (m := 0) (nx := 0) rfl (Nat.le_of_ble_eq_true rfl) ?_
 (repeat' ((conv => whnf); first | (apply nx; intro s) | (apply rg; intro s k) | ((first | refine cas (fun h => ?_) (fun h => ?_) | refine may (fun h => ?_) ?_) <;> (try simp [-List.getD_eq_getElem?_getD] at h)) | (refine giv fun hg => ?_; (try simp only [byE] at hg)) | refine need (by first | kernel_rfl | omega | (simp; done) | (simp; omega)) ?_ | (refine call_p (r_specMapOk t.pairs) rfl (by (repeat' first | exact trivial | refine ⟨?_, ?_⟩ | exact rfl | exact oR | exact orB rfl | exact oL); (first | done | fail)) ?_) | ((first | refine fin_au rfl ?_ | apply WkF.au); (conv => whnf); ((repeat' first | exact trivial | refine ⟨?_, ?_⟩ | exact rfl | exact oR | exact orB rfl | exact oL) <;> (try conv => whnf) <;> (try first | apply cgB | apply cgI | apply cgS | apply cgR | apply cgD | refine cgL ?_) <;> (try (rw [wrap_i64 (by omega) (by omega)]; first | rfl | omega)))) | apply altl))
 · have : leafB t lo hi = false := by unfold leafB; simp [h]
   simp [this]
 · have : leafB t lo hi = false := by
    unfold leafB
    rw [decide_eq_false (show ¬ t.pairs.length ≤ 4 by omega)]
    simp
   simp [this]
 · rw [wrap_i64 (n := (t.cuts.length : Int) + t.kids.length) (by omega) (by omega), wrap_i64 (by omega) (by omega)] at h
   have : leafB t lo hi = false := by
    cases hb : leafB t lo hi with
    | false => rfl
    | true =>
      unfold leafB at hb
      simp at hb
      have h1 := hb.1.1.1.2; have h2 := hb.1.1.2; have h3 := hb.1.2
      simp [h1, h2, h3] at h
   simp [this]
 · rw [wrap_i64 (n := (t.cuts.length : Int) + t.kids.length) (by omega) (by omega), wrap_i64 (by omega) (by omega)] at h
   have hl := hlen (by omega) (by assumption) (by omega)
   (repeat ((conv => whnf); first | (apply nx; intro s) | (apply rg; intro s k))); (conv => whnf)
   refine Tri.loop (fun i : Nat => ⟨[(1, aI lo), (2, aI hi), (3, .pt 0 0), (7, aI i)], [(0, .box ((cells .tr t).map .c))], 1⟩) (fun i => i ≤ t.pairs.length ∧ ∀ j, j < i → inB (t.pairs.getD j (dflt .pr)).k lo (hi - 1) = true) (fun i => t.pairs.length - i) 0 ⟨by omega, fun j hj => by omega⟩ ?_ ?_
   · (apply WkF.au; (conv => whnf); ((repeat' first | exact trivial | refine ⟨?_, ?_⟩ | exact rfl | exact oR | exact orB rfl | exact oL) <;> (try conv => whnf) <;> (try first | apply cgB | apply cgI | apply cgS | apply cgR | apply cgD | refine cgL ?_) <;> (try (rw [wrap_i64 (by omega) (by omega)]; first | rfl | omega))))
   · intro i ⟨hi', hpre⟩
     refine vc_sound hT hM _ _ _ ?_
     (repeat' ((conv => whnf); first | (apply nx; intro s) | (apply rg; intro s k) | ((first | refine cas (fun h => ?_) (fun h => ?_) | refine may (fun h => ?_) ?_) <;> (try simp [-List.getD_eq_getElem?_getD] at h)) | (refine giv fun hg => ?_; (try simp only [byE] at hg)) | refine need (by first | kernel_rfl | omega | (simp; done) | (simp; omega)) ?_ | (refine call_p (r_l1In (t.pairs.getD i (dflt .pr)).k lo (IntKind.i64.wrap (hi - 1))) rfl (by (repeat' first | exact trivial | refine ⟨?_, ?_⟩ | exact rfl | exact oR | exact orB rfl | exact oL); (first | done | fail)) ?_) | (refine ⟨i + 1, ?_, by omega, ?_⟩) | ((first | refine fin_au rfl ?_ | apply WkF.au); (conv => whnf); ((repeat' first | exact trivial | refine ⟨?_, ?_⟩ | exact rfl | exact oR | exact orB rfl | exact oL) <;> (try conv => whnf) <;> (try first | apply cgB | apply cgI | apply cgS | apply cgR | apply cgD | refine cgL ?_) <;> (try (rw [wrap_i64 (by omega) (by omega)]; first | rfl | omega)))) | apply altl))
     · have : t.pairs.any (fun x => !inB x.k lo (hi - 1)) = true := by
        rw [List.any_eq_true]
        refine ⟨_, List.mem_of_getElem? (getD_some (by omega) (dflt .pr)), ?_⟩
        rw [hw] at h
        simpa using h
       rw [hl, this]; rfl
     · exact ⟨by omega, fun j hj => (Nat.lt_succ_iff_lt_or_eq.1 hj).elim (hpre j) fun e => by subst e; rw [hw] at h; simpa using h⟩
     · have : t.pairs.any (fun x => !inB x.k lo (hi - 1)) = false := by
        rw [List.any_eq_false]
        intro x hx
        obtain ⟨j, hj, rfl⟩ := List.mem_iff_getElem.1 hx
        have := hpre j (by omega)
        rw [List.getD_eq_getElem?_getD, List.getElem?_eq_getElem hj] at this
        simpa using this
       rw [hl, this]; rfl
end Go.Proofs.YthbpdhppelaihaaGreat
/- How deep a tree is, on either side. Conditions: none. -/
namespace Go.Proofs.YthbpdhppelaihaaGreat
open Go.RowKit
attribute [local irreducible] Tri Weak
set_option maxRecDepth 4000
set_option maxHeartbeats 4000000
def bufM (lo hi : Int) (m : Ms) : Bool := msgOk m && decide (m.op ≠ 4) && inB m.k lo (hi - 1)
def shapeB (t : Tr) : Bool := decide (2 ≤ t.kids.length ∧ t.kids.length ≤ 4) && decide (t.cuts.length + 1 = t.kids.length) && decide (t.buf.length ≤ 6) && decide (t.pairs.length = 0)
def kidsF (f : Tr → Int → Int → Int) (cuts : List Int) (hi : Int) : List Tr → Nat → Int → Int → Int
 | [], _, depth, _ => depth + 1
 | k :: ks, i, depth, frm =>
   if i < cuts.length then
    if inB (cuts.getD i (dflt .int)) (frm + 1) (hi - 1) = false then 0
    else if f k frm (cuts.getD i (dflt .int)) = 0 ∨ (0 < i ∧ f k frm (cuts.getD i (dflt .int)) ≠ depth) then 0 else kidsF f cuts hi ks (i + 1) (f k frm (cuts.getD i (dflt .int))) (cuts.getD i (dflt .int))
   else if f k frm hi = 0 ∨ (0 < i ∧ f k frm hi ≠ depth) then 0 else kidsF f cuts hi ks (i + 1) (f k frm hi) hi
def depF : Nat → Tr → Int → Int → Int
 | 0, _, _, _ => 0
 | n + 1, t, lo, hi => if t.leaf then (if leafB t lo hi then 1 else 0) else if shapeB t && t.buf.all (bufM lo hi) then kidsF (depF n) t.cuts hi t.kids 0 0 lo else 0
theorem kidsF_le {f : Tr → Int → Int → Int} {n : Int} (hf : ∀ t a b, 0 ≤ f t a b ∧ f t a b ≤ n) (cuts : List Int) (hi : Int) : ∀ (ks : List Tr) (i : Nat) (d a : Int), 0 ≤ d ∧ d ≤ n → 0 ≤ kidsF f cuts hi ks i d a ∧ kidsF f cuts hi ks i d a ≤ n + 1
 | [], i, d, a, hd => by simp only [kidsF]; omega
 | k :: ks, i, d, a, hd => by
   have h0 := hf k a (cuts.getD i (dflt .int))
   have h1 := hf k a hi
   simp only [kidsF]
   split
   · split
     · omega
     · split
       · omega
       · exact kidsF_le hf cuts hi ks _ _ _ h0
   · split
     · omega
     · exact kidsF_le hf cuts hi ks _ _ _ h1
theorem depF_le : ∀ (n : Nat) (t : Tr) (lo hi : Int), 0 ≤ depF n t lo hi ∧ depF n t lo hi ≤ n
 | 0, _, _, _ => by simp [depF]
 | n + 1, t, lo, hi => by
   have := kidsF_le (n := n) (fun t a b => depF_le n t a b) t.cuts hi t.kids 0 0 lo (by omega)
   simp only [depF]
   split
   · split <;> omega
   · split
     · omega
     · omega
theorem inB_iff {x lo hi : Int} : inB x lo hi = true ↔ lo ≤ x ∧ x ≤ hi := by simp [inB]
theorem inB_niff {x lo hi : Int} : inB x lo hi = false ↔ ¬ (lo ≤ x ∧ x ≤ hi) := by rw [← inB_iff]; simp
theorem drop_getD {α : Type} {xs : List α} {i : Nat} (h : i < xs.length) (d : α) : xs.drop i = xs.getD i d :: xs.drop (i + 1) := by
 rw [List.drop_eq_getElem_cons h, List.getD_eq_getElem?_getD, List.getElem?_eq_getElem h]; rfl
theorem shapeB_iff {t : Tr} : shapeB t = true ↔ (2 ≤ t.kids.length ∧ t.kids.length ≤ 4) ∧ t.cuts.length + 1 = t.kids.length ∧ t.buf.length ≤ 6 ∧ t.pairs.length = 0 := by
 unfold shapeB
 rw [Bool.and_eq_true, Bool.and_eq_true, Bool.and_eq_true, decide_eq_true_eq, decide_eq_true_eq, decide_eq_true_eq, decide_eq_true_eq]
 constructor <;> intro h <;> omega
theorem depF_bad {n : Nat} {t : Tr} {lo hi : Int} (hl : t.leaf = false) (h : ¬ (shapeB t = true ∧ t.buf.all (bufM lo hi) = true)) : depF (n + 1) t lo hi = 0 := by
 simp only [depF]
 rw [if_neg (by simp [hl]), if_neg (by simpa using h)]
theorem depF_shape {n : Nat} {t : Tr} {lo hi : Int} (hl : t.leaf = false) (h : ¬ ((2 ≤ t.kids.length ∧ t.kids.length ≤ 4) ∧ t.cuts.length + 1 = t.kids.length ∧ t.buf.length ≤ 6 ∧ t.pairs.length = 0)) : depF (n + 1) t lo hi = 0 := depF_bad hl fun h1 => h (shapeB_iff.1 h1.1)
theorem depF_buf {n : Nat} {t : Tr} {lo hi : Int} {i : Nat} (hl : t.leaf = false) (hi' : i < t.buf.length) (h : bufM lo hi (t.buf.getD i (dflt .ms)) = false) : depF (n + 1) t lo hi = 0 := depF_bad hl fun h1 => by
 have := List.all_eq_true.1 h1.2 _ (List.mem_of_getElem? (getD_some hi' (dflt .ms)))
 rw [h] at this
 cases this
theorem depF_good {n : Nat} {t : Tr} {lo hi : Int} (hl : t.leaf = false) (h1 : shapeB t = true) (h2 : ∀ j, j < t.buf.length → bufM lo hi (t.buf.getD j (dflt .ms)) = true) : depF (n + 1) t lo hi = kidsF (depF n) t.cuts hi t.kids 0 0 lo := by
 simp only [depF]
 rw [if_neg (by simp [hl]), if_pos]
 rw [Bool.and_eq_true]
 refine ⟨h1, List.all_eq_true.2 fun x hx => ?_⟩
 obtain ⟨j, hj, rfl⟩ := List.mem_iff_getElem.1 hx
 have := h2 j hj
 rwa [List.getD_eq_getElem?_getD, List.getElem?_eq_getElem hj] at this
theorem kidsF_step {f : Tr → Int → Int → Int} {cuts : List Int} {hi : Int} {kids : List Tr} {i : Nat} {d a : Int} (hk : i < kids.length) : kidsF f cuts hi (kids.drop i) i d a =
 if i < cuts.length then
  if inB (cuts.getD i (dflt .int)) (a + 1) (hi - 1) = false then 0
  else if f (kids.getD i (dflt .tr)) a (cuts.getD i (dflt .int)) = 0 ∨ (0 < i ∧ f (kids.getD i (dflt .tr)) a (cuts.getD i (dflt .int)) ≠ d) then 0 else kidsF f cuts hi (kids.drop (i + 1)) (i + 1) (f (kids.getD i (dflt .tr)) a (cuts.getD i (dflt .int))) (cuts.getD i (dflt .int))
 else if f (kids.getD i (dflt .tr)) a hi = 0 ∨ (0 < i ∧ f (kids.getD i (dflt .tr)) a hi ≠ d) then 0 else kidsF f cuts hi (kids.drop (i + 1)) (i + 1) (f (kids.getD i (dflt .tr)) a hi) hi := by
 rw [drop_getD hk (dflt .tr)]
 rfl
theorem r_specDepth : ∀ (n : Nat), n ≤ 7 → ∀ (t : Tr) (lo hi : Int), 0 ≤ lo ∧ lo ≤ 1000 → 0 ≤ hi ∧ hi ≤ 1000 → Ret Tryz.prog 211 [agE .tr t, aI lo, aI hi, aI n] [] (aI (depF n t lo hi)) [] := by
 intro n
 induction n with
 | zero =>
   intro _ t lo hi hlo hhi
   refine ret_vc hT hM Tryz.func211 rfl rfl (m := 0) (nx := 0) rfl (Nat.le_of_ble_eq_true rfl) ?_
   (repeat' ((conv => whnf); first | (apply nx; intro s) | (apply rg; intro s k) | ((first | refine cas (fun h => ?_) (fun h => ?_) | refine may (fun h => ?_) ?_) <;> (try simp [-List.getD_eq_getElem?_getD] at h)) | (refine giv fun hg => ?_; (try simp only [byE] at hg)) | refine need (by first | kernel_rfl | omega | (simp; done) | (simp; omega)) ?_ | ((first | refine fin_au rfl ?_ | apply WkF.au); (conv => whnf); ((repeat' first | exact trivial | refine ⟨?_, ?_⟩ | exact rfl | exact oR | exact orB rfl | exact oL) <;> (try conv => whnf) <;> (try first | apply cgB | apply cgI | apply cgS | apply cgR | apply cgD | refine cgL ?_) <;> (try (rw [wrap_i64 (by omega) (by omega)]; first | rfl | omega)))) | apply altl))
 | succ n ih =>
   intro hn t lo hi hlo hhi
   have hw : IntKind.i64.wrap (((n + 1 : Nat) : Int) - 1) = n := by rw [wrap_i64 (by omega) (by omega)]; omega
   have hwh : IntKind.i64.wrap (hi - 1) = hi - 1 := wrap_i64 (by omega) (by omega)
   have hcall : ∀ k a b, 0 ≤ a ∧ a ≤ 1000 → 0 ≤ b ∧ b ≤ 1000 → Ret Tryz.prog 211 [agE .tr k, aI a, aI b, aI (IntKind.i64.wrap (((n + 1 : Nat) : Int) - 1))] [] (aI (depF n k a b)) [] := fun k a b h1 h2 => by rw [hw]; exact ih (by omega) k a b h1 h2
   have hlt := depF_le n
   refine ret_vc hT hM Tryz.func211 rfl rfl (m := 0) (nx := 0) rfl (Nat.le_of_ble_eq_true rfl) ?_
   (repeat' ((conv => whnf); first | (apply nx; intro s) | (apply rg; intro s k) | ((first | refine cas (fun h => ?_) (fun h => ?_) | refine may (fun h => ?_) ?_) <;> (try simp [-List.getD_eq_getElem?_getD, inB_iff, inB_niff] at h)) | (refine giv fun hg => ?_; (try simp only [byE] at hg)) | refine need (by first | kernel_rfl | omega | (simp; done) | (simp; omega)) ?_ | (refine call_p (r_specLeaf t lo hi hhi) rfl (by (repeat' first | exact trivial | refine ⟨?_, ?_⟩ | exact rfl | exact oR | exact orB rfl | exact oL); (first | done | fail)) ?_) | (refine call_p (r_l1In t.kids.length 2 4) rfl (by (repeat' first | exact trivial | refine ⟨?_, ?_⟩ | exact rfl | exact oR | exact orB rfl | exact oL); (first | done | fail)) ?_) | ((first | refine fin_au rfl ?_ | apply WkF.au); (conv => whnf); ((repeat' first | exact trivial | refine ⟨?_, ?_⟩ | exact rfl | exact oR | exact orB rfl | exact oL) <;> (try conv => whnf) <;> (try first | apply cgB | apply cgI | apply cgS | apply cgR | apply cgD | refine cgL ?_) <;> (try (rw [wrap_i64 (by omega) (by omega)]; first | rfl | omega)))) | apply altl))
   · omega
   · simp [depF, h]
   · exact (depF_shape (by assumption) (by omega)).symm
   · exact (depF_shape (by assumption) (by omega)).symm
   · have hwk := wrap_i64 (n := (t.kids.length : Int) - 1) (by omega) (by omega)
     exact (depF_shape (by assumption) (by omega)).symm
   · exact (depF_shape (by assumption) (by omega)).symm
   · have hwk := wrap_i64 (n := (t.kids.length : Int) - 1) (by omega) (by omega)
     have hck : t.cuts.length + 1 = t.kids.length := by omega
     have hk4 : 2 ≤ t.kids.length ∧ t.kids.length ≤ 4 := by omega
     have hp0 : t.pairs.length = 0 := by simp_all
     have hleaf : t.leaf = false := by assumption
     have hshape : shapeB t = true := shapeB_iff.2 ⟨hk4, hck, by omega, hp0⟩
     (repeat ((conv => whnf); first | (apply nx; intro s) | (apply rg; intro s k))); (conv => whnf)
     refine Tri.loop (fun i : Nat => ⟨[(1, aI lo), (2, aI hi), (3, aI (n + 1 : Nat)), (4, .pt 0 0), (9, aI t.kids.length), (10, aI i)], [(0, .box ((cells .tr t).map .c))], 1⟩) (fun i => i ≤ t.buf.length ∧ ∀ j, j < i → bufM lo hi (t.buf.getD j (dflt .ms)) = true) (fun i => t.buf.length - i) 0 ⟨by omega, fun j hj => by omega⟩ ?_ ?_
     · (apply WkF.au; (conv => whnf); ((repeat' first | exact trivial | refine ⟨?_, ?_⟩ | exact rfl | exact oR | exact orB rfl | exact oL) <;> (try conv => whnf) <;> (try first | apply cgB | apply cgI | apply cgS | apply cgR | apply cgD | refine cgL ?_) <;> (try (rw [wrap_i64 (by omega) (by omega)]; first | rfl | omega))))
     · intro i ⟨hi', hpre⟩
       refine vc_sound hT hM _ _ _ ?_
       (repeat' ((conv => whnf); first | (apply nx; intro s) | (apply rg; intro s k) | ((first | refine cas (fun h => ?_) (fun h => ?_) | refine may (fun h => ?_) ?_) <;> (try simp [-List.getD_eq_getElem?_getD, inB_iff, inB_niff] at h)) | (refine giv fun hg => ?_; (try simp only [byE] at hg)) | refine need (by first | kernel_rfl | omega | (simp; done) | (simp; omega)) ?_ | (refine call_p (r_specMsgOk (t.buf.getD i (dflt .ms))) rfl (by (repeat' first | exact trivial | refine ⟨?_, ?_⟩ | exact rfl | exact oR | exact orB rfl | exact oL); (first | done | fail)) ?_) | (refine call_p (r_l1In (t.buf.getD i (dflt .ms)).k lo (IntKind.i64.wrap (hi - 1))) rfl (by (repeat' first | exact trivial | refine ⟨?_, ?_⟩ | exact rfl | exact oR | exact orB rfl | exact oL); (first | done | fail)) ?_) | (refine ⟨i + 1, ?_, by omega, ?_⟩) | ((first | refine fin_au rfl ?_ | apply WkF.au); (conv => whnf); ((repeat' first | exact trivial | refine ⟨?_, ?_⟩ | exact rfl | exact oR | exact orB rfl | exact oL) <;> (try conv => whnf) <;> (try first | apply cgB | apply cgI | apply cgS | apply cgR | apply cgD | refine cgL ?_) <;> (try (rw [wrap_i64 (by omega) (by omega)]; first | rfl | omega)))) | apply altl))
       · exact (depF_buf (i := i) hleaf (by omega) (by simp_all [bufM])).symm
       · exact (depF_buf (i := i) hleaf (by omega) (by simp_all [bufM])).symm
       · exact (depF_buf (i := i) hleaf (by omega) (by simp_all [bufM, inB_niff])).symm
       · exact ⟨by omega, fun j hj => (Nat.lt_succ_iff_lt_or_eq.1 hj).elim (hpre j) fun e => by subst e; simp_all [bufM, inB_iff]⟩
       · have hgood := depF_good (n := n) (lo := lo) (hi := hi) hleaf hshape fun j hj => hpre j (by omega)
         (repeat ((conv => whnf); first | (apply nx; intro s) | (apply rg; intro s k))); (conv => whnf)
         refine Tri.loop (fun p : Nat × Int × Int => ⟨[(1, aI lo), (2, aI hi), (3, aI (n + 1 : Nat)), (4, .pt 0 0), (9, aI t.kids.length), (11, aI p.2.1), (12, aI p.2.2), (13, aI p.1)], [(0, .box ((cells .tr t).map .c))], 1⟩) (fun p => p.1 ≤ t.kids.length ∧ (0 ≤ p.2.1 ∧ p.2.1 ≤ 7) ∧ (0 ≤ p.2.2 ∧ p.2.2 ≤ 1000) ∧ depF (n + 1) t lo hi = kidsF (depF n) t.cuts hi (t.kids.drop p.1) p.1 p.2.1 p.2.2) (fun p => t.kids.length - p.1) (0, 0, lo) ⟨by simp, by simp, hlo, by simpa using hgood⟩ ?_ ?_
         · (apply WkF.au; (conv => whnf); ((repeat' first | exact trivial | refine ⟨?_, ?_⟩ | exact rfl | exact oR | exact orB rfl | exact oL) <;> (try conv => whnf) <;> (try first | apply cgB | apply cgI | apply cgS | apply cgR | apply cgD | refine cgL ?_) <;> (try (rw [wrap_i64 (by omega) (by omega)]; first | rfl | omega))))
         · intro ⟨j, d, a⟩ ⟨hj, hd, ha, hinv⟩
           simp only at hj hd ha hinv
           have hwa : IntKind.i64.wrap (a + 1) = a + 1 := wrap_i64 (by omega) (by omega)
           refine vc_sound hT hM _ _ _ ?_
           (repeat' ((conv => whnf); first | (apply nx; intro s) | (apply rg; intro s k) | ((first | refine cas (fun h => ?_) (fun h => ?_) | refine may (fun h => ?_) ?_) <;> (try simp [-List.getD_eq_getElem?_getD, hwk, hwa, hwh, inB_iff, inB_niff] at h)) | (refine giv fun hg => ?_; (try simp only [byE] at hg)) | refine need (by first | kernel_rfl | omega | (simp; done) | (simp; omega)) ?_ | (refine call_p (r_l1In (t.cuts.getD j (dflt .int)) (IntKind.i64.wrap (a + 1)) (IntKind.i64.wrap (hi - 1))) rfl (by (repeat' first | exact trivial | refine ⟨?_, ?_⟩ | exact rfl | exact oR | exact orB rfl | exact oL); (first | done | fail)) ?_) | (refine call_p (hcall (t.kids.getD j (dflt .tr)) a (t.cuts.getD j (dflt .int)) ha (by omega)) rfl (by (repeat' first | exact trivial | refine ⟨?_, ?_⟩ | exact rfl | exact oR | exact orB rfl | exact oL); (first | done | fail)) ?_) | (refine call_p (hcall (t.kids.getD j (dflt .tr)) a hi ha hhi) rfl (by (repeat' first | exact trivial | refine ⟨?_, ?_⟩ | exact rfl | exact oR | exact orB rfl | exact oL); (first | done | fail)) ?_) | (refine ⟨(j + 1, depF n (t.kids.getD j (dflt .tr)) a (t.cuts.getD j (dflt .int)), t.cuts.getD j (dflt .int)), ?_, (by have hgd : j < t.cuts.length := (by omega); show t.kids.length - (j + 1) < t.kids.length - j; omega), ?_⟩) | (refine ⟨(j + 1, depF n (t.kids.getD j (dflt .tr)) a hi, hi), ?_, (by show t.kids.length - (j + 1) < t.kids.length - j; omega), ?_⟩) | ((first | refine fin_au rfl ?_ | apply WkF.au); (conv => whnf); ((repeat' first | exact trivial | refine ⟨?_, ?_⟩ | exact rfl | exact oR | exact orB rfl | exact oL) <;> (try conv => whnf) <;> (try first | apply cgB | apply cgI | apply cgS | apply cgR | apply cgD | refine cgL ?_) <;> (try (rw [wrap_i64 (by omega) (by omega)]; first | rfl | omega)))) | apply altl))
           all_goals
            try dsimp only
            first
            | (exfalso; omega)
            | (rw [List.drop_eq_nil_of_le (by omega)] at hinv; simp only [kidsF] at hinv; rw [hinv, wrap_i64 (by omega) (by omega)]; done)
            | (have hb1 := hlt (t.kids.getD j (dflt .tr)) a (t.cuts.getD j (dflt .int))
               have hb2 := hlt (t.kids.getD j (dflt .tr)) a hi
               rw [kidsF_step (by omega)] at hinv
               first
               | (rw [hinv]
                  (repeat' split) <;> first | rfl | omega | (exfalso; simp only [inB_niff] at *; omega))
               | (refine ⟨by omega, by omega, by omega, ?_⟩
                  rw [hinv]
                  (repeat' split) <;> first | rfl | (exfalso; simp only [inB_niff] at *; omega)))
end Go.Proofs.YthbpdhppelaihaaGreat
/- How deep a tree is: the program's side. Conditions: none. -/
namespace Go.Proofs.YthbpdhppelaihaaGreat
open Go.RowKit
attribute [local irreducible] Tri Weak
set_option maxRecDepth 4000
set_option maxHeartbeats 4000000
theorem any_all {lo hi : Int} {l : List Ms} : (l.any fun x => !msgOk x || decide (x.op = 4) || !inB x.k lo (hi - 1)) = !l.all (bufM lo hi) := by
 induction l with
 | nil => rfl
 | cons x l ih =>
   rw [List.any_cons, List.all_cons, ih]
   unfold bufM
   cases msgOk x <;> cases inB x.k lo (hi - 1) <;> by_cases hx : x.op = 4 <;> simp [hx]
theorem r_implDepth : ∀ (n : Nat), n ≤ 7 → ∀ (t : Tr) (lo hi : Int), 0 ≤ lo ∧ lo ≤ 1000 → 0 ≤ hi ∧ hi ≤ 1000 → Ret Tryz.prog 217 [agE .tr t, aI lo, aI hi, aI n] [] (aI (depF n t lo hi)) [] := by
 intro n
 induction n with
 | zero =>
   intro _ t lo hi hlo hhi
   refine ret_vc hT hM Tryz.func217 rfl rfl (m := 0) (nx := 0) rfl (Nat.le_of_ble_eq_true rfl) ?_
   (repeat' ((conv => whnf); first | (apply nx; intro s) | (apply rg; intro s k) | ((first | refine cas (fun h => ?_) (fun h => ?_) | refine may (fun h => ?_) ?_) <;> (try simp [-List.getD_eq_getElem?_getD] at h)) | (refine giv fun hg => ?_; (try simp only [byE] at hg)) | refine need (by first | kernel_rfl | omega | (simp; done) | (simp; omega)) ?_ | ((first | refine fin_au rfl ?_ | apply WkF.au); (conv => whnf); ((repeat' first | exact trivial | refine ⟨?_, ?_⟩ | exact rfl | exact oR | exact orB rfl | exact oL) <;> (try conv => whnf) <;> (try first | apply cgB | apply cgI | apply cgS | apply cgR | apply cgD | refine cgL ?_) <;> (try (rw [wrap_i64 (by omega) (by omega)]; first | rfl | omega)))) | apply altl))
 | succ n ih =>
   intro hn t lo hi hlo hhi
   have hw : IntKind.i64.wrap (((n + 1 : Nat) : Int) - 1) = n := by rw [wrap_i64 (by omega) (by omega)]; omega
   have hwh : IntKind.i64.wrap (hi - 1) = hi - 1 := wrap_i64 (by omega) (by omega)
   have hcall : ∀ k a b, 0 ≤ a ∧ a ≤ 1000 → 0 ≤ b ∧ b ≤ 1000 → Ret Tryz.prog 217 [agE .tr k, aI a, aI b, aI (IntKind.i64.wrap (((n + 1 : Nat) : Int) - 1))] [] (aI (depF n k a b)) [] := fun k a b h1 h2 => by rw [hw]; exact ih (by omega) k a b h1 h2
   have hlt := depF_le n
   refine ret_vc hT hM Tryz.func217 rfl rfl (m := 0) (nx := 0) rfl (Nat.le_of_ble_eq_true rfl) ?_
   (repeat' ((conv => whnf); first | (apply nx; intro s) | (apply rg; intro s k) | ((first | refine cas (fun h => ?_) (fun h => ?_) | refine may (fun h => ?_) ?_) <;> (try simp [-List.getD_eq_getElem?_getD, inB_iff, inB_niff, -List.any_eq_true, -List.any_eq_false] at h)) | (refine giv fun hg => ?_; (try simp only [byE] at hg)) | refine need (by first | kernel_rfl | omega | (simp; done) | (simp; omega)) ?_ | (refine call_p (r_implLeaf t lo hi hhi) rfl (by (repeat' first | exact trivial | refine ⟨?_, ?_⟩ | exact rfl | exact oR | exact orB rfl | exact oL); (first | done | fail)) ?_) | (refine call_p (r_within t.kids.length 2 4) rfl (by (repeat' first | exact trivial | refine ⟨?_, ?_⟩ | exact rfl | exact oR | exact orB rfl | exact oL); (first | done | fail)) ?_) | (refine call_g [1,2] (cf_depthOf (fun x => !(msgOk x && decide (x.op ≠ 4) && inB x.k lo (hi - 1))) lo hi (r_depthOfF lo hi hhi) t.buf) rfl rfl rfl ?_ ?_ ?_ ?_ ?_; iterate 4 (focus (repeat' first | exact trivial | refine ⟨?_, ?_⟩ | exact rfl | exact oR | exact orB rfl | exact oL); (first | done | fail))) | ((first | refine fin_au rfl ?_ | apply WkF.au); (conv => whnf); ((repeat' first | exact trivial | refine ⟨?_, ?_⟩ | exact rfl | exact oR | exact orB rfl | exact oL) <;> (try conv => whnf) <;> (try first | apply cgB | apply cgI | apply cgS | apply cgR | apply cgD | refine cgL ?_) <;> (try (rw [wrap_i64 (by omega) (by omega)]; first | rfl | omega)))) | apply altl))
   · omega
   · simp_all [depF]
   · simp_all [depF]
   · exact (depF_shape (by assumption) (by omega)).symm
   · have hwk := wrap_i64 (n := (t.kids.length : Int) - 1) (by omega) (by omega)
     exact (depF_shape (by assumption) (by omega)).symm
   · exact (depF_shape (by assumption) (by omega)).symm
   · exact (depF_shape (by assumption) (by omega)).symm
   · rw [any_all] at h
     exact (depF_bad (by assumption) fun h1 => by simp [h1.2] at h).symm
   · rw [any_all] at h
     have hwk := wrap_i64 (n := (t.kids.length : Int) - 1) (by omega) (by omega)
     have hck : t.cuts.length + 1 = t.kids.length := by omega
     have hk4 : 2 ≤ t.kids.length ∧ t.kids.length ≤ 4 := by omega
     have hp0 : t.pairs.length = 0 := by simp_all
     have hleaf : t.leaf = false := by assumption
     have hshape : shapeB t = true := shapeB_iff.2 ⟨hk4, hck, by omega, hp0⟩
     have hall : t.buf.all (bufM lo hi) = true := by simpa using h
     have hgood : depF (n + 1) t lo hi = kidsF (depF n) t.cuts hi t.kids 0 0 lo := depF_good hleaf hshape fun j hj => List.all_eq_true.1 hall _ (List.mem_of_getElem? (getD_some hj (dflt .ms)))
     clear h
     (repeat ((conv => whnf); first | (apply nx; intro s) | (apply rg; intro s k))); (conv => whnf)
     refine Tri.loop (fun p : Nat × Int × Int => ⟨[(3, aI (n + 1 : Nat)), (4, .pt 0 0), (5, .pt 1 0), (6, .pt 2 0), (9, aI p.2.1), (10, aI p.2.2), (57, aL .tr t.kids), (58, aI t.kids.length), (59, aI p.1)], [(0, .box ((cells .tr t).map .c)), (1, .box [aI lo]), (2, .box [aI hi])], 3⟩) (fun p => p.1 ≤ t.kids.length ∧ (0 ≤ p.2.1 ∧ p.2.1 ≤ 7) ∧ (0 ≤ p.2.2 ∧ p.2.2 ≤ 1000) ∧ depF (n + 1) t lo hi = kidsF (depF n) t.cuts hi (t.kids.drop p.1) p.1 p.2.1 p.2.2) (fun p => t.kids.length - p.1) (0, 0, lo) ⟨by simp, by simp, hlo, by simpa using hgood⟩ ?_ ?_
     · (apply WkF.au; (conv => whnf); ((repeat' first | exact trivial | refine ⟨?_, ?_⟩ | exact rfl | exact oR | exact orB rfl | exact oL) <;> (try conv => whnf) <;> (try first | apply cgB | apply cgI | apply cgS | apply cgR | apply cgD | refine cgL ?_) <;> (try (rw [wrap_i64 (by omega) (by omega)]; first | rfl | omega))))
     · intro ⟨j, d, a⟩ ⟨hj, hd, ha, hinv⟩
       simp only at hj hd ha hinv
       refine vc_sound hT hM _ _ _ ?_
       (repeat' ((conv => whnf); first | (apply nx; intro s) | (apply rg; intro s k) | ((first | refine cas (fun h => ?_) (fun h => ?_) | refine may (fun h => ?_) ?_) <;> (try simp [-List.getD_eq_getElem?_getD, hwk, hwh, inB_iff, inB_niff] at h)) | (refine giv fun hg => ?_; (try simp only [byE] at hg)) | refine need (by first | kernel_rfl | omega | (simp; done) | (simp; omega)) ?_ | (refine call_p (r_within (t.cuts.getD j (dflt .int)) 1 999) rfl (by (repeat' first | exact trivial | refine ⟨?_, ?_⟩ | exact rfl | exact oR | exact orB rfl | exact oL); (first | done | fail)) ?_) | (refine call_p (hcall (t.kids.getD j (dflt .tr)) a (t.cuts.getD j (dflt .int)) ha (by omega)) rfl (by (repeat' first | exact trivial | refine ⟨?_, ?_⟩ | exact rfl | exact oR | exact orB rfl | exact oL); (first | done | fail)) ?_) | (refine call_p (hcall (t.kids.getD j (dflt .tr)) a hi ha hhi) rfl (by (repeat' first | exact trivial | refine ⟨?_, ?_⟩ | exact rfl | exact oR | exact orB rfl | exact oL); (first | done | fail)) ?_) | (refine ⟨(j + 1, depF n (t.kids.getD j (dflt .tr)) a (t.cuts.getD j (dflt .int)), t.cuts.getD j (dflt .int)), ?_, (by have hgd : j < t.cuts.length := (by omega); show t.kids.length - (j + 1) < t.kids.length - j; omega), ?_⟩) | (refine ⟨(j + 1, depF n (t.kids.getD j (dflt .tr)) a hi, hi), ?_, (by show t.kids.length - (j + 1) < t.kids.length - j; omega), ?_⟩) | ((first | refine fin_au rfl ?_ | apply WkF.au); (conv => whnf); ((repeat' first | exact trivial | refine ⟨?_, ?_⟩ | exact rfl | exact oR | exact orB rfl | exact oL) <;> (try conv => whnf) <;> (try first | apply cgB | apply cgI | apply cgS | apply cgR | apply cgD | refine cgL ?_) <;> (try (rw [wrap_i64 (by omega) (by omega)]; first | rfl | omega)))) | apply altl))
       all_goals
        try dsimp only
        first
        | (exfalso; omega)
        | (rw [List.drop_eq_nil_of_le (by omega)] at hinv; simp only [kidsF] at hinv; rw [hinv, wrap_i64 (by omega) (by omega)]; done)
        | (have hb1 := hlt (t.kids.getD j (dflt .tr)) a (t.cuts.getD j (dflt .int))
           have hb2 := hlt (t.kids.getD j (dflt .tr)) a hi
           rw [kidsF_step (by omega)] at hinv
           first
           | (rw [hinv]
              (repeat' split) <;> first | rfl | omega | (exfalso; simp only [inB_niff] at *; omega))
           | (refine ⟨by omega, by omega, by omega, ?_⟩
              rw [hinv]
              (repeat' split) <;> first | rfl | (exfalso; simp only [inB_niff] at *; omega)))
end Go.Proofs.YthbpdhppelaihaaGreat