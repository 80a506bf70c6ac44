/- What is right: numbers, messages, maps, on either side. Conditions: none. -/
import Derived.Test.YthbpdhppelaihaaGreatN
import Derived.Test.YthbpdhppelaihaaGreatH4
set_option linter.unusedVariables false
set_option linter.unusedSimpArgs false
namespace Go.Proofs.YthbpdhppelaihaaGreat
open Go.RowKit
attribute [local irreducible] Tri
set_option maxRecDepth 4000
set_option maxHeartbeats 4000000
def inB (x lo hi : Int) : Bool := decide (lo ≤ x) && decide (x ≤ hi)
theorem r_l1In (x lo hi : Int) : Ret Tryz.prog 120 [.c (.int .i64 x), .c (.int .i64 lo), .c (.int .i64 hi)] [] (.c (.bool (inB x lo hi))) [] := by
  refine ret_vc hT hM Tryz.func120 rfl rfl (m := 0) (nx := 0) rfl (Nat.le_of_ble_eq_true rfl) ?_
  (repeat ((conv => whnf); first | (refine nx ?_; intro s) | (refine rg ?_; intro s k))); (conv => whnf)
  refine cas (fun h0 => ?_) (fun h0 => ?_)
  · (repeat ((conv => whnf); first | (refine nx ?_; intro s) | (refine rg ?_; intro s k))); (conv => whnf)
    refine ⟨_, rfl, [], [], rfl, trivial, ⟨?_, trivial⟩, trivial, ⟨trivial, trivial⟩, trivial⟩
    show C.bool _ = C.bool _
    simp at h0
    simp [inB, h0]
  · (repeat ((conv => whnf); first | (refine nx ?_; intro s) | (refine rg ?_; intro s k))); (conv => whnf)
    refine ⟨_, rfl, [], [], rfl, trivial, ⟨?_, trivial⟩, trivial, ⟨trivial, trivial⟩, trivial⟩
    show C.bool _ = C.bool _
    have h1 : ¬ lo ≤ x := by simp at h0; omega
    simp [inB, h1]
theorem r_within (x lo hi : Int) : Ret Tryz.prog 201 [.c (.int .i64 x), .c (.int .i64 lo), .c (.int .i64 hi)] [] (.c (.bool (inB x lo hi))) [] := by
  refine ret_vc hT hM Tryz.func201 rfl rfl (m := 0) (nx := 0) rfl (Nat.le_of_ble_eq_true rfl) ?_
  (repeat ((conv => whnf); first | (refine nx ?_; intro s) | (refine rg ?_; intro s k))); (conv => whnf)
  refine cas (fun h0 => ?_) (fun h0 => ?_)
  · (repeat ((conv => whnf); first | (refine nx ?_; intro s) | (refine rg ?_; intro s k))); (conv => whnf)
    refine ⟨_, rfl, [], [], rfl, trivial, ⟨?_, trivial⟩, trivial, ⟨trivial, trivial⟩, trivial⟩
    show C.bool _ = C.bool _
    simp at h0
    simp [inB, h0]
  · (repeat ((conv => whnf); first | (refine nx ?_; intro s) | (refine rg ?_; intro s k))); (conv => whnf)
    refine ⟨_, rfl, [], [], rfl, trivial, ⟨?_, trivial⟩, trivial, ⟨trivial, trivial⟩, trivial⟩
    show C.bool _ = C.bool _
    have h1 : ¬ lo ≤ x := by simp at h0; omega
    simp [inB, h1]
theorem r_l1Value (x : Int) : Ret Tryz.prog 146 [.c (.int .i64 x)] [] (.c (.bool (inB x (-1000000000) 1000000000))) [] := by
  refine ret_vc hT hM Tryz.func146 rfl rfl (m := 0) (nx := 0) rfl (Nat.le_of_ble_eq_true rfl) ?_
  (repeat ((conv => whnf); first | (refine nx ?_; intro s) | (refine rg ?_; intro s k))); (conv => whnf)
  refine call_p (r_l1In x (-1000000000) 1000000000) rfl ⟨trivial, trivial, trivial, trivial⟩ ?_
  (repeat ((conv => whnf); first | (refine nx ?_; intro s) | (refine rg ?_; intro s k))); (conv => whnf)
  exact ⟨_, rfl, [], [], rfl, trivial, ⟨rfl, trivial⟩, trivial, ⟨trivial, trivial⟩, trivial⟩
theorem r_isNum (x : Int) : Ret Tryz.prog 149 [.c (.int .i64 x)] [] (.c (.bool (inB x (-1000000000) 1000000000))) [] := by
  refine ret_vc hT hM Tryz.func149 rfl rfl (m := 0) (nx := 0) rfl (Nat.le_of_ble_eq_true rfl) ?_
  (repeat ((conv => whnf); first | (refine nx ?_; intro s) | (refine rg ?_; intro s k))); (conv => whnf)
  refine call_p (r_within x (-1000000000) 1000000000) rfl ⟨trivial, trivial, trivial, trivial⟩ ?_
  (repeat ((conv => whnf); first | (refine nx ?_; intro s) | (refine rg ?_; intro s k))); (conv => whnf)
  exact ⟨_, rfl, [], [], rfl, trivial, ⟨rfl, trivial⟩, trivial, ⟨trivial, trivial⟩, trivial⟩
theorem r_isKey (x : Int) : Ret Tryz.prog 148 [.c (.int .i64 x)] [] (.c (.bool (inB x 0 999))) [] := by
  refine ret_vc hT hM Tryz.func148 rfl rfl (m := 0) (nx := 0) rfl (Nat.le_of_ble_eq_true rfl) ?_
  (repeat ((conv => whnf); first | (refine nx ?_; intro s) | (refine rg ?_; intro s k))); (conv => whnf)
  refine call_p (r_within x 0 999) rfl ⟨trivial, trivial, trivial, trivial⟩ ?_
  (repeat ((conv => whnf); first | (refine nx ?_; intro s) | (refine rg ?_; intro s k))); (conv => whnf)
  exact ⟨_, rfl, [], [], rfl, trivial, ⟨rfl, trivial⟩, trivial, ⟨trivial, trivial⟩, trivial⟩
/-- A message that is right. -/
def msgOk (m : Ms) : Bool := inB m.op 1 4 && inB m.k 0 999 && inB m.v (-1000000000) 1000000000 && (decide (m.v = 0) || decide (m.op = 1) || decide (m.op = 3))
theorem r_implMsgOk (m : Ms) : Ret Tryz.prog 82 [agE .ms m] [] (.c (.bool (msgOk m))) [] := by
  refine ret_vc hT hM Tryz.func82 rfl rfl (m := 0) (nx := 0) rfl (Nat.le_of_ble_eq_true rfl) ?_
  (repeat ((conv => whnf); first | (refine nx ?_; intro s) | (refine rg ?_; intro s k))); (conv => whnf)
  refine call_p (r_isKey m.k) rfl ⟨trivial, trivial⟩ ?_
  (repeat ((conv => whnf); first | (refine nx ?_; intro s) | (refine rg ?_; intro s k))); (conv => whnf)
  refine cas (fun h0 => ?_) (fun h0 => ?_)
  · refine ⟨_, rfl, [], [], rfl, trivial, ⟨?_, trivial⟩, trivial, ⟨trivial, trivial⟩, trivial⟩
    show C.bool _ = C.bool _
    simp at h0
    simp [msgOk, h0]
  · simp at h0
    (repeat ((conv => whnf); first | (refine nx ?_; intro s) | (refine rg ?_; intro s k))); (conv => whnf)
    refine cas (fun h1 => ?_) (fun h1 => ?_)
    · have h1' : m.op = 1 := by simpa using h1
      (repeat ((conv => whnf); first | (refine nx ?_; intro s) | (refine rg ?_; intro s k))); (conv => whnf)
      refine cas (fun h2 => ?_) (fun h2 => absurd h2 (by simp [h1']))
      (repeat ((conv => whnf); first | (refine nx ?_; intro s) | (refine rg ?_; intro s k))); (conv => whnf)
      refine call_p (r_isNum m.v) rfl ⟨trivial, trivial⟩ ?_
      (repeat ((conv => whnf); first | (refine nx ?_; intro s) | (refine rg ?_; intro s k))); (conv => whnf)
      refine ⟨_, rfl, [], [], rfl, trivial, ⟨?_, trivial⟩, trivial, ⟨trivial, trivial⟩, trivial⟩
      show C.bool _ = C.bool _
      simp [msgOk, h0, h1', show inB 1 1 4 = true from rfl]
    · have h1' : m.op ≠ 1 := by simpa using h1
      (repeat ((conv => whnf); first | (refine nx ?_; intro s) | (refine rg ?_; intro s k))); (conv => whnf)
      refine cas (fun h2 => ?_) (fun h2 => ?_)
      · have h2' : m.op = 3 := by simpa using h2
        (repeat ((conv => whnf); first | (refine nx ?_; intro s) | (refine rg ?_; intro s k))); (conv => whnf)
        refine call_p (r_isNum m.v) rfl ⟨trivial, trivial⟩ ?_
        (repeat ((conv => whnf); first | (refine nx ?_; intro s) | (refine rg ?_; intro s k))); (conv => whnf)
        refine ⟨_, rfl, [], [], rfl, trivial, ⟨?_, trivial⟩, trivial, ⟨trivial, trivial⟩, trivial⟩
        show C.bool _ = C.bool _
        simp [msgOk, h0, h2', show inB 3 1 4 = true from rfl]
      · have h2' : m.op ≠ 3 := by simpa using h2
        (repeat ((conv => whnf); first | (refine nx ?_; intro s) | (refine rg ?_; intro s k))); (conv => whnf)
        refine cas (fun h3 => ?_) (fun h3 => ?_)
        · have h3' : m.op = 2 := by simpa using h3
          (repeat ((conv => whnf); first | (refine nx ?_; intro s) | (refine rg ?_; intro s k))); (conv => whnf)
          refine cas (fun h6 => ?_) (fun h6 => absurd h6 (by simp [h3']))
          (repeat ((conv => whnf); first | (refine nx ?_; intro s) | (refine rg ?_; intro s k))); (conv => whnf)
          refine ⟨_, rfl, [], [], rfl, trivial, ⟨?_, trivial⟩, trivial, ⟨trivial, trivial⟩, trivial⟩
          show C.bool _ = C.bool _
          have h5 : inB m.op 1 4 = true := by simp [inB, h3']
          by_cases hv : m.v = 0
          · simp [msgOk, h0, h5, hv, show inB 0 (-1000000000) 1000000000 = true from rfl]
          · simp [msgOk, h3', hv]
        · have h3' : m.op ≠ 2 := by simpa using h3
          (repeat ((conv => whnf); first | (refine nx ?_; intro s) | (refine rg ?_; intro s k))); (conv => whnf)
          refine cas (fun h4 => ?_) (fun h4 => ?_)
          · have h4' : m.op = 4 := by simpa using h4
            (repeat ((conv => whnf); first | (refine nx ?_; intro s) | (refine rg ?_; intro s k))); (conv => whnf)
            refine ⟨_, rfl, [], [], rfl, trivial, ⟨?_, trivial⟩, trivial, ⟨trivial, trivial⟩, trivial⟩
            show C.bool _ = C.bool _
            have h5 : inB m.op 1 4 = true := by simp [inB, h4']
            by_cases hv : m.v = 0
            · simp [msgOk, h0, h5, hv, show inB 0 (-1000000000) 1000000000 = true from rfl]
            · simp [msgOk, h4', hv]
          · have h4' : m.op ≠ 4 := by simpa using h4
            refine ⟨_, rfl, [], [], rfl, trivial, ⟨?_, trivial⟩, trivial, ⟨trivial, trivial⟩, trivial⟩
            show C.bool _ = C.bool _
            have h5 : inB m.op 1 4 = false := by
              simp [inB]
              omega
            simp [msgOk, h5]
end Go.Proofs.YthbpdhppelaihaaGreat
