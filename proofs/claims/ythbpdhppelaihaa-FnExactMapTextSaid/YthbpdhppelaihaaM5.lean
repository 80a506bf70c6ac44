/- laws.FnExactMapText: whatever its input, true. Conditions: none. -/
import Derived.Test.YthbpdhppelaihaaM4
set_option linter.unusedVariables false
set_option linter.unusedSimpArgs false
namespace Go.Proofs.Ythbpdhppelaihaa
open Go.RowKit
attribute [local irreducible] Tri
set_option maxRecDepth 4000
set_option maxHeartbeats 4000000
theorem c3 (hJ : ∀ (xs : List (List UInt8)) (sep : List UInt8), (Lib.join xs sep).length ≤ 140737488355328 → Ret Try.prog 24 [.rw 0, .c (.str sep)] [(0, .row .str xs)] (.c (.str (Lib.join xs sep))) [(0, .row .str xs)])
    (xs : List Pr) (hok : ∀ p ∈ xs, ok1 p) (hb : xs.length ≤ 140737488355328) : Ret Try.prog 3 [.c (.sl .pr xs)] [] (.c (.bool true)) [] := by
  refine ret_vc hT hM Try.func3 rfl rfl (m := 0) (nx := 0) rfl (Nat.le_of_ble_eq_true rfl) ?_
  (repeat ((conv => whnf); first | (refine nx ?_; intro s) | (refine rg ?_; intro s k))); (conv => whnf)
  refine call_p (c6 xs 1048576) rfl ⟨trivial, trivial, trivial⟩ ?_
  (repeat ((conv => whnf); first | (refine nx ?_; intro s) | (refine rg ?_; intro s k))); (conv => whnf)
  refine cas (fun h1 => ?_) (fun h1 => ?_)
  · exact ⟨_, rfl, [], [], rfl, trivial, ⟨rfl, trivial⟩, trivial, ⟨trivial, trivial⟩, trivial⟩
  · have hn : xs.length ≤ 1048576 := by
      have h2 : ¬ sz1 xs.length 1048576 < 0 := by simpa using h1
      unfold sz1 at h2
      rw [wrap_i64 (by omega) (by omega)] at h2
      split at h2
      · omega
      · omega
    (repeat ((conv => whnf); first | (refine nx ?_; intro s) | (refine rg ?_; intro s k))); (conv => whnf)
    refine call_p (c8 xs) rfl ⟨trivial, trivial⟩ ?_
    (repeat ((conv => whnf); first | (refine nx ?_; intro s) | (refine rg ?_; intro s k))); (conv => whnf)
    refine call_p (c7 xs hok hn) rfl ⟨trivial, trivial⟩ ?_
    (repeat ((conv => whnf); first | (refine nx ?_; intro s) | (refine rg ?_; intro s k))); (conv => whnf)
    refine call_p (c8 xs) rfl ⟨trivial, trivial⟩ ?_
    (repeat ((conv => whnf); first | (refine nx ?_; intro s) | (refine rg ?_; intro s k))); (conv => whnf)
    refine call_p (c9 hJ xs hok hn) rfl ⟨trivial, trivial⟩ ?_
    (repeat ((conv => whnf); first | (refine nx ?_; intro s) | (refine rg ?_; intro s k))); (conv => whnf)
    refine cas (fun h2 => ?_) (fun h2 => ?_)
    · exact absurd h2 (by simp)
    · (repeat ((conv => whnf); first | (refine nx ?_; intro s) | (refine rg ?_; intro s k))); (conv => whnf)
      refine call_p (c8 xs) rfl ⟨trivial, trivial⟩ ?_
      (repeat ((conv => whnf); first | (refine nx ?_; intro s) | (refine rg ?_; intro s k))); (conv => whnf)
      refine call_p (c10 xs xs) rfl ⟨trivial, trivial, trivial⟩ ?_
      (repeat ((conv => whnf); first | (refine nx ?_; intro s) | (refine rg ?_; intro s k))); (conv => whnf)
      refine cas (fun h3 => ?_) (fun h3 => ?_)
      · rw [eqB_yes rfl] at h3
        cases h3
      · exact ⟨_, rfl, [], [], rfl, trivial, ⟨rfl, trivial⟩, trivial, ⟨trivial, trivial⟩, trivial⟩
end Go.Proofs.Ythbpdhppelaihaa
