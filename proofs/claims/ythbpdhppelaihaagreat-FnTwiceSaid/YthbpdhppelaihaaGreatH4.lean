/- CALLS, met by contracts. Conditions: none. -/
import Derived.Test.YthbpdhppelaihaaGreatTD
set_option linter.unusedVariables false
set_option linter.unusedSimpArgs false
namespace Go.Proofs.YthbpdhppelaihaaGreat
open Go.RowKit
variable {P : Program}
theorem call_p {f : Nat} {as : List A} {r : A} (hr : Ret P f as [] r []) {h : Nat → Option Ob} {nx : Nat} {args : List A} {K : A → Hp → List Nat → Prop} (ha : args = renL (renId [] nx) as) (hi : allL (Def []) as) (hk : K (r.ren (renId [] nx)) [] []) : callA P h nx f args K := by
 unfold callA
 exact .inl ⟨as, [], r, [], [], hr, ha, List.nodup_nil, fun k => by simp [Def, get], trivial, trivial, hi, trivial, hk⟩
theorem call_n {f : Nat} {as : List A} {r : A} {hout : Hp} (hr : Ret P f as [] r hout) {h : Nat → Option Ob} {nx : Nat} {args : List A} {K : A → Hp → List Nat → Prop} (ha : args = renL (renId [] nx) as) (hi : allL (Def []) as) (hn : newAll h 0 nx hout) (hk : K (r.ren (renId [] nx)) (renH (renId [] nx) hout) []) : callA P h nx f args K := by
 unfold callA
 exact .inl ⟨as, [], r, hout, [], hr, ha, List.nodup_nil, fun k => by simp [Def, get], trivial, hn, hi, trivial, hk⟩
theorem call_b {f : Nat} {as : List A} {r : A} {hout : Hp} (hr : Ret P f as [] r hout) {h : Nat → Option Ob} {nx : Nat} {args : List A} {K : A → Hp → List Nat → Prop} (ha : leL (lent h) id args as) (hf : ffA r) (hh : ffH hout) (hn : newAll h 0 nx hout) (has : allL (fun _ => False) as) (hk : K (r.ren (renId [] nx)) (renH (renId [] nx) hout) (rwsL args)) : callA P h nx f args K := by
 unfold callA
 refine .inr (.inl ?_)
 unfold callB
 exact ⟨as, r, hout, hr, ha, hf, hh, hn, has, hk⟩
theorem call_f {f : Nat} {as : List A} {r : A} {hout : Hp} (hr : Ret P f as [] r hout) {h : Nat → Option Ob} {nx : Nat} {args : List A} {K : A → Hp → List Nat → Prop} (ha : leL (lent h) id args as) (hn : newAll h 0 nx hout) (has : allL (fun _ => False) as) (hk : K (r.ren (renId [] nx)) (renH (renId [] nx) hout ++ frz h ((rwsL args).map .rw)) (rwsL args)) : callA P h nx f args K := by
 unfold callA
 refine .inr (.inr ?_)
 unfold callF
 exact ⟨as, r, hout, hr, ha, hn, has, hk⟩
theorem call_g (ids : List Nat) {f : Nat} {as : List A} {hin : Hp} {r : A} {hout : Hp} (hr : Ret P f as hin r hout) {h : Nat → Option Ob} {nx : Nat} {args : List A} {K : A → Hp → List Nat → Prop} (ha : args = renL (renId ids nx) as) (hnd : nodupN ids = true) (hks : keys hin = List.range ids.length) (hl : lookAll h (renId ids nx) hin) (hn : newAll h ids.length nx hout) (hi : allL (Def hin) as) (hoi : obsIds (Def hin) hin) (hk : K (r.ren (renId ids nx)) (renH (renId ids nx) hout) (keys (renH (renId ids nx) hin))) : callA P h nx f args K := by
 unfold callA
 exact .inl ⟨as, hin, r, hout, ids, hr, ha, nodupN_iff hnd, fun k => keys_def hks k, hl, hn, hi, hoi, hk⟩
theorem wrap_i64 {n : Int} (h0 : -9223372036854775808 ≤ n) (h1 : n ≤ 9223372036854775807) : IntKind.i64.wrap n = n := by
 simp only [IntKind.wrap, IntKind.signed, IntKind.bits]
 simp
 omega
noncomputable def eqB {α : Type} (x y : α) : Bool := @decide (x = y) (Classical.propDecidable _)
theorem eqB_yes {α : Type} {x y : α} (h : x = y) : eqB x y = true := by unfold eqB; simp [h]
theorem eqB_no {α : Type} {x y : α} (h : x ≠ y) : eqB x y = false := by unfold eqB; simp [h]
theorem mkE_cells (e : Ty) (x : El e) : mkE e (cells e x) = x := by
 cases e
 case u8 => exact UInt8.ofNat_toNat
 case tr => cases x; rfl
 case nd =>
  obtain ⟨a0, a1, a2, a3, ⟨⟨b0, b1, b2, b3, b4⟩, b5⟩, a6, a7, a8, a9, a10, ⟨⟨c0, c1, c2, c3, c4⟩, c5⟩⟩ := x
  rfl
 case rp =>
  obtain ⟨a0, a1, a2, a3, a4, a5, a6, a7, a8, ⟨⟨b0, b1, b2, b3, b4⟩, b5⟩⟩ := x
  rfl
 all_goals rfl
theorem spl_full {α : Type} : ∀ (l a b : List α), a.length = l.length → spl (b ++ a) b.length l = b ++ l
 | [], a, b, h => by
   have : a = [] := List.eq_nil_of_length_eq_zero (by simpa using h)
   subst this; rw [spl_nil]
 | x :: l, [], b, h => by simp at h
 | x :: l, y :: a, b, h => by
   rw [spl_cons]
   rw [List.set_append_right _ _ (Nat.le_refl _), Nat.sub_self, List.set_cons_zero]
   have := spl_full l a (b ++ [x]) (by simpa using h)
   simpa using this
theorem spl_all (e : Ty) (x y : El e) : mkE e (spl (cells e x) 0 (cells e y)) = y := by
 have := spl_full (cells e y) (cells e x) [] (by rw [cells_len, cells_len])
 simp only [List.nil_append, List.length_nil] at this
 rw [this, mkE_cells]
abbrev agE (e : Ty) (x : El e) : A := .ag ((cells e x).map .c)
/-! Leaves of what is compared at an end -/
theorem cgB {x y : Bool} (h : x = y) : C.bool x = C.bool y := congrArg _ h
theorem cgI {x y : Int} (h : x = y) : C.int .i64 x = C.int .i64 y := congrArg _ h
theorem cgS {x y : List UInt8} (h : x = y) : C.str x = C.str y := congrArg _ h
theorem cgR {e : Ty} {x y : List (El e)} (h : x = y) : some (Ob.row e x) = some (Ob.row e y) := by rw [h]
theorem cgD {e : Ty} {x y : List (El e)} (h : x = y) : some (Ob.dp e x) = some (Ob.dp e y) := by rw [h]
theorem cgL {e : Ty} {x y : List (El e)} (h : x = y) : C.sl e x = C.sl e y := congrArg _ h
theorem oR {p : Prop} {α : Sort _} {a : α} : p ∨ a = a := .inr rfl
theorem oL {p : Prop} {α : Sort _} {a : α} : a = a ∨ p := .inl rfl
theorem orB {a b : Nat} {q : Prop} (h : Nat.ble a b = true) : a ≤ b ∨ q := .inl (Nat.le_of_ble_eq_true h)
end Go.Proofs.YthbpdhppelaihaaGreat