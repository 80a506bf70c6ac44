/- The row of laws.FnExactMapText. Conditions: none. -/
import Derived.Test.YthbpdhppelaihaaRows
import Derived.Test.YthbpdhppelaihaaM5
import Derived.Test.YthbpdhppelaihaaJ
import Derived.Test.YthbpdhppelaihaaH5
import Derived.WalkKit
import Derived.ProofKit
import Derived.OpenShut
import Derived.ChangeOld
import Derived.SizedLaws
set_option linter.unusedVariables false
set_option linter.unusedSimpArgs false
namespace Go.Proofs.Ythbpdhppelaihaa
open Go.ChangeShapes Go.WideShapes Go.ChangeAt Go.RowKit
theorem hS : chkS T T = true := by kernel_rfl
theorem own : ownKnob Try.prog.godebug = none := by kernel_rfl
theorem laidOut : laidOutB Try.prog = true := by kernel_rfl
set_option maxRecDepth 100000 in
theorem lifted (os : Os) (started : os.Started) (H : Type) (enc : TypeId × Value → H) :
    ReturnsInHanded {} Try.checked os 3 .any (Rows.fnExactMapTextSpec.pre6 enc Try.prog Try.f3 Rows.fnExactMapTextRow.domain false) (Rows.fnExactMapTextSpec.post enc Try.prog Try.f3 false true false false) := by
  refine returnsInHanded_of_change_sized (C := Try.checked) own started (by kernel_rfl) Try.func3
    (ChangeSpec.witness6 (enc := enc) (C := Try.checked) false ⟨#[], #[.slice none 0 0], []⟩ 8 (by kernel_rfl) (by kernel_rfl) (by kernel_rfl) (by kernel_rfl)) ?_
  intro W base args ds gs before hval0 hW hcnd hsz0 _
  have hsz : (DataW.weightsEach Try.prog (Try.f3.params.toList ++ Rows.fnExactMapTextSpec.plain.varTypes Try.prog) (ds ++ gs)).all (· ≤ reachBytes) = true := hsz0
  have hval : ∀ (j : Nat) t v, Try.f3.params[j]? = some t → args[j]? = some v → Value.okWide Try.prog W .any base t v := hval0
  have hW' := hW
  obtain ⟨p, q, hA0, hV, rfl, hfz, hnd⟩ := hW
  have hA : DataW.TrodAll enc Try.prog W 0 (fun _ => true) true Try.f3.params.toList args.toList ds p := hA0
  rw [Try.params3] at hA hval hsz
  obtain ⟨v0, vs0, d0, ds0, p0, q0, hargs, rfl, rfl, h0, r0⟩ := trodAll_cons hA
  obtain ⟨rfl, rfl, rfl⟩ := trodAll_nil r0
  obtain rfl : args = #[v0] := by cases args; simp_all
  obtain ⟨rfl, rfl⟩ := trodVars_none hV
  obtain ⟨a0, len0, cap0, rfl⟩ := okWide_slice Try.underlying22 (hval 0 22 v0 rfl rfl)
  have k0 := h0
  have lt0 : ∀ x ∈ p0, x.block < W.heap.size := by obtain ⟨m, hm⟩ := k0; exact DataW.trod_lt m _ _ _ hm
  obtain ⟨fuel, hf⟩ := h0
  obtain ⟨data, hrep, hgood⟩ := read_trod hT hS fuel 22 _ _ hf 8 [.sl .pr] (by kernel_rfl) (weightsEach_get hsz (i := 0) rfl rfl)
  obtain ⟨c, cs, rfl, hg, hn⟩ := hgood.uncons
  obtain rfl := hn.none
  obtain ⟨xs, rfl, hx⟩ := hg.slOf
  have hr0 : RepC (fun b => b < W.heap.size) W (.slice a0 len0 cap0) (.sl .pr xs) := by cases hrep with | cons h _ => exact h
  have hl := sl_len hr0
  have hok : ∀ x ∈ xs, ok1 x := fun x hm => by
    have h1 := hx x hm
    have h2 : GoodL [.int .i64, .int .i64] [.int .i64 x.k, .int .i64 x.v] := h1
    cases h2 with | cons h3 h4 => cases h4 with | cons h5 h6 => exact ⟨inR_of h3.intOf, inR_of h5.intOf⟩
  clear hA0 hval0 hsz0 hsz
  refine (law_calls (c3 hJ xs hok (by simp only [byE] at hl; omega)) (.cons (.c hr0) .nil) ⟨trivial, trivial⟩).mono fun e W' ⟨he, bel⟩ => ?_
  subst he
  exact ⟨_, rfl, _, _, _, [], _, [], hW', trodAll_mk1 (shut_bool Try.underlying4 _), (trodAll_cons_mk (Below.trod laidOut (by kernel_rfl) (of_decide_eq_true (by kernel_rfl)) k0 bel lt0) trodAll_mk0), rfl, bel.frame _, fun h => by cases h⟩
theorem over : Rows.fnExactMapTextRow.holds Try.pinned (OpenSpec.ofChange Rows.fnExactMapTextSpec) :=
  OpenClaim.holds_of_wide 3 Try.f3 rfl rfl rfl rfl rfl rfl rfl ⟨rfl, rfl, rfl, rfl, rfl⟩ rfl rfl rfl rfl rfl (by kernel_rfl) Try.func3 (by kernel_rfl)
    (of_decide_eq_true (by kernel_rfl)) (by unfold Func.isWrapper; first | (rw [if_pos (by decide +kernel)]; kernel_rfl) | (rw [if_neg (by decide +kernel)]; exact ⟨rfl, rfl⟩))
    (fun os started H enc _ => lifted os started H enc)
/-- The statement. -/
theorem fnExactMapText_holds : Rows.FnExactMapTextSaid := over
#print axioms fnExactMapText_holds
end Go.Proofs.Ythbpdhppelaihaa
