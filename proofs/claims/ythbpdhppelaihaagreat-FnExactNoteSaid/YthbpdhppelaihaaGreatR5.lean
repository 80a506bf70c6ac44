/- The row of laws.FnExactNote. Conditions: none. By program (mkR.py). -/
import Derived.Test.YthbpdhppelaihaaGreatRows
import Derived.Test.YthbpdhppelaihaaGreatV2
import Derived.Test.YthbpdhppelaihaaGreatH5
import Derived.WalkKit
import Derived.ProofKit
import Derived.OpenShut
import Derived.ChangeOld
import Derived.SizedLaws
set_option linter.unusedVariables false
set_option linter.unusedSimpArgs false
namespace Go.Proofs.YthbpdhppelaihaaGreat
open Go.ChangeShapes Go.WideShapes Go.ChangeAt Go.RowKit
theorem hS : chkS T T = true := by kernel_rfl
theorem own : ownKnob Tryz.prog.godebug = none := by kernel_rfl
theorem laidOut : laidOutB Tryz.prog = true := by kernel_rfl
theorem GoodC.intInv {k : IntKind} {c : C} (h : GoodC (.int k) c) : ∃ n, c = .int k n := by cases h; exact ⟨_, rfl⟩
set_option maxRecDepth 100000 in
theorem lifted (os : Os) (started : os.Started) (H : Type) (enc : TypeId × Value → H) :
    ReturnsInHanded {} Tryz.checked os 7 .any (Rows.fnExactNoteSpec.pre6 enc Tryz.prog Tryz.f7 Rows.fnExactNoteRow.domain false) (Rows.fnExactNoteSpec.post enc Tryz.prog Tryz.f7 false true false false) := by
  refine returnsInHanded_of_change_sized (C := Tryz.checked) own started (by kernel_rfl) Tryz.func7
    (ChangeSpec.witness6 (enc := enc) (C := Tryz.checked) false ⟨#[], #[.agg #[.int .i64 0, .slice none 0 0, .slice none 0 0, .slice none 0 0, .slice none 0 0, .slice none 0 0], .int .i64 0, .agg #[.int .i64 0, .int .i64 0, .int .i64 0, .int .i64 0, .int .i64 0, .slice none 0 0, .bool false, .slice none 0 0, .slice none 0 0, .slice none 0 0, .slice none 0 0, .slice none 0 0, .int .i64 0, .slice none 0 0, .slice none 0 0, .slice none 0 0, .int .i64 0, .bool false, .slice none 0 0, .slice none 0 0, .slice none 0 0, .slice none 0 0, .slice none 0 0]], []⟩ 8 (by kernel_rfl) (by kernel_rfl) (by kernel_rfl) (by kernel_rfl)) ?_
  intro W base args ds gs before hval0 hW hcnd hsz0 _
  have hsz : (DataW.weightsEach Tryz.prog (Tryz.f7.params.toList ++ Rows.fnExactNoteSpec.plain.varTypes Tryz.prog) (ds ++ gs)).all (· ≤ reachBytes) = true := hsz0
  have hval : ∀ (j : Nat) t v, Tryz.f7.params[j]? = some t → args[j]? = some v → Value.okWide Tryz.prog W .any base t v := hval0
  have hW' := hW
  obtain ⟨p, q, hA0, hV, rfl, hfz, hnd⟩ := hW
  have hA : DataW.TrodAll enc Tryz.prog W 0 (fun _ => true) true Tryz.f7.params.toList args.toList ds p := hA0
  rw [Tryz.params7] at hA hval hsz
  obtain ⟨v0, vs0, d0, ds0, p0, q0, hargs0, rfl, rfl, h0, r0⟩ := trodAll_cons hA
  obtain ⟨v1, vs1, d1, ds1, p1, q1, hargs1, rfl, rfl, h1, r1⟩ := trodAll_cons r0
  obtain ⟨v2, vs2, d2, ds2, p2, q2, hargs2, rfl, rfl, h2, r2⟩ := trodAll_cons r1
  obtain ⟨rfl, rfl, rfl⟩ := trodAll_nil r2
  subst hargs2
  subst hargs1
  obtain rfl : args = #[v0, v1, v2] := by apply Array.toList_inj.1; simpa using hargs0
  obtain ⟨rfl, rfl⟩ := trodVars_none hV
  obtain ⟨cs0, rfl, _⟩ := okWide_struct Tryz.underlying58 (hval 0 58 v0 rfl rfl)
  have k0 := h0
  have lt0 : ∀ x ∈ p0, x.block < W.heap.size := by obtain ⟨m, hm⟩ := k0; exact DataW.trod_lt m _ _ _ hm
  obtain ⟨fuel0, hf0⟩ := h0
  obtain ⟨data0, hrep0, hgood0⟩ := read_trod hT hS fuel0 58 _ _ hf0 8 [.int .i64, .sl .nd, .sl .rp, .sl .cm, .sl .dn, .sl .ld] (by kernel_rfl) (weightsEach_get hsz (i := 0) rfl rfl)
  obtain ⟨c0, t0, rfl, g0, hgood0⟩ := hgood0.uncons
  obtain ⟨c1, t1, rfl, g1, hgood0⟩ := hgood0.uncons
  obtain ⟨c2, t2, rfl, g2, hgood0⟩ := hgood0.uncons
  obtain ⟨c3, t3, rfl, g3, hgood0⟩ := hgood0.uncons
  obtain ⟨c4, t4, rfl, g4, hgood0⟩ := hgood0.uncons
  obtain ⟨c5, t5, rfl, g5, hgood0⟩ := hgood0.uncons
  obtain rfl := hgood0.none
  obtain ⟨w0, rfl⟩ := g0.intInv
  obtain ⟨w1, rfl, _⟩ := g1.slOf
  obtain ⟨w2, rfl, _⟩ := g2.slOf
  obtain ⟨w3, rfl, _⟩ := g3.slOf
  obtain ⟨w4, rfl, _⟩ := g4.slOf
  obtain ⟨w5, rfl, _⟩ := g5.slOf
  have ra0 : RepA (fun b => b < W.heap.size) (fun _ => .bool false) W (.agg cs0) (agL (Wd.cells ⟨w0, w1, w2, w3, w4, w5⟩)) := by
    have := RepA.ag (hrep0.toAs (V := fun _ => .bool false)) hrep0.one
    simp [Value.cells] at this
    exact this
  obtain ⟨n1, rfl⟩ := okWide_int Tryz.underlying3 (hval 1 3 v1 rfl rfl)
  have k1 := h1
  have lt1 : ∀ x ∈ p1, x.block < W.heap.size := by obtain ⟨m, hm⟩ := k1; exact DataW.trod_lt m _ _ _ hm
  have ra1 : RepA (fun b => b < W.heap.size) (fun _ => .bool false) W (.int .i64 n1) (.c (.int .i64 n1)) := .c (.int _ _)
  obtain ⟨cs2, rfl, _⟩ := okWide_struct Tryz.underlying83 (hval 2 83 v2 rfl rfl)
  have k2 := h2
  have lt2 : ∀ x ∈ p2, x.block < W.heap.size := by obtain ⟨m, hm⟩ := k2; exact DataW.trod_lt m _ _ _ hm
  obtain ⟨fuel2, hf2⟩ := h2
  obtain ⟨data2, hrep2, hgood2⟩ := read_trod hT hS fuel2 83 _ _ hf2 8 (ckE .nd) (by kernel_rfl) (weightsEach_get hsz (i := 2) rfl rfl)
  have hmk2 : cells .nd (mkE .nd data2) = data2 := mk_cells .nd hgood2
  have ra2 : RepA (fun b => b < W.heap.size) (fun _ => .bool false) W (.agg cs2) (agE .nd (mkE .nd data2)) := by
    show RepA _ _ _ _ (.ag ((cells .nd (mkE .nd data2)).map .c))
    rw [hmk2]
    have := RepA.ag (hrep2.toAs (V := fun _ => .bool false)) hrep2.one
    simpa [Value.cells] using this
  clear hA0 hval0 hsz0 hsz
  refine (law_calls (r_lawNote ⟨w0, w1, w2, w3, w4, w5⟩ n1 (mkE .nd data2) (base_of hgood2)) (.cons ra0 (.cons ra1 (.cons ra2 .nil))) (by simp only [allL, A.all]; exact ⟨(allL_c _), trivial, (allL_c _), trivial⟩)).mono fun e W' ⟨he, bel⟩ => ?_
  subst he
  exact ⟨_, rfl, _, _, _, [], _, [], hW', trodAll_mk1 (shut_bool Tryz.underlying4 _), (trodAll_cons_mk (Below.trod laidOut (by kernel_rfl) (of_decide_eq_true (by kernel_rfl)) k0 bel lt0) (trodAll_cons_mk (Below.trod laidOut (by kernel_rfl) (of_decide_eq_true (by kernel_rfl)) k1 bel lt1) (trodAll_cons_mk (Below.trod laidOut (by kernel_rfl) (of_decide_eq_true (by kernel_rfl)) k2 bel lt2) trodAll_mk0))), rfl, bel.frame _, fun h => by cases h⟩
set_option maxHeartbeats 40000000 in
theorem closedF : joinedFacts Tryz.pinned.checked.prog 7 Tryz.f7 Rows.fnExactNoteSpec Rows.fnExactNoteRow = true := by
  unfold joinedFacts
  simp only [Bool.and_eq_true]
  refine ⟨⟨⟨⟨⟨⟨⟨⟨⟨⟨⟨⟨⟨⟨⟨⟨⟨⟨⟨⟨⟨⟨⟨⟨⟨⟨⟨⟨⟨⟨⟨?_, ?_⟩, ?_⟩, ?_⟩, ?_⟩, ?_⟩, ?_⟩, ?_⟩, ?_⟩, ?_⟩, ?_⟩, ?_⟩, ?_⟩, ?_⟩, ?_⟩, ?_⟩, ?_⟩, ?_⟩, ?_⟩, ?_⟩, ?_⟩, ?_⟩, ?_⟩, ?_⟩, ?_⟩, ?_⟩, ?_⟩, ?_⟩, ?_⟩, ?_⟩, ?_⟩, ?_⟩
  all_goals (as_aux_lemma => kernel_rfl)
theorem namedF : Tryz.pinned.checked.prog.funcNamed Rows.fnExactNoteRow.func = some 7 := by kernel_rfl
theorem over : Rows.fnExactNoteRow.holds Tryz.pinned (OpenSpec.ofChange Rows.fnExactNoteSpec) :=
  OpenClaim.holds_of_wide 7 Tryz.f7 rfl rfl rfl rfl rfl rfl rfl ⟨rfl, rfl, rfl, rfl, rfl⟩ rfl rfl rfl rfl rfl namedF Tryz.func7 closedF
    (of_decide_eq_true (by kernel_rfl)) (by unfold Func.isWrapper; first | (rw [if_pos (by decide +kernel)]; kernel_rfl) | (rw [if_neg (by decide +kernel)]; exact ⟨rfl, rfl⟩))
    (fun os started H enc _ => lifted os started H enc)
/-- The statement. -/
theorem fnExactNote_holds : Rows.FnExactNoteSaid := over
#print axioms fnExactNote_holds
end Go.Proofs.YthbpdhppelaihaaGreat
