/- strings.Join, met by the library's contract; impl.MapText. Conditions: none. -/
import Derived.Test.YthbpdhppelaihaaM3
import Derived.Below
set_option linter.unusedVariables false
set_option linter.unusedSimpArgs false
namespace Go.Proofs.Ythbpdhppelaihaa
open Go.RowKit
attribute [local irreducible] Tri
set_option maxRecDepth 4000
set_option maxHeartbeats 4000000
variable {P : Program}
/-- A call that is handed one object of the caller's, which stays as it is. -/
theorem call_1 {f : Nat} {ars : List A} {r : A} {ob : Ob} (hr : Ret P f ars [(0, ob)] r [(0, ob)]) {h : Nat → Option Ob} {nx : Nat} {args : List A} {K : A → Hp → List Nat → Prop} (id : Nat) (hid : h id = some (ob.ren (renId [id] nx))) (ha : args = renL (renId [id] nx) ars) (hi : allL (Def [(0, ob)]) ars) (ho : obIds (Def [(0, ob)]) ob) (hk : K (r.ren (renId [id] nx)) (renH (renId [id] nx) [(0, ob)]) [id]) : callA P h nx f args K := by
  unfold callA
  refine .inl ⟨ars, [(0, ob)], r, [(0, ob)], [id], hr, ha, by simp, fun k => ?_, ⟨hid, trivial⟩, ⟨.inl (by simp), trivial⟩, hi, ⟨ho, trivial⟩, hk⟩
  unfold Def
  rw [get_cons]
  simp [get]
  omega
theorem strs_of {F : Nat → Prop} {w : World} : ∀ {xs : List (List UInt8)} {us : List Value}, RepL F w us (xs.flatMap (cells .str)) → ∃ bs : List ByteArray, us = bs.map .string ∧ bs.map (·.data.toList) = xs
  | [], us, h => by
    have : RepL F w us [] := h
    cases this
    exact ⟨[], rfl, rfl⟩
  | x :: xs, us, h => by
    have h' : RepL F w us (.str x :: xs.flatMap (cells .str)) := h
    cases h' with
    | cons h0 t =>
      obtain ⟨bs, rfl, hb⟩ := strs_of t
      cases h0 with
      | str s hs => exact ⟨s :: bs, rfl, by simp [hb]⟩
/-- A function that only makes memory, handed one object. -/
theorem below_heap {F : Nat → Prop} {V : Nat → Value} {B : Nat → List Nat} {w w' : World} {hp : Hp} (h : HeapOk F V B w hp) (hF : ∀ b, F b → b < w.heap.size) (hb : Below w.heap.size w w') : HeapOk F V B w' hp :=
  h.step hF (fun _ => False) (fun b hlt _ => hb.block b hlt) hb.size (fun _ _ => rfl) (fun _ _ _ => rfl) (fun _ h => h) (fun _ h => .inl h) (fun _ _ => rfl) (fun _ h => h) (fun _ _ h => h.elim) (fun _ _ h => h.elim) (fun _ _ _ h => h.elim)
theorem join_ret {f : Nat} (he : Ent P f) {xs : List (List UInt8)} {sep : List UInt8}
    (H0 : ∀ (a : Option Addr) (c : Nat) (sep : ByteArray) (w : World), Calls P f #[.slice a 0 c, .string sep] w fun e w' => e = .returned (.string ⟨#[]⟩) ∧ w' = w)
    (H : ∀ (bk o c : Nat) (bs : List ByteArray) (sep : ByteArray) (w : World), (∀ (j : Nat) x, bs[j]? = some x → w.cell? ⟨bk, o + j, none⟩ = some (.string x)) → bk < w.heap.size → bs.length ≤ 140737488355328 → bs.length ≤ c → (Lib.join (bs.map (·.data.toList)) sep.data.toList).length ≤ 140737488355328 →
      Calls P f #[.slice (some ⟨bk, o, none⟩) bs.length c, .string sep] w fun e w' => e = .returned (.string ⟨(Lib.join (bs.map (·.data.toList)) sep.data.toList).toArray⟩) ∧ Below w.heap.size w w')
    (hlen : (Lib.join xs sep).length ≤ 140737488355328) : Ret P f [.rw 0, .c (.str sep)] [(0, .row .str xs)] (.c (.str (Lib.join xs sep))) [(0, .row .str xs)] := by
  refine ⟨he, fun F V B w args hF hV1 hH hr hi => ?_⟩
  have hob := hH.ob 0 (.row .str xs) rfl
  cases hr with
  | cons h1 t =>
  cases t with
  | cons h2 t2 =>
  cases t2
  cases h1
  obtain ⟨b, rfl, hb, hbz⟩ := rep_str h2
  cases hob with
  | row _ _ us hown hrr hbb =>
  obtain ⟨bs, rfl, hbs⟩ := strs_of hrr
  have hfin : ∀ (e : Ending) (w' : World), e = .returned (.string ⟨(Lib.join xs sep).toArray⟩) → Below w.heap.size w w' → ∃ (v : Value) (F' : Nat → Prop) (V' : Nat → Value) (B' : Nat → List Nat), e = .returned v ∧ RepA F' V' w' v (.c (.str (Lib.join xs sep))) ∧ (A.c (.str (Lib.join xs sep))).all (Def [(0, .row .str xs)]) ∧ HeapOk F' V' B' w' [(0, .row .str xs)] ∧ (∀ id, (V' id).oneCell' = true) ∧
      (∀ id, Def [(0, Ob.row .str xs)] id → V' id = V id ∧ Def [(0, Ob.row .str xs)] id) ∧ (∀ b, F b → F' b) ∧ (∀ b, F' b → F b ∨ w.heap.size ≤ b ∨ ∃ id, owns [(0, Ob.row .str xs)] V B id b) ∧ (∀ b, F' b → b < w'.heap.size) ∧
      (∀ id b, owns [(0, Ob.row .str xs)] V' B' id b → w.heap.size ≤ b ∨ ∃ id', owns [(0, Ob.row .str xs)] V B id' b) ∧ Fr (fun b => ∃ id, owns [(0, Ob.row .str xs)] V B id b) w w' := by
    intro e w' he hbl
    refine ⟨_, F, V, B, he, .c ?_, trivial, below_heap hH hF hbl, hV1, fun id hid => ⟨rfl, hid⟩, fun _ h => h, fun _ h => .inl h, fun b hb => Nat.lt_of_lt_of_le (hF b hb) hbl.size, fun id b hb => .inr ⟨id, hb⟩, ⟨hbl.os, hbl.tape, hbl.output, hbl.size, fun b hb _ => hbl.block b hb⟩⟩
    have := RepC.str (F := F) (w := w') ⟨(Lib.join xs sep).toArray⟩ (by show (Lib.join xs sep).toArray.size ≤ _; simp; omega)
    simpa using this
  obtain ⟨A0, c0, h3, hle, hA⟩ := hown.cells
  by_cases hx0 : xs = []
  · subst hx0
    rw [h3]
    refine (H0 A0 c0 b w).mono fun e w' ⟨h5, h6⟩ => hfin e w' ?_ (h6 ▸ Below.refl _ _)
    rw [h5]; rfl
  · have hpos : 0 < xs.length := List.length_pos_iff.2 hx0
    obtain ⟨g, rfl, hbk, hcells⟩ := hA hpos
    have hbl : bs.length = xs.length := by rw [← hbs]; simp
    rw [h3, ← hbl]
    refine (H g 0 c0 bs b w (fun j x hj => ?_) (hown.lt g hbk) (by simp only [byE] at hbb; omega) (by omega) (by rw [hbs, hb]; exact hlen)).mono fun e w' ⟨h5, h6⟩ => hfin e w' ?_ h6
    · have := hcells j (.string x) (by simp [hj])
      rw [add_at'] at this
      exact this
    · rw [h5, hbs, hb]
theorem mt_cons (x : Pr) (l : List Pr) : mt (x :: l) = tx (x :: l) := rfl
theorem c9 (hJ : ∀ (xs : List (List UInt8)) (sep : List UInt8), (Lib.join xs sep).length ≤ 140737488355328 → Ret Try.prog 24 [.rw 0, .c (.str sep)] [(0, .row .str xs)] (.c (.str (Lib.join xs sep))) [(0, .row .str xs)])
    (xs : List Pr) (hok : ∀ p ∈ xs, ok1 p) (hn : xs.length ≤ 1048576) : Ret Try.prog 9 [.c (.sl .pr xs)] [] (.c (.str (mt xs))) [] := by
  refine ret_vc hT hM Try.func9 rfl rfl (m := 0) (nx := 0) rfl (Nat.le_of_ble_eq_true rfl) ?_
  (repeat ((conv => whnf); first | (refine nx ?_; intro s) | (refine rg ?_; intro s k))); (conv => whnf)
  refine giv fun _ => ?_
  (repeat ((conv => whnf); first | (refine nx ?_; intro s) | (refine rg ?_; intro s k))); (conv => whnf)
  refine cas (fun h1 => ?_) (fun h1 => ?_)
  · refine ⟨_, rfl, [], [], rfl, trivial, ⟨?_, trivial⟩, trivial, ⟨trivial, trivial⟩, trivial⟩
    show C.str _ = C.str _
    have : xs = [] := by
      cases xs with
      | nil => rfl
      | cons x l => simp at h1; omega
    subst this
    rfl
  · have hne : xs ≠ [] := by rintro rfl; simp at h1
    (repeat ((conv => whnf); first | (refine nx ?_; intro s) | (refine rg ?_; intro s k))); (conv => whnf)
    refine need rfl ?_
    (repeat ((conv => whnf); first | (refine nx ?_; intro s) | (refine rg ?_; intro s k))); (conv => whnf)
    refine giv fun _ => ?_
    (repeat ((conv => whnf); first | (refine nx ?_; intro s) | (refine rg ?_; intro s k))); (conv => whnf)
    refine Tri.loop (fun i : Nat => ⟨[(3, .rw 0), (10, .c (.sl .pr xs)), (11, .c (.int .i64 xs.length)), (12, .c (.int .i64 i))], [(0, .row .str ((xs.take i).map pt))], 1⟩) (fun i => i ≤ xs.length) (fun i => xs.length - i) 0 (by omega) ?_ ?_
    · exact WkF.ok (l := []) (ρ := []) ⟨rfl, trivial, ⟨rfl, rfl, rfl, rfl, trivial⟩, ⟨rfl, trivial⟩, ⟨rfl, trivial, trivial, trivial, trivial⟩, ⟨trivial, trivial⟩⟩
    · intro i hi
      refine vc_sound hT hM _ _ _ ?_
      (repeat ((conv => whnf); first | (refine nx ?_; intro s) | (refine rg ?_; intro s k))); (conv => whnf)
      refine cas (fun h2 => ?_) (fun h2 => ?_)
      · have hlt : i < xs.length := by simp at h2; exact h2
        have hp := hok _ (List.mem_of_getElem? (getD_some hlt zPr))
        have hk := dec_len hp.1
        have hv := dec_len hp.2
        (repeat ((conv => whnf); first | (refine nx ?_; intro s) | (refine rg ?_; intro s k))); (conv => whnf)
        refine need ⟨by omega, by omega⟩ ?_
        (repeat ((conv => whnf); first | (refine nx ?_; intro s) | (refine rg ?_; intro s k))); (conv => whnf)
        refine giv fun _ => ?_
        (repeat ((conv => whnf); first | (refine nx ?_; intro s) | (refine rg ?_; intro s k))); (conv => whnf)
        refine call_p (c23 (xs.getD i zPr).k hp.1) rfl ⟨trivial, trivial⟩ ?_
        (repeat ((conv => whnf); first | (refine nx ?_; intro s) | (refine rg ?_; intro s k))); (conv => whnf)
        refine need (by simp only [List.length_cons, List.length_nil]; omega) ?_
        (repeat ((conv => whnf); first | (refine nx ?_; intro s) | (refine rg ?_; intro s k))); (conv => whnf)
        refine call_p (c23 (xs.getD i zPr).v hp.2) rfl ⟨trivial, trivial⟩ ?_
        (repeat ((conv => whnf); first | (refine nx ?_; intro s) | (refine rg ?_; intro s k))); (conv => whnf)
        refine need (by simp only [List.length_append, List.length_cons, List.length_nil]; omega) ?_
        (repeat ((conv => whnf); first | (refine nx ?_; intro s) | (refine rg ?_; intro s k))); (conv => whnf)
        refine need rfl ?_
        (repeat ((conv => whnf); first | (refine nx ?_; intro s) | (refine rg ?_; intro s k))); (conv => whnf)
        refine need (by rw [chunk_len]; simp only [byE, List.length_map, List.length_take]; omega) ?_
        (repeat ((conv => whnf); first | (refine nx ?_; intro s) | (refine rg ?_; intro s k))); (conv => whnf)
        refine need rfl ?_
        (repeat ((conv => whnf); first | (refine nx ?_; intro s) | (refine rg ?_; intro s k))); (conv => whnf)
        refine ⟨i + 1, by omega, by omega, WkF.ok (l := []) (ρ := [(0, 4)]) ⟨rfl, trivial, ⟨rfl, rfl, rfl, ?_, trivial⟩, ⟨?_, trivial⟩, ⟨rfl, trivial, trivial, trivial, trivial⟩, ⟨trivial, trivial⟩⟩⟩
        · show C.int _ _ = C.int _ _
          rw [wrap_i64 (by omega) (by omega)]
          rfl
        · show some (Ob.row _ _) = some (Ob.row _ _)
          refine congrArg (fun l => some (Ob.row .str l)) ?_
          rw [List.take_add_one, getD_some hlt zPr, List.map_append]
          rfl
      · have hge : xs.length ≤ i := by simp at h2; exact h2
        have hlen := tx_len hok i hi
        (repeat ((conv => whnf); first | (refine nx ?_; intro s) | (refine rg ?_; intro s k))); (conv => whnf)
        refine call_1 (hJ ((xs.take i).map pt) [32] (by show (tx (xs.take i)).length ≤ _; omega)) 0 rfl rfl ⟨rfl, trivial, trivial⟩ trivial ?_
        (repeat ((conv => whnf); first | (refine nx ?_; intro s) | (refine rg ?_; intro s k))); (conv => whnf)
        refine ⟨_, rfl, [], [], rfl, trivial, ⟨?_, trivial⟩, trivial, ⟨trivial, trivial⟩, trivial⟩
        show C.str (tx (xs.take i)) = C.str _
        rw [List.take_of_length_le hge]
        cases xs with
        | nil => exact (hne rfl).elim
        | cons x l => rfl
end Go.Proofs.Ythbpdhppelaihaa
