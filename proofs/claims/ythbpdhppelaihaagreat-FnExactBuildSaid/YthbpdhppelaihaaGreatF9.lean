/- The conditions of F4 are sound: make, cuts, conversions, stores, calls. Conditions: none. -/
import Derived.Test.YthbpdhppelaihaaGreatF8
import Derived.Laws.MakeOwn
import Derived.Laws.Slices
set_option linter.unusedVariables false
set_option linter.unusedSimpArgs false
namespace Go.Proofs.YthbpdhppelaihaaGreat
open Go.RowKit
variable {P : Program} {T : List (Nat × TI)}

/-- A new row behind a step that only makes memory. -/
theorem new_row {n : Nat} {o : Oper} (hd : ∀ d, o.dst = some d → d < n) {σ : St} {id : Nat} (hid : get σ.hp id = none) {e : Ty} {zs : List (El e)} {ob : Ob} (hob : ob = .row e zs ∨ ob = .dp e zs)
    (h : ∀ {w0 : World} {L0 : Old} {F0 F : Nat → Prop} {V : Nat → Value} {B : Nat → List Nat} {a : Act} {w : World}, Sim n w0 L0 F0 F V B σ a w → ∃ (v' : Value) (w' : World) (us : List Value), (execOp a.eval o).run P w = .ok (.value v') w' ∧ w'.ownsRow 0 (etOf e) (szE e) v' zs.length us ∧ OwnL w us (zs.flatMap (cells e)) [] ∧ zs.length * byE e ≤ 140737488355328 ∧ w.grownBy w' none ∧ ∀ b, blk v' = some b → w.heap.size ≤ b) : Val P n o σ (σ.upd o.dst (.rw id) [(id, ob)]) := by
  intro w0 L0 F0 F V B a w hs K Q hK
  obtain ⟨v', w', us, hrun, hown0, hr, hb, hg, hnb⟩ := h hs
  have hown := rowR_of hown0
  have hold : ∀ b, b < w.heap.size → w'.heap[b]? = w.heap[b]? := fun b hb' => hg.block b hb' (by simp)
  have hr' : OwnL w' us (zs.flatMap (cells e)) [] := hr.move fun b hb => by simp at hb
  have hoo : Own w' v' (.sl e zs) (bkl v') := by
    have := Own.sl e zs v' us [] hb hown hr' (by unfold bkl; cases blk v' <;> simp)
    simpa using this
  have hnew := hs.new (id := id) hid (v := v') hown.one (o := ob) (w' := w') hg.os hg.tape hg.output hg.size (B' := updB B id (bkl v')) (fun k hk => by unfold updB; rw [if_neg hk]) hold
    (by
      rcases hob with rfl | rfl
      · exact .row e zs us (by simpa [updV] using hown) (hr'.rep fun b hb => by simp at hb) hb
      · exact .dp e zs (by simpa [updV, updB] using hoo)) (by rcases hob with rfl | rfl <;> trivial) (fun b hb' => by
      have hbv : blk v' = some b := by
        unfold owns at hb'
        rw [get_cons, if_pos rfl] at hb'
        rcases hob with rfl | rfl
        · simpa [updV] using hb'
        · simp only [updB, if_true] at hb'; exact bkl_mem.1 hb'
      exact ⟨hnb b hbv, hown.lt b hbv⟩)
  have hput := hnew.putd hd (v := v') (r := .rw id) (by have := RepA.rw (F := F) (V := updV V id v') (w := w') id; simpa [updV] using this) (by simp [A.all, Def, get_cons]) (σ.nx + 1)
  unfold Oper.wp
  rw [hrun]
  exact hK _ _ _ _ _ hput
theorem rep_L {w : World} {us : List Value} {l : List C} (h : OwnL w us l []) : ∀ n, OwnL w (rep n us) (rep n l) []
  | 0 => .nil
  | n + 1 => by
    have := h.append (rep_L h n) (fun x hx => by simp at hx)
    simpa [rep] using this
theorem rep_flat (e : Ty) (x : El e) : ∀ n, (List.replicate n x).flatMap (cells e) = rep n (cells e x)
  | 0 => rfl
  | n + 1 => by rw [List.replicate_succ, List.flatMap_cons, rep_flat e x n]; rfl
theorem ownL_cons0 {w : World} {u : Value} {us : List Value} {c : C} {cs : List C} (h : Own w u c []) (t : OwnL w us cs []) : OwnL w (u :: us) (c :: cs) [] := by
  have := OwnL.cons h t (fun x hx => by simp at hx)
  simpa using this
theorem zcs {w : World} : ∀ {us : List Value} {l : List A} {ds cs : List C}, ZOk us l → toCs (fun _ => none) ds l = some cs → OwnL w us cs []
  | _, _, ds, cs, .nil, h => by cases ds <;> simp [toCs] at h; subst h; exact .nil
  | _, _, [], cs, .int k n t, h => by simp [toCs] at h
  | _, _, [], cs, .bool b t, h => by simp [toCs] at h
  | _, _, [], cs, .str t, h => by simp [toCs] at h
  | _, _, [], cs, .nl t, h => by simp [toCs] at h
  | _, _, [], cs, .oth v _ t, h => by simp [toCs] at h
  | _, _, d :: ds, cs, .int k n t, h => by
    simp only [toCs, toC] at h
    split at h
    · rename_i c cs' h1 h2; cases h1; cases h; exact ownL_cons0 (.int k n) (zcs t h2)
    · cases h
  | _, _, d :: ds, cs, .bool b t, h => by
    simp only [toCs, toC] at h
    split at h
    · rename_i c cs' h1 h2; cases h1; cases h; exact ownL_cons0 (.bool b) (zcs t h2)
    · cases h
  | _, _, d :: ds, cs, .str t, h => by
    simp only [toCs, toC] at h
    split at h
    · rename_i c cs' h1 h2; cases h1; cases h; exact ownL_cons0 (.str _ (by decide)) (zcs t h2)
    · cases h
  | _, _, d :: ds, cs, .nl t, h => by
    simp only [toCs] at h
    split at h
    · rename_i c cs' h1 h2
      cases h
      simp only [toC] at h1
      split at h1
      · cases h1
        exact ownL_cons0 (own_nil _) (zcs t h2)
      · cases h1
    · cases h
  | _, _, d :: ds, cs, .oth v _ t, h => by simp [toCs, toC] at h
theorem val_make (hT : ∀ t i, get T t = some i → TOk P t i) {n : Nat} {o : Oper} (hd : ∀ d, o.dst = some d → d < n) {σ : St} {t et id : Nat} {ie : TI} {e : Ty} (hu : P.underlying t = some (.slice et)) (hie : TOk P et ie) (hsz : ie.sz = szE e) (hby : ie.by_ = byE e) (het : et = etOf e) (hid : get σ.hp id = none) {x y : Operand} (ho : o.op = .makeSlice t x y)
    {ds : List C} (hz : toCs (fun _ => none) ds ie.z = some (cells e (dflt e))) {m : Int} (hx : ev σ x = .c (.int .i64 m)) (hy : ev σ y = .c (.int .i64 m)) (h0 : 0 ≤ m) (hb : m * byE e ≤ 140737488355328) {ob : Ob} (hob : ob = .row e (List.replicate m.toNat (dflt e)) ∨ ob = .dp e (List.replicate m.toNat (dflt e))) : Val P n o σ (σ.upd o.dst (.rw id) [(id, ob)]) :=
  new_row hd hid hob fun {w0 L0 F0 F V B a w} hs => by
    subst het
    obtain ⟨k, rfl⟩ := Int.eq_ofNat_of_zero_le h0
    obtain ⟨yy, z, hy', hys, hyb, hyz, hzo, hzs⟩ := hie.inf
    have hxv := rep_int (by rw [← hx]; exact hs.rep x)
    have hyv := rep_int (by rw [← hy]; exact hs.rep y)
    have hbp := byE_pos e
    have hkb : k * byE e ≤ 140737488355328 := by
      have : ((k * byE e : Nat) : Int) ≤ 140737488355328 := by simpa using hb
      omega
    have hk : k ≤ 140737488355328 := Nat.le_trans (Nat.le_mul_of_pos_right _ hbp) hkb
    have hcells : (madeCells z.cells (k * szE e)).toList = rep k z.cells.toList := by
      have : szE e = z.cells.size := by rw [hzs, hsz]
      rw [this]
      exact rep_toList z.cells k
    have hzcl : ∀ {w : World}, OwnL w z.cells.toList (cells e (dflt e)) [] := zcs hzo hz
    obtain ⟨w', hrun, hown, hg⟩ := run_make_full (P := P) w 0 t (etOf e) yy z (szE e) hu hy' hyz (by rw [hys, hsz]) .i64 .i64 k (by rw [hyb, hby, Nat.mul_comm]; omega) (by simp only [maxLen]; omega) (Nat.zero_le _)
    refine ⟨.slice (some ⟨w.heap.size, 0, none⟩) k k, w', _, ?_, by simpa using hown, ?_, by simpa using hkb, hg, fun b hb => by obtain rfl := blk_sl hb; exact Nat.le_refl _⟩
    · simp [execOp, ho, hxv, hyv, hrun]
    · rw [hcells]
      simp only [Int.toNat_natCast]
      rw [rep_flat]
      exact rep_L hzcl k
theorem list_drop_flat (e : Ty) : ∀ (k : Nat) (xs : List (El e)), (xs.drop k).flatMap (cells e) = (xs.flatMap (cells e)).drop (k * szE e)
  | 0, xs => by simp
  | k + 1, [] => by simp
  | k + 1, x :: xs => by
    rw [List.drop_succ_cons, list_drop_flat e k xs, List.flatMap_cons, Nat.succ_mul, Nat.add_comm, ← List.drop_drop, List.drop_left' (cells_len e x)]
theorem list_take_flat (e : Ty) : ∀ (k : Nat) (xs : List (El e)), (xs.take k).flatMap (cells e) = (xs.flatMap (cells e)).take (k * szE e)
  | 0, xs => by simp
  | k + 1, [] => by simp
  | k + 1, x :: xs => by
    rw [List.take_succ_cons, List.flatMap_cons, list_take_flat e k xs, List.flatMap_cons, Nat.succ_mul, Nat.add_comm, show szE e + k * szE e = (cells e x).length + k * szE e from by rw [cells_len], List.take_length_add_append]
theorem CellsAt.take {w : World} {a : Addr} {us : List Value} (h : CellsAt w a us) (n : Nat) : CellsAt w a (us.take n) := by
  intro j u hj
  rw [List.getElem?_take] at hj
  split at hj
  · exact h j u hj
  · cases hj
theorem CellsAt.drop {w : World} {a : Addr} {us : List Value} (h : CellsAt w a us) (o : Nat) : CellsAt w (a.add o) (us.drop o) := by
  intro j u hj
  rw [addr_add]
  exact h _ _ (by simpa using hj)
/-- x[l:r] of what is only read. -/
theorem RepC.cut {F : Nat → Prop} {w : World} {e : Ty} {xs : List (El e)} {A0 : Option Addr} {c : Nat} (h : RepC F w (.slice A0 xs.length c) (.sl e xs)) {l r : Nat} (hl : l ≤ r) (hr : r ≤ xs.length) : RepC F w (.slice (if c = l then A0 else A0.map (·.add (l * szE e))) (r - l) (c - l)) (.sl e ((xs.take r).drop l)) := by
  generalize hv : Value.slice A0 xs.length c = v at h
  cases h with
  | sl _ _ A1 c1 us hc hb hA hrr =>
    injection hv with hv1 hv2 hv3
    subst hv1
    subst hv3
    have hlen : ((xs.take r).drop l).length = r - l := by simp; omega
    have hrep : RepL F w ((us.take (r * szE e)).drop (l * szE e)) (((xs.take r).drop l).flatMap (cells e)) := by
      rw [list_drop_flat, list_take_flat]
      exact (hrr.take _).drop _
    have key := RepC.sl (F := F) (w := w) e ((xs.take r).drop l) (if c = l then A0 else A0.map (·.add (l * szE e))) (c - l) _ (by rw [hlen]; omega) (by
      rw [hlen]
      exact Nat.le_trans (Nat.mul_le_mul_right _ (by omega)) hb) (fun hp => by
      rw [hlen] at hp
      obtain ⟨ad, rfl, hF, hcl⟩ := hA (by omega)
      rw [if_neg (by omega)]
      exact ⟨ad.add (l * szE e), rfl, by rw [addr_block]; exact hF, (hcl.take _).drop _⟩) hrep
    rwa [hlen] at key
theorem run_sliceAt_row {w : World} {t et : Nat} {ie : TI} (hu : P.underlying t = some (.slice et)) (hie : TOk P et ie) {A0 : Option Addr} {m c : Nat} {lo hi : Option Int} {l r : Int} (hl : lo.getD 0 = l) (hr : hi.getD m = r) (h0 : 0 ≤ l) (h1 : l ≤ r) (h2 : r ≤ m) (hc : m ≤ c) {kl kh : Int → IntKind} :
    (Instr.sliceAt t (.slice A0 m c) (lo.map fun n => .int (kl n) n) (hi.map fun n => .int (kh n) n) none).run P w = .ok (.slice (if c = l.toNat then A0 else A0.map (·.add (l.toNat * ie.sz))) (r.toNat - l.toNat) (c - l.toNat)) w := by
  subst hl
  subst hr
  cases lo <;> cases hi <;> simp only [Option.map_none, Option.map_some, Option.getD_none, Option.getD_some] at *
  · simp [Instr.sliceAt, Instr.slice, run_underlying hu, Instr.sliceBounds, size_of hie]
  · rename_i hi
    have h3 : hi ≤ c := by omega
    simp [Instr.sliceAt, Instr.slice, run_underlying hu, Instr.sliceBounds, Instr.sliceBound, asIntOf, size_of hie, h1, h3]
  · rename_i lo
    have h3 : lo ≤ m := by omega
    simp [Instr.sliceAt, Instr.slice, run_underlying hu, Instr.sliceBounds, Instr.sliceBound, asIntOf, size_of hie, h0, h3]
  · rename_i lo hi
    have h3 : hi ≤ c := by omega
    have h4 : lo ≤ hi.toNat := by omega
    have h5 : 0 ≤ hi := by omega
    have h6 : ¬ max hi 0 < lo := by omega
    simp [Instr.sliceAt, Instr.slice, run_underlying hu, Instr.sliceBounds, Instr.sliceBound, asIntOf, size_of hie, h0, h3, h4, h5, h6]
theorem isVw_some {h : Nat → Option Ob} {a : A} {i z b o n : Nat} (hv : isVw h a = some (i, z, b, o, n)) : a = .rw i ∧ h i = some (.vw z b o n) := by
  unfold isVw at hv
  split at hv
  · split at hv
    · rename_i hg; cases hv; exact ⟨rfl, hg⟩
    · cases hv
  · cases hv
theorem isVw_congr {h h' : Nat → Option Ob} {a : A} (hh : ∀ id ∈ rdOf a, h id = h' id) : isVw h a = isVw h' a := by
  unfold isVw
  split
  · rename_i id; rw [hh id (by simp [rdOf])]
  · rfl
section
variable {n : Nat} {w0 : World} {L0 : Old} {F0 F : Nat → Prop} {V : Nat → Value} {B : Nat → List Nat} {σ : St} {a : Act} {w : World}
theorem rw_rep (hs : Sim n w0 L0 F0 F V B σ a w) {x : Operand} {i : Nat} (hx : ev σ x = .rw i) : a.eval x = V i := by
  have h1 := hs.rep x
  rw [hx] at h1
  generalize a.eval x = pv at h1
  cases h1
  rfl
theorem vw_rep (hs : Sim n w0 L0 F0 F V B σ a w) {i z b o m : Nat} (hg : get σ.hp i = some (.vw z b o m)) : ∃ g p N C, V i = .slice (some ⟨g, p, none⟩) m (C - o) ∧ (o < C → p = o * z) ∧ V b = .slice (some ⟨g, 0, none⟩) N C ∧ o + m ≤ C := by
  have hob := hs.hp.ob _ _ hg
  cases hob with | vw _ _ _ _ g p N C hV hp hb hn => exact ⟨g, p, N, C, hV, hp, hb, hn⟩
theorem row_base (hs : Sim n w0 L0 F0 F V B σ a w) {b : Nat} {e : Ty} {xs : List (El e)} (hg : get σ.hp b = some (.row e xs)) (hpos : 0 < xs.length) : ∃ g C cur us, V b = .slice (some ⟨g, 0, none⟩) xs.length C ∧ 0 < C ∧ w.heap[g]? = some (.cells cur (etOf e) (0, 0)) ∧ xs.length ≤ C ∧ C ≤ maxLen ∧ cur.size = C * szE e ∧ cur.toList.take (xs.length * szE e) = us ∧ us.length = xs.length * szE e ∧ RepL F w us (xs.flatMap (cells e)) ∧ xs.length * byE e ≤ 140737488355328 := by
  have hob := hs.hp.ob _ _ hg
  cases hob with
  | row _ _ us ho hr hb =>
    obtain ⟨hl, ⟨a, h1, h2⟩ | ⟨g, cap, cur, h1, h2, h3, h4, h5, h6⟩⟩ := ho
    · omega
    · exact ⟨g, cap + 1, cur, us, h1, by omega, h2, h3, h4, h5, h6, hl, hr, hb⟩
end
end Go.Proofs.YthbpdhppelaihaaGreat
