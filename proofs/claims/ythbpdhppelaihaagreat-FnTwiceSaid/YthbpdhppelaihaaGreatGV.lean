/- More operations: parts of rows, zeros appended, nil asked for, structs compared, rows frozen for a call. Conditions: none. -/
import Derived.Test.YthbpdhppelaihaaGreatG5
import Derived.Lib.AppendZeros
set_option linter.unusedVariables false
set_option linter.unusedSimpArgs false
namespace Go.Proofs.YthbpdhppelaihaaGreat
open Go.RowKit
variable {P : Program} {T : List (Nat × TI)}
theorem run_sliceAt_cap {w : World} {t et : Nat} {ie : TI} (hu : P.underlying t = some (.slice et)) (hie : TOk P et ie) {A0 : Option Addr} {m c : Nat} {lo hi : Option Int} {l r : Int} (hl : lo.getD 0 = l) (hr : hi.getD m = r) (h0 : 0 ≤ l) (h1 : l ≤ r) (h2 : r ≤ c) {kl kh : Int → IntKind} :
 (Instr.sliceAt t (.slice A0 m c) (lo.map fun n => .int (kl n) n) (hi.map fun n => .int (kh n) n) none).run P w = .ok (.slice (if c = l.toNat then A0 else A0.map (·.add (l.toNat * ie.sz))) (r.toNat - l.toNat) (c - l.toNat)) w := by
 subst hl
 subst hr
 cases lo <;> cases hi <;> simp only [Option.map_none, Option.map_some, Option.getD_none, Option.getD_some] at *
 · simp [Instr.sliceAt, Instr.slice, run_underlying hu, Instr.sliceBounds, size_of hie]
 · rename_i hi
   have h3 : hi ≤ c := by omega
   simp [Instr.sliceAt, Instr.slice, run_underlying hu, Instr.sliceBounds, Instr.sliceBound, asIntOf, size_of hie, h1, h3]
 · rename_i lo
   have h3 : lo ≤ m := by omega
   simp [Instr.sliceAt, Instr.slice, run_underlying hu, Instr.sliceBounds, Instr.sliceBound, asIntOf, size_of hie, h0, h3]
 · rename_i lo hi
   have h3 : hi ≤ c := by omega
   have h4 : lo ≤ hi.toNat := by omega
   have h5 : 0 ≤ hi := by omega
   have h6 : ¬ max hi 0 < lo := by omega
   simp [Instr.sliceAt, Instr.slice, run_underlying hu, Instr.sliceBounds, Instr.sliceBound, asIntOf, size_of hie, h0, h3, h4, h5, h6]
theorem val_newv {n : Nat} {o : Oper} (hd : ∀ d, o.dst = some d → d < n) {σ : St} {nid : Nat} {ob : Ob} (hnid : get σ.hp nid = none) (how : ∀ V B b, ¬ owns ((nid, ob) :: σ.hp) V B nid b)
 (h : ∀ {w0 : World} {L0 : Old} {F0 F : Nat → Prop} {V : Nat → Value} {B : Nat → List Nat} {a : Act} {w : World}, Sim n w0 L0 F0 F V B σ a w → ∃ v, (execOp a.eval o).run P w = .ok (.value v) w ∧ v.oneCell' = true ∧ ObR F (updV V nid v) B w nid ob ∧ obIds (Def ((nid, ob) :: σ.hp)) ob) :
 Val P n o σ (σ.upd o.dst (.rw nid) [(nid, ob)]) := by
 intro w0 L0 F0 F V B a w hs K Q hK
 obtain ⟨v, hrun, hv1, hob, hids⟩ := h hs
 have hnew := hs.new (id := nid) hnid (v := v) hv1 (o := ob) (w' := w) rfl rfl rfl (Nat.le_refl _) (B' := B) (fun _ _ => rfl) (fun _ _ => rfl) hob hids (fun b hb => (how _ _ b hb).elim)
 have hput := hnew.putd hd (v := v) (r := .rw nid) (by have := RepA.rw (F := F) (V := updV V nid v) (w := w) nid; simpa [updV] using this) (by simp [A.all, Def, get_cons]) (σ.nx + 1)
 unfold Oper.wp
 rw [hrun]
 exact hK _ _ _ _ _ hput
theorem owns_vw {nid z b o n : Nat} {hp : Hp} {V : Nat → Value} {B : Nat → List Nat} {g : Nat} : ¬ owns ((nid, .vw z b o n) :: hp) V B nid g := by
 unfold owns
 rw [get_cons, if_pos rfl]
 exact fun h => h
theorem owns_mb {nid : Nat} {t : Bool} {hp : Hp} {V : Nat → Value} {B : Nat → List Nat} {g : Nat} : ¬ owns ((nid, .mb t) :: hp) V B nid g := by
 unfold owns
 rw [get_cons, if_pos rfl]
 exact fun h => h
theorem val_sliceV (hT : ∀ t i, get T t = some i → TOk P t i) {n : Nat} {o : Oper} (hd : ∀ d, o.dst = some d → d < n) {σ : St} {t et : Nat} {ie : TI} {e : Ty} (hu : P.underlying t = some (.slice et)) (hie : TOk P et ie) (hsz : ie.sz = szE e) {x : Operand} {lo hi : Option Operand} (ho : o.op = .slice t x lo hi none)
 {xs : List (El e)} {b off m nid : Nat} (hg : get σ.hp b = some (.row e xs)) (hnid : get σ.hp nid = none)
 (hx : (ev σ x = .rw b ∧ off = 0 ∧ m = xs.length) ∨ ∃ i, ev σ x = .rw i ∧ get σ.hp i = some (.vw (szE e) b off m)) {l r : Int} (hl : iOf 0 (lo.map (ev σ)) = some l) (hr : iOf m (hi.map (ev σ)) = some r) (hb : 0 ≤ l ∧ l ≤ r ∧ off + r.toNat ≤ xs.length ∧ 0 < xs.length) :
 Val P n o σ (σ.upd o.dst (.rw nid) [(nid, .vw (szE e) b (off + l.toNat) (r.toNat - l.toNat))]) := by
 refine val_newv hd hnid (fun _ _ _ => owns_vw) fun {w0 L0 F0 F V B a w} hs => ?_
 obtain ⟨g, C, cur, us, hV, hC, hh, hle, _⟩ := row_base hs hg hb.2.2.2
 have key : ∃ p, a.eval x = .slice (some ⟨g, p, none⟩) m (C - off) ∧ (off < C → p = off * szE e) := by
  rcases hx with ⟨h1, rfl, rfl⟩ | ⟨i, h1, h2⟩
  · exact ⟨0, by rw [rw_rep hs h1]; exact hV, fun _ => by simp⟩
  · obtain ⟨g', p, N, C', h3, h4, h5, h6⟩ := vw_rep hs h2
    rw [hV] at h5
    cases h5
    exact ⟨p, by rw [rw_rep hs h1]; exact h3, h4⟩
 obtain ⟨p, hxe, hp⟩ := key
 obtain ⟨ml, kl, hml, hgl⟩ := iOf_some hl hs.rep
 obtain ⟨mh, kh, hmh, hgh⟩ := iOf_some hr hs.rep
 have hrun := run_sliceAt_cap (P := P) (w := w) hu hie (A0 := some ⟨g, p, none⟩) (m := m) (c := C - off) hgl hgh hb.1 hb.2.1 (by omega) (kl := kl) (kh := kh)
 rw [hsz] at hrun
 refine ⟨_, by simp only [execOp, ho, hml, hmh, hxe, Option.map_none]; simp [hrun]; rfl, rfl, ?_, ?_⟩
 · have hne : b ≠ nid := by rintro rfl; rw [hg] at hnid; cases hnid
   refine .vw (szE e) b _ _ g (if C - off = l.toNat then p else p + l.toNat * szE e) xs.length C ?_ (fun h => ?_) (by simp only [updV]; rw [if_neg hne]; exact hV) (by omega)
   · simp only [updV, if_true]
     split <;> simp [add_at', Nat.sub_sub]
   · rw [if_neg (by omega), hp (by omega), Nat.add_mul]
 · show (get ((nid, _) :: σ.hp) b).isSome = true
   rw [get_cons]
   split
   · rfl
   · rw [hg]; rfl
theorem val_nilQ {n : Nat} {o : Oper} (hd : ∀ d, o.dst = some d → d < n) (hT : ∀ t i, get T t = some i → TOk P t i) {σ : St} {t t' : TypeId} {x y : Operand} {nid : Nat} (ho : o.op = .binOp .eql t x y t') (hnid : get σ.hp nid = none) {e : Ty} {xs : List (El e)} (hx : isRowD (get σ.hp) (ev σ x) = some ⟨e, xs⟩) (hy : ev σ y = .nl) (ht : ∃ et, P.underlying t = some (.slice et)) :
 Val P n o σ (σ.upd o.dst (.rw nid) [(nid, .mb xs.isEmpty)]) := by
 refine val_newv hd hnid (fun _ _ _ => owns_mb) fun {w0 L0 F0 F V B a w} hs => ?_
 obtain ⟨et, ht⟩ := ht
 obtain ⟨A0, c, h1, h2⟩ := isRowD_nn hs (h := get σ.hp) (fun _ _ => rfl) hx
 have h3 := hs.rep y
 rw [hy] at h3
 generalize hyv : a.eval y = yv at h3
 cases h3
 refine ⟨.bool A0.isNone, ?_, rfl, .mb _ A0.isNone (by simp [updV]) (fun h => ?_), trivial⟩
 · have heq : (Op.equal t (.slice A0 xs.length c) (.slice none 0 0)).run P w = .ok A0.isNone w := by
    show (Op.equalIn (9999 + 1) t _ _).run P w = _
    unfold Op.equalIn
    cases A0 <;> simp [run_underlying ht]
   simp only [execOp, ho, h1, hyv]
   have hg : eqGuard .eql t x y (.slice A0 xs.length c) (.slice none 0 0) = pure () := by unfold eqGuard; rfl
   rw [hg]
   simp [binOp, heq]
 · cases hxs : xs with
   | nil => rfl
   | cons z zs =>
     obtain ⟨ad, h5⟩ := h2 (by simp [hxs])
     rw [h5] at h; simp at h
theorem RepAs.cI {F : Nat → Prop} {V : Nat → Value} {w : World} : ∀ {l l' : List A} {b : Bool} {us : List Value}, sameI l l' = some b → RepAs F V w us l → us = cellsI l
 | [], [], _, _, _, .nil => rfl
 | [], _ :: _, _, _, h, _ => by simp [sameI] at h
 | a :: l, l', b, _, h, .cons hv ht => by
   unfold sameI at h
   split at h
   · exact absurd ‹a :: l = []› (by simp)
   · rename_i x l0 y l1 heq1
     injection heq1 with e1 e2
     subst e1
     subst e2
     split at h
     · rename_i t h2
       rw [rep_int hv, RepAs.cI h2 ht]
       rfl
     · cases h
   · cases h
theorem sameI_symm : ∀ {l l' : List A} {b : Bool}, sameI l l' = some b → ∃ b', sameI l' l = some b'
 | [], [], _, _ => ⟨true, rfl⟩
 | [], _ :: _, _, h => by simp [sameI] at h
 | a :: l, l', b, h => by
   unfold sameI at h
   split at h
   · exact absurd ‹a :: l = []› (by simp)
   · rename_i x l0 y l1 heq1
     injection heq1 with e1 e2
     subst e1
     subst e2
     split at h
     · rename_i t h2
       obtain ⟨b', h3⟩ := sameI_symm h2
       exact ⟨_, by simp only [sameI, h3]; rfl⟩
     · cases h
   · cases h
theorem ag_rep {F : Nat → Prop} {V : Nat → Value} {w : World} {v : Value} {l : List A} (h : RepA F V w v (.ag l)) : ∃ us, v = .agg us.toArray ∧ RepAs F V w us l := by
 cases h with | ag h _ => exact ⟨_, rfl, h⟩
theorem snd_struct {n : Nat} {o : Oper} (hd : ∀ d, o.dst = some d → d < n) {σ : St} {t t' : TypeId} {x y : Operand} {op : BinOp} (hop : op = .eql ∨ op = .neq) (ho : o.op = .binOp op t x y t') {l l' : List A} (hx : ev σ x = .ag l) (hy : ev σ y = .ag l') {b : Bool} (hb : sameI l l' = some b) (hq : EqT P t l.length) :
 Val P n o σ (σ.upd o.dst (.c (.bool (match op with | .eql => b | _ => !b))) []) :=
 val_pure hd fun {w0 L0 F0 F V B a w} hs => by
  obtain ⟨us, h1, h2⟩ := ag_rep (by rw [← hx]; exact hs.rep x)
  obtain ⟨us', h3, h4⟩ := ag_rep (by rw [← hy]; exact hs.rep y)
  obtain ⟨b', hb'⟩ := sameI_symm hb
  have e1 := RepAs.cI hb h2
  have e2 := RepAs.cI hb' h4
  subst e1
  subst e2
  obtain ⟨h5, h6⟩ := hq l l' b w rfl hb
  have h7 := h6 x y op
  rcases hop with rfl | rfl
  · exact ⟨⟨.bool b, by simp only [execOp, ho, h1, h3]; simp [h7, binOp, h5], .c (.bool _)⟩, by simp [A.all]⟩
  · exact ⟨⟨.bool (!b), by simp only [execOp, ho, h1, h3]; simp [h7, binOp, h5], .c (.bool _)⟩, by simp [A.all]⟩
theorem flat_take (e : Ty) (xs : List (El e)) (o : Nat) (h : o ≤ xs.length) : (xs.flatMap (cells e)).take (o * szE e) = (xs.take o).flatMap (cells e) := by
 conv => lhs; rw [← List.take_append_drop o xs, List.flatMap_append]
 have hl : ((xs.take o).flatMap (cells e)).length = o * szE e := by rw [flat_len, List.length_take, Nat.min_eq_left h]
 rw [List.take_left' hl]
theorem flat_drop (e : Ty) (xs : List (El e)) (o : Nat) (h : o ≤ xs.length) : (xs.flatMap (cells e)).drop (o * szE e) = (xs.drop o).flatMap (cells e) := by
 conv => lhs; rw [← List.take_append_drop o xs, List.flatMap_append]
 have hl : ((xs.take o).flatMap (cells e)).length = o * szE e := by rw [flat_len, List.length_take, Nat.min_eq_left h]
 rw [List.drop_left' hl]
theorem spl_flatm (e : Ty) (xs ys : List (El e)) (o : Nat) (h : o + ys.length ≤ xs.length) : spl (xs.flatMap (cells e)) (o * szE e) (ys.flatMap (cells e)) = (xs.take o ++ (ys ++ xs.drop (o + ys.length))).flatMap (cells e) := by
 rw [spl_eq (by rw [flat_len, flat_len, ← Nat.add_mul]; exact Nat.mul_le_mul_right _ h), flat_len, ← Nat.add_mul, flat_take e xs o (by omega), flat_drop e xs _ h, List.flatMap_append, List.flatMap_append]
theorem Sim.rewrite {n : Nat} {w0 : World} {L0 : Old} {F0 F : Nat → Prop} {V : Nat → Value} {B : Nat → List Nat} {σ : St} {a : Act} {w : World} (hs : Sim n w0 L0 F0 F V B σ a w) {b : Nat} {e : Ty} {xs ys : List (El e)} (hg : get σ.hp b = some (.row e xs)) {g C : Nat} {cur : Array Value} {us vs : List Value} (hV : V b = .slice (some ⟨g, 0, none⟩) xs.length C) (hC : 0 < C) (hh : w.heap[g]? = some (.cells cur (etOf e) (0, 0)))
 (hle : xs.length ≤ C) (hm : C ≤ maxLen) (hcs : cur.size = C * szE e) (htk : cur.toList.take (xs.length * szE e) = us) (hul : us.length = xs.length * szE e) (hr : RepL F w us (xs.flatMap (cells e))) (hb : xs.length * byE e ≤ 140737488355328) (hvl : RepL F w vs (ys.flatMap (cells e))) {o : Nat} (hon : o + ys.length ≤ xs.length) {w' : World}
 (hgw : w'.heap[g]? = some (.cells (spl cur.toList (o * szE e) vs).toArray (etOf e) (0, 0))) (hoth : ∀ k, k ≠ g → w'.heap[k]? = w.heap[k]?) (hsz : w'.heap.size = w.heap.size) (hos : w'.os = w.os) (htp : w'.tape = w.tape) (hou : w'.output = w.output) :
 Sim n w0 L0 F0 F V B { σ with hp := (b, .row e (xs.take o ++ (ys ++ xs.drop (o + ys.length)))) :: σ.hp } a w' := by
 have howns : owns σ.hp V B b g := by
  unfold owns; rw [hg, hV]
  cases C with
  | zero => omega
  | succ C => rfl
 have hF : ∀ k, F k → w'.heap[k]? = w.heap[k]? := fun k hk => hoth k (fun e => hs.hp.nF b g howns (e ▸ hk))
 have hlen : (xs.take o ++ (ys ++ xs.drop (o + ys.length))).length = xs.length := by simp; omega
 refine hs.step (fun k => k = b) hos htp hou (fun k hk hno => hoth k (fun e => hno b rfl (e ▸ howns))) (Nat.le_of_eq hsz.symm) (fun _ _ => rfl) (fun _ _ _ => rfl) (fun b hb => hb) (fun b hb => .inl hb) (fun b hb => by rw [hsz]; exact hs.F_lt b hb) hs.V1 (fun k hk => get_upd1 k hk) (fun k hk => def_upd1 hk) (fun k o' hk ho' => ?_) (fun k b hk ho' => ?_) (fun k k' b hk hk' _ _ => by rw [hk, hk'])
 · subst hk
   rw [get_cons, if_pos rfl] at ho'
   cases ho'
   refine ⟨.row e _ (spl us (o * szE e) vs) ?_ ?_ (by rw [hlen]; exact hb), trivial⟩
   · rw [hlen]
     refine ⟨by rw [spl_length]; exact hul, .inr ⟨g, C - 1, (spl cur.toList (o * szE e) vs).toArray, by rw [hV]; congr; omega, hgw, by omega, by omega, ?_, ?_⟩⟩
     · rw [List.size_toArray, spl_length, Array.length_toList, hcs]; congr; omega
     · rw [spl_take, htk]
   · rw [← spl_flatm e xs ys o hon]
     exact (hr.move (fun _ h => h) hF).spl (hvl.move (fun _ h => h) hF) _
 · subst hk
   unfold owns at ho'
   rw [get_cons, if_pos rfl] at ho'
   have ho2 : owns σ.hp V B k b := by unfold owns; rw [hg]; exact ho'
   exact ⟨by rw [hsz]; exact hs.hp.lt k b ho2, hs.hp.nF k b ho2, .inr ⟨k, rfl, ho2⟩⟩
theorem val_appZ (hT : ∀ t i, get T t = some i → TOk P t i) {n : Nat} {o : Oper} (hd : ∀ d, o.dst = some d → d < n) {σ : St} {t tn et id : Nat} {ie : TI} {e : Ty} (hu : P.underlying t = some (.slice et)) (hie : TOk P et ie) (hsz : ie.sz = szE e) (hby : ie.by_ = byE e) (het : et = etOf e) (hid : get σ.hp id = none) {x y : Operand} (htn : P.underlying tn = some (.int .i64)) (ho : o.op = .call { callee := .builtin .append, args := #[x, y], argTypes := #[t, tn] })
 {ds : List C} (hz : toCs (fun _ => none) ds ie.z = some (cells e (dflt e))) {m : Int} (hx : ev σ x = .nl) (hy : ev σ y = .c (.int .i64 m)) (h0 : 0 < m) (hb : m * byE e ≤ 140737488355328) : Val P n o σ (σ.upd o.dst (.rw id) [(id, .row e (List.replicate m.toNat (dflt e)))]) :=
 new_row hd hid (.inl rfl) fun {w0 L0 F0 F V B a w} hs => by
  subst het
  obtain ⟨k, rfl⟩ := Int.eq_ofNat_of_zero_le (Int.le_of_lt h0)
  obtain ⟨yy, z, hy', hys, hyb, hyz, hzo, hzs⟩ := hie.inf
  have hxv : a.eval x = .slice none 0 0 := by
   have h3 := hs.rep x
   rw [hx] at h3
   generalize a.eval x = yv at h3
   cases h3; rfl
  have hyv := rep_int (by rw [← hy]; exact hs.rep y)
  have hbp := byE_pos e
  have hsp := szE_pos e
  have hkb : k * byE e ≤ 140737488355328 := by
   have : ((k * byE e : Nat) : Int) ≤ 140737488355328 := by simpa using hb
   omega
  have hk : k ≤ 140737488355328 := Nat.le_trans (Nat.le_mul_of_pos_right _ hbp) hkb
  have hz0 : ∀ k, (Builtin.zeroCells z.cells k).toList = rep k z.cells.toList := fun k => rep_toList z.cells k
  have hzcl : ∀ {w : World}, OwnL w z.cells.toList (cells e (dflt e)) [] := zcs hzo hz
  have hge := grownCap_ge w k 0 (etOf e)
  have hcm : grownCap w k 0 (etOf e) ≤ maxLen := grownCap_le_maxLen w k 0 (etOf e) (by simp only [maxLen]; omega)
  have hrun := Lib.run_append_nil_zeros (P := P) w t tn o.type (etOf e) yy z .i64 .i64 hu htn hy' hyz k (by omega) (by omega) (by omega) (by rw [hyb, hby]; omega)
  have hlk : (rep k z.cells.toList).length = k * szE e := by rw [← hz0]; simp [size_zeroCells, hzs, hsz]
  have hg : w.grownBy (w.drew.alloc (.cells (Builtin.zeroCells z.cells k ++ Builtin.zeroCells z.cells (grownCap w k 0 (etOf e) - k)) (etOf e))) none := ⟨rfl, rfl, rfl, by simp, fun b hb _ => alloc_old w.drew _ b hb⟩
  refine ⟨.slice (some ⟨w.heap.size, 0, none⟩) k (grownCap w k 0 (etOf e)), w.drew.alloc (.cells (Builtin.zeroCells z.cells k ++ Builtin.zeroCells z.cells (grownCap w k 0 (etOf e) - k)) (etOf e)), rep k z.cells.toList, ?_, ?_, ?_, by simpa using hkb, hg, fun b hb => by obtain rfl := blk_sl hb; exact Nat.le_refl _⟩
  · simp only [execOp, ho, resolve, invoke, builtin]
    simp [hxv, hyv, hrun]
  · refine ⟨by simp [hlk], .inr ⟨w.heap.size, _, Builtin.zeroCells z.cells k ++ Builtin.zeroCells z.cells (grownCap w k 0 (etOf e) - k), by simp, Nat.zero_le _, heap_alloc_new w.drew _, by simpa using hge, hcm, ?_, ?_⟩⟩
    · rw [Array.size_append, size_zeroCells, size_zeroCells, ← Nat.add_mul, Nat.add_sub_cancel' hge, hzs, hsz]
    · rw [Array.toList_append, hz0]
      simp only [Int.toNat_natCast, List.length_replicate]
      rw [List.take_left' hlk]
  · simp only [Int.toNat_natCast]
    rw [rep_flat]
    exact rep_L hzcl k
theorem val_clear (hT : ∀ t i, get T t = some i → TOk P t i) {n : Nat} {o : Oper} (hd : ∀ d, o.dst = some d → d < n) {σ : St} {t et : Nat} {ie : TI} {e : Ty} (hu : P.underlying t = some (.slice et)) (hie : TOk P et ie) (hsz : ie.sz = szE e) (het : et = etOf e) {x : Operand} (ho : o.op = .call { callee := .builtin .clear, args := #[x], argTypes := #[t] })
 {ds : List C} (hz : toCs (fun _ => none) ds ie.z = some (cells e (dflt e))) {i b off m : Nat} {xs : List (El e)} (hx : ev σ x = .rw i) (hi : get σ.hp i = some (.vw (szE e) b off m)) (hg : get σ.hp b = some (.row e xs)) (hon : off + m ≤ xs.length) :
 Val P n o σ (σ.upd o.dst (.tp []) [(b, .row e (xs.take off ++ (List.replicate m (dflt e) ++ xs.drop (off + m))))]) := by
 intro w0 L0 F0 F V B a w hs K Q hK
 subst het
 obtain ⟨g', p, N, C', hV, hp, hVb, hC⟩ := vw_rep hs hi
 obtain ⟨yy, z, hy', hys, hyb, hyz, hzo, hzs⟩ := hie.inf
 have hxe := (rw_rep hs hx).trans hV
 have hz0 : ∀ k, (Builtin.zeroCells z.cells k).toList = rep k z.cells.toList := fun k => rep_toList z.cells k
 have hzcl : ∀ {w : World}, OwnL w z.cells.toList (cells e (dflt e)) [] := zcs hzo hz
 have hlk : (rep m z.cells.toList).length = m * szE e := by rw [← hz0]; simp [size_zeroCells, hzs, hsz]
 by_cases hm : m = 0
 · subst hm
   have e0 : xs.take off ++ (List.replicate 0 (dflt e) ++ xs.drop (off + 0)) = xs := by simp
   rw [e0] at hK
   have hs' : Sim n w0 L0 F0 F V B { σ with hp := (b, .row e xs) :: σ.hp } a w := hs.congr (fun _ => rfl) (fun k => by
    show get ((b, _) :: σ.hp) k = _
    rw [get_cons]
    split
    · rename_i h; subst h; exact hg.symm
    · rfl)
   have hput := hs'.putd hd (v := .tuple #[]) (r := .tp []) (.tp .nil) (by simp [A.all, allL]) (σ.nx + 1)
   unfold Oper.wp
   have hxx : (execOp a.eval o).run P w = .ok (.value (.tuple #[])) w := by
    simp only [execOp, ho, resolve, invoke, builtin]
    simp [hxe, Builtin.clear_, run_underlying hu]
   rw [hxx]
   exact hK _ _ _ _ _ hput
 · obtain ⟨g, C, cur, us, hVb2, hC0, hh, hle, hmx, hcs, htk, hul, hr, hbb⟩ := row_base hs hg (by omega)
   rw [hVb] at hVb2
   cases hVb2
   have hp' := hp (by omega)
   subst hp'
   have hone : ∀ v ∈ rep m z.cells.toList, v.oneCell' = true := ((rep_L (hzcl (w := w)) m).rep (F := F) (fun b hb => by simp at hb)).one
   obtain ⟨w', hrun, hgw, hoth, hsz', hos, htp, hou⟩ := run_storeCells_ (P := P) g' (etOf e) (rep m z.cells.toList) 0 (off * szE e) w cur.toList (by simpa using hh) hone (by
    rw [hlk, Array.length_toList, hcs, Nat.add_zero, ← Nat.add_mul]
    exact Nat.mul_le_mul_right _ (by omega))
   have hs' := hs.rewrite (ys := List.replicate m (dflt e)) (vs := rep m z.cells.toList) (o := off) hg hVb hC0 hh hle hmx hcs htk hul hr hbb (by rw [rep_flat]; exact (rep_L hzcl m).rep (fun b hb => by simp at hb)) (by simpa using hon) (by simpa using hgw) hoth hsz' hos htp hou
   have hput := hs'.putd hd (v := .tuple #[]) (r := .tp []) (.tp .nil) (by simp [A.all, allL]) (σ.nx + 1)
   unfold Oper.wp
   have hxx : (execOp a.eval o).run P w = .ok (.value (.tuple #[])) w' := by
    obtain ⟨m', rfl⟩ : ∃ m', m = m' + 1 := ⟨m - 1, by omega⟩
    simp only [execOp, ho, resolve, invoke, builtin]
    simp [hxe, Builtin.clear_, run_underlying hu, zeroValue, typeInfo, hy', hyz, hz0, hrun]
   rw [hxx]
   rw [List.length_replicate] at hput
   exact hK _ _ _ _ _ hput
theorem val_appV (hT : ∀ t i, get T t = some i → TOk P t i) {n : Nat} {o : Oper} (hd : ∀ d, o.dst = some d → d < n) {σ : St} {t et : Nat} {ie : TI} {e : Ty} (hu : P.underlying t = some (.slice et)) (hie : TOk P et ie) (hsz : ie.sz = szE e) (het : et = etOf e) {s x : Operand} (ho : o.op = .call { callee := .builtin .append, args := #[s, x], argTypes := #[t, t] })
 {i j b o' n1 n2 nid : Nat} {xs : List (El e)} (hs1 : ev σ s = .rw i) (hi : get σ.hp i = some (.vw (szE e) b 0 n1)) (hx : ev σ x = .rw j) (hj : get σ.hp j = some (.vw (szE e) b o' n2)) (hg : get σ.hp b = some (.row e xs)) (hnid : get σ.hp nid = none) (h1 : n1 + n2 ≤ xs.length) (h2 : o' + n2 ≤ xs.length) (h3 : 0 < xs.length) :
 Val P n o σ (σ.upd o.dst (.rw nid) [(b, .row e (xs.take n1 ++ ((xs.drop o').take n2 ++ xs.drop (n1 + n2)))), (nid, .vw (szE e) b 0 (n1 + n2))]) := by
 intro w0 L0 F0 F V B a w hs K Q hK
 subst het
 obtain ⟨g, C, cur, us, hVb, hC0, hh, hle, hmx, hcs, htk, hul, hr, hbb⟩ := row_base hs hg h3
 obtain ⟨g1, p1, N1, C1, hV1, hp1, hVb1, hC1⟩ := vw_rep hs hi
 obtain ⟨g2, p2, N2, C2, hV2, hp2, hVb2, hC2⟩ := vw_rep hs hj
 rw [hVb] at hVb1 hVb2
 cases hVb1
 cases hVb2
 obtain ⟨yy, z, hy', hys, hyb, hyz, hzo, hzs⟩ := hie.inf
 have hse := (rw_rep hs hs1).trans hV1
 have hxe := (rw_rep hs hx).trans hV2
 have e1 := hp1 hC0
 rw [Nat.zero_mul] at e1
 subst e1
 have hyl : ((xs.drop o').take n2).length = n2 := by simp; omega
 have hrv : RepL F w ((us.drop (o' * szE e)).take (n2 * szE e)) (((xs.drop o').take n2).flatMap (cells e)) := by
  rw [list_take_flat, list_drop_flat]
  exact (hr.drop _).take _
 have hvl : ((us.drop (o' * szE e)).take (n2 * szE e)).length = n2 * szE e := by rw [hrv.length, flat_len, hyl]
 have hcat : ∀ k u, ((us.drop (o' * szE e)).take (n2 * szE e))[k]? = some u → w.cell? ((⟨g, p2, none⟩ : Addr).add k) = some u := fun k u hk => by
  have hlt : k < n2 * szE e := by
   have := (List.getElem?_eq_some_iff.1 hk).1
   omega
  have hn2 : 0 < n2 := by
   rcases Nat.eq_zero_or_pos n2 with h | h
   · subst h; simp at hlt
   · exact h
  rw [hp2 (by omega), add_at']
  rw [List.getElem?_take, if_pos hlt, List.getElem?_drop, ← htk, List.getElem?_take] at hk
  split at hk
  · simp [World.cell?, hh]; simpa using hk
  · cases hk
 have hf := run_firstCells_some (P := P) w ie.sz n2 ⟨g, p2, none⟩ n2 (C - o') _ (by rw [hsz]; exact hvl) hcat
 have hone : ∀ v ∈ ((us.drop (o' * szE e)).take (n2 * szE e)), v.oneCell' = true := hrv.one
 obtain ⟨w', hrun, hgw, hoth, hsz', hos, htp, hou⟩ := run_storeCells_ (P := P) g (etOf e) _ 0 (n1 * szE e) w cur.toList (by simpa using hh) hone (by
  rw [hvl, Array.length_toList, hcs, Nat.add_zero, ← Nat.add_mul]
  exact Nat.mul_le_mul_right _ (by omega))
 have hs' := hs.rewrite (ys := (xs.drop o').take n2) (o := n1) hg hVb hC0 hh hle hmx hcs htk hul hr hbb hrv (by rw [hyl]; exact h1) (by simpa using hgw) hoth hsz' hos htp hou
 rw [hyl] at hs'
 have hne : b ≠ nid := by rintro rfl; rw [hg] at hnid; cases hnid
 have hnew := hs'.new (id := nid) (by show get ((b, _) :: σ.hp) nid = none; rw [get_cons, if_neg hne]; exact hnid) (v := .slice (some ⟨g, 0, none⟩) (n1 + n2) C) rfl (o := .vw (szE e) b 0 (n1 + n2)) (w' := w') rfl rfl rfl (Nat.le_refl _) (B' := B) (fun _ _ => rfl) (fun _ _ => rfl) (.vw _ _ _ _ g 0 xs.length C (by simp [updV]) (by simp) (by simp only [updV]; rw [if_neg hne]; exact hVb) (by omega)) (by
  show (get ((nid, _) :: (b, _) :: σ.hp) b).isSome = true
  rw [get_cons, get_cons]
  split
  · rfl
  · simp) (fun k hk => (owns_vw hk).elim)
 have hput := hnew.putd hd (v := .slice (some ⟨g, 0, none⟩) (n1 + n2) C) (r := .rw nid) (by have := RepA.rw (F := F) (V := updV V nid (.slice (some ⟨g, 0, none⟩) (n1 + n2) C)) (w := w') nid; simpa [updV] using this) (by simp [A.all, Def, get_cons]) (σ.nx + 2)
 unfold Oper.wp
 have hxx : (execOp a.eval o).run P w = .ok (.value (.slice (some ⟨g, 0, none⟩) (n1 + n2) C)) w' := by
  have hroom : n1 + n2 ≤ C := by omega
  rw [hsz] at hf
  simp only [execOp, ho, resolve, invoke, builtin]
  simp [hse, hxe, Builtin.append_, run_underlying hu, sizeOf, typeInfo, hy', hys, hsz, Builtin.lenOf, hroom, hf, add_at', hrun]
 rw [hxx]
 refine hK _ _ _ _ _ (hput.congr (fun t => rfl) (fun k => ?_))
 show get ([(b, _), (nid, _)] ++ σ.hp) k = get ((nid, _) :: ((b, _) :: σ.hp)) k
 simp only [List.cons_append, List.nil_append, get_cons]
 by_cases h1 : b = k
 · subst h1; simp [Ne.symm hne]
 · by_cases h2 : nid = k
   · subst h2; simp [h1]
   · simp [h1, h2]
theorem val_cut {n : Nat} {o : Oper} (hd : ∀ d, o.dst = some d → d < n) {σ : St} {x : Operand} (ho : o.op = .assign x) {i b m nid : Nat} {e : Ty} {xs : List (El e)} (hx : ev σ x = .rw i) (hi : get σ.hp i = some (.vw (szE e) b 0 m)) (hg : get σ.hp b = some (.row e xs)) (hnid : get σ.hp nid = none) (hm : m ≤ xs.length) :
 Val P n o σ (σ.upd o.dst (.rw nid) [(b, .gone), (nid, .row e (xs.take m))]) := by
 intro w0 L0 F0 F V B a w hs K Q hK
 obtain ⟨g, p, N, C, hV, hp, hVb, hC⟩ := vw_rep hs hi
 have hxe := (rw_rep hs hx).trans hV
 have hne : nid ≠ b := by rintro rfl; rw [hg] at hnid; cases hnid
 have hob := hs.hp.ob b _ hg
 cases hob with
 | row _ _ us0 hown0 hr0 hb0 =>
 have hml : (xs.take m).length = m := by simp; omega
 have hbk : ∀ g', blk (.slice (some ⟨g, p, none⟩) m C) = some g' → blk (V b) = some g' := by
  intro g' h
  rw [hVb]
  cases C with
  | zero => simp [blk] at h
  | succ C => simpa [blk] using h
 have hrow : rowR w e (.slice (some ⟨g, p, none⟩) m C) m (us0.take (m * szE e)) := by
  obtain ⟨hl, ⟨a0, h1, h2⟩ | ⟨g0, cap, cur, h1, h2, h3, h4, h5, h6⟩⟩ := hown0
  · rw [hVb] at h1
    cases h1
    obtain rfl : m = 0 := by omega
    exact ⟨by simp, .inl ⟨_, rfl, rfl⟩⟩
  · rw [hVb] at h1
    cases h1
    have := hp (by omega)
    rw [Nat.zero_mul] at this
    subst this
    refine ⟨by rw [List.length_take, hl]; exact Nat.min_eq_left (Nat.mul_le_mul_right _ hm), .inr ⟨g, cap, cur, rfl, h2, by omega, h4, h5, ?_⟩⟩
    rw [← h6, List.take_take, Nat.min_eq_left (Nat.mul_le_mul_right _ hm)]
 have hnew := hs.turn (t := nid) (ks := [b]) (v := .slice (some ⟨g, p, none⟩) m C) (bs := []) (o := .row e (xs.take m)) (w' := w) (by simpa using hne) (fun k hk => by simp at hk; subst hk; unfold Def; rw [hg]; rfl) (.inl hnid) rfl rfl rfl rfl (Nat.le_refl _) (fun _ _ _ => rfl)
  (.row e (xs.take m) (us0.take (m * szE e)) (by rw [hml]; simpa [updV] using hrow) (by rw [list_take_flat]; exact hr0.take _) (by rw [hml]; exact Nat.le_trans (Nat.mul_le_mul_right _ hm) hb0)) trivial (fun g' hb' => by
    unfold owns at hb'
    rw [get_cons, if_pos rfl] at hb'
    simp only [updV, if_true] at hb'
    exact .inr ⟨b, .inr (by simp), by unfold owns; rw [hg]; exact hbk g' hb'⟩)
 have hput := hnew.putd hd (v := .slice (some ⟨g, p, none⟩) m C) (r := .rw nid) (by have := RepA.rw (F := F) (V := updV V nid (.slice (some ⟨g, p, none⟩) m C)) (w := w) nid; simpa [updV] using this) (by simp [A.all, Def, get_cons]) (σ.nx + 2)
 unfold Oper.wp
 have hxx : (execOp a.eval o).run P w = .ok (.value (.slice (some ⟨g, p, none⟩) m C)) w := by simp [execOp, ho, hxe]
 rw [hxx]
 refine hK _ _ _ _ _ (hput.congr (fun t => rfl) (fun k => ?_))
 show get ([(b, Ob.gone), (nid, _)] ++ σ.hp) k = get ((nid, _) :: (kill [b] ++ σ.hp)) k
 simp only [kill, List.cons_append, List.nil_append, get_cons]
 by_cases h1 : b = k
 · subst h1; simp [hne]
 · by_cases h2 : nid = k
   · subst h2; simp [h1]
   · simp [h1, h2]
end Go.Proofs.YthbpdhppelaihaaGreat