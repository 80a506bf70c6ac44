/- The conditions of F4 are sound: stores. Conditions: none. -/
import Derived.Test.YthbpdhppelaihaaG1
set_option linter.unusedVariables false
set_option linter.unusedSimpArgs false
namespace Go.Proofs.Ythbpdhppelaihaa
open Go.RowKit
variable {P : Program} {T : List (Nat × TI)}

theorem spl_left {α : Type} : ∀ (l a b : List α) (o : Nat), o + l.length ≤ a.length → spl (a ++ b) o l = spl a o l ++ b
  | [], _, _, _, _ => rfl
  | x :: l, a, b, o, h => by
    simp only [List.length_cons] at h
    simp only [spl]
    rw [List.set_append_left _ _ (by omega)]
    exact spl_left l (a.set o x) b (o + 1) (by rw [List.length_set]; omega)
theorem spl_right {α : Type} : ∀ (l a b : List α) (o : Nat), spl (a ++ b) (a.length + o) l = a ++ spl b o l
  | [], _, _, _ => rfl
  | x :: l, a, b, o => by
    simp only [spl]
    rw [List.set_append_right _ _ (by omega), Nat.add_sub_cancel_left]
    exact spl_right l a (b.set o x) (o + 1)
theorem spl_take {α : Type} : ∀ (l a : List α) (o m : Nat), (spl a o l).take m = spl (a.take m) o l
  | [], _, _, _ => rfl
  | x :: l, a, o, m => by
    simp only [spl]
    rw [spl_take l, List.take_set]
theorem spl_flat (e : Ty) {o : Nat} {cs : List C} (h : o + cs.length ≤ szE e) {y : El e} : ∀ (xs : List (El e)) (i : Nat) (hi : i < xs.length), cells e y = spl (cells e (xs.getD i (dflt e))) o cs → (xs.set i y).flatMap (cells e) = spl (xs.flatMap (cells e)) (i * szE e + o) cs
  | [], i, hi, _ => by simp at hi
  | x :: xs, 0, hi, hy => by
    simp only [List.getD_cons_zero] at hy
    rw [List.set_cons_zero, List.flatMap_cons, List.flatMap_cons, Nat.zero_mul, Nat.zero_add, spl_left _ _ _ _ (by rw [cells_len]; exact h), hy]
  | x :: xs, i + 1, hi, hy => by
    simp only [List.getD_cons_succ] at hy
    rw [List.set_cons_succ, List.flatMap_cons, List.flatMap_cons, spl_flat e h xs i (by simpa using hi) hy, ← spl_right, cells_len]
    congr 1
    rw [Nat.succ_mul]; omega
theorem allL_set {D : Nat → Prop} {x : A} (hx : x.all D) : ∀ {z : List A}, allL D z → ∀ off, allL D (z.set off x)
  | [], _, _ => by simp [allL]
  | y :: z, hz, off => by
    simp only [allL] at hz
    cases off with
    | zero => simp only [List.set_cons_zero, allL]; exact ⟨hx, hz.2⟩
    | succ off => simp only [List.set_cons_succ, allL]; exact ⟨hz.1, allL_set hx hz.2 off⟩
theorem allL_spl {D : Nat → Prop} : ∀ {l z : List A} {off : Nat}, allL D z → allL D l → allL D (spl z off l)
  | [], _, _, hz, _ => hz
  | x :: l, z, off, hz, hl => by
    simp only [allL] at hl
    show allL D (spl (z.set off x) (off + 1) l)
    exact allL_spl (allL_set hl.1 hz off) hl.2
theorem get_upd1 {hp : Hp} {id : Nat} {ob : Ob} (k : Nat) (hk : k ≠ id) : get ((id, ob) :: hp) k = get hp k := by rw [get_cons, if_neg (fun e => hk e.symm)]
theorem def_upd1 {hp : Hp} {id : Nat} {ob : Ob} {k : Nat} (h : Def hp k) : Def ((id, ob) :: hp) k := by
  unfold Def at *
  rw [get_cons]
  split
  · rfl
  · exact h
/-- A store into a variable of the call's own. -/
theorem val_store_box (hT : ∀ t i, get T t = some i → TOk P t i) {n : Nat} {o : Oper} (hd : ∀ d, o.dst = some d → d < n) {σ : St} {t : Nat} {i : TI} (hi : get T t = some i) {p v : Operand} (ho : o.op = .store t p v) {id o1 : Nat} (hp : ev σ p = .pt id o1) {cs l : List A} (hb : get σ.hp id = some (.box cs)) (hl : cellsA (ev σ v) = some l) (hn : l.length = i.sz) (hle : o1 + i.sz ≤ cs.length) :
    Val P n o σ (σ.upd o.dst .un [(id, .box (spl cs o1 l))]) := by
  intro w0 L0 F0 F V a w hs K Q hK
  have hob := hs.hp.ob id _ hb
  have hids := hs.hp.ids id _ hb
  have hrp := hs.rep p
  rw [hp] at hrp
  generalize hpv : a.eval p = pv at hrp
  obtain ⟨hrl, hl1⟩ := cellsA_rep (hs.rep v) hl (fun id _ => hs.V1 id)
  cases hob with
  | box _ g vs bt hV hg hr h1 =>
    cases hrp with
    | pt _ _ g' hg' =>
      have : g' = g := by rw [hV] at hg'; injection hg' with h; injection h with h; injection h with h; exact h.symm
      subst this
      obtain ⟨w', hrun, hgw, hoth, hsz, hos, htp, hou⟩ := run_storeAt_ (P := P) (hT t i hi) (v := a.eval v) (by rw [← Array.length_toList, hrl.length, hn]) g' o1 bt vs hg hl1 (by rw [hr.length]; exact hle)
      have hown : owns σ.hp V id g' := by unfold owns; rw [hb]; simp [hV, blk]
      have hF : ∀ b, F b → w'.heap[b]? = w.heap[b]? := fun b hb' => hoth b (fun e => hs.hp.nF id g' hown (e ▸ hb'))
      have hst : Sim n w0 L0 F0 F V { σ with hp := (id, .box (spl cs o1 l)) :: σ.hp } a w' := by
        refine hs.step (fun k => k = id) hos htp hou (fun b hb' hno => hoth b (fun e => hno id rfl (e ▸ hown))) (Nat.le_of_eq hsz.symm) (fun _ _ => rfl) (fun b hb => hb) (fun b hb => .inl hb) (fun b hb => by rw [hsz]; exact hs.F_lt b hb) hs.V1 (fun k hk => get_upd1 k hk) (fun k hk => def_upd1 hk) (fun k o' hk ho' => ?_) (fun k b hk ho' => ?_) (fun k k' b hk hk' _ _ => by rw [hk, hk'])
        · subst hk
          rw [get_cons, if_pos rfl] at ho'
          cases ho'
          refine ⟨.box _ g' (spl vs o1 (a.eval v).cells.toList) bt hV hgw ?_ (one_spl h1 hl1 o1), ?_⟩
          · exact (hr.move (fun _ h => h) hF (allL_mono (fun _ _ => rfl) hids)).spl (hrl.move (fun _ h => h) hF (allL_mono (fun _ _ => rfl) (cellsA_all (hs.repIds v) hl))) o1
          · exact allL_mono (fun _ h => def_upd1 h) (allL_spl hids (cellsA_all (hs.repIds v) hl))
        · subst hk
          unfold owns at ho'
          rw [get_cons, if_pos rfl] at ho'
          have ho2 : owns σ.hp V k b := by unfold owns; rw [hb]; exact ho'
          exact ⟨by rw [hsz]; exact hs.hp.lt k b ho2, hs.hp.nF k b ho2, .inr ⟨k, rfl, ho2⟩⟩
      have hput := hst.putd hd (v := undef) (r := .un) (.un _) (by simp [A.all]) (σ.nx + 1)
      unfold Oper.wp
      have hxx : (execOp a.eval o).run P w = .ok .skip w' := by
        simp only [execOp, ho, hpv]
        simp [hrun]
      rw [hxx]
      exact hK F V _ _ hput
/-- A store into an element of a row of the call's own; what it leads to is only read from now on. -/
theorem val_store_re (hT : ∀ t i, get T t = some i → TOk P t i) {n : Nat} {o : Oper} (hd : ∀ d, o.dst = some d → d < n) {σ : St} {t : Nat} {i : TI} (hi : get T t = some i) {p v : Operand} (ho : o.op = .store t p v) {e : Ty} {id j o1 : Nat} (hp : ev σ p = .re (szE e) id j o1) {xs : List (El e)} (hb : get σ.hp id = some (.row e xs))
    {l : List A} (hl : cellsA (ev σ v) = some l) (hn : l.length = i.sz) (hle : o1 + i.sz ≤ szE e) (hno : get (frz (get σ.hp) l) id = none) {ds cs : List C} (hcs : toCs (get σ.hp) ds l = some cs) (hj : j < xs.length) {y : El e} (hy : cells e y = spl (cells e (xs.getD j (dflt e))) o1 cs) :
    Val P n o σ (σ.upd o.dst .un ((id, .row e (xs.set j y)) :: frz (get σ.hp) l)) := by
  intro w0 L0 F0 F V a w hs K Q hK
  obtain ⟨hrl, hl1⟩ := cellsA_rep (hs.rep v) hl (fun id _ => hs.V1 id)
  have hrp := hs.rep p
  rw [hp] at hrp
  generalize hpv : a.eval p = pv at hrp
  obtain ⟨F', hF', hs'⟩ := hs.freeze l
  have hlc := toCs_rep hF' hs' (fun x hx => hx) hrl hcs
  have hb' : get (frz (get σ.hp) l ++ σ.hp) id = some (.row e xs) := by rw [get_append, hno]; exact hb
  have hob := hs'.hp.ob id _ hb'
  have hcl : cs.length = i.sz := by rw [← hlc.length, hrl.length, hn]
  cases hob with
  | row _ _ us hown hr hbb =>
    cases hrp with
    | re _ _ _ _ g' n' cap' hg' =>
      rcases hown.2 with ⟨h1, h2⟩ | ⟨g, cap, cur, hV, hb0, hh, hle1, hcap, hcsz, htk⟩
      · omega
      have : g' = g := by rw [hV] at hg'; injection hg' with h _ _; injection h with h; injection h with h; exact h.symm
      subst this
      have hbd : j * szE e + o1 + i.sz ≤ cur.toList.length := by
        rw [Array.length_toList, hcsz]
        have h3 : (j + 1) * szE e ≤ cap * szE e := Nat.mul_le_mul_right _ (by omega)
        rw [Nat.succ_mul] at h3
        omega
      obtain ⟨w', hrun, hgw, hoth, hsz, hos, htp, hou⟩ := run_storeAt_ (P := P) (hT t i hi) (v := a.eval v) (by rw [← Array.length_toList, hrl.length, hn]) g' (j * szE e + o1) (etOf e) cur.toList (by simpa using hh) hl1 hbd
      have howns : owns (frz (get σ.hp) l ++ σ.hp) V id g' := by unfold owns; rw [hb']; simp [hV, blk]
      have hF : ∀ b, F' b → w'.heap[b]? = w.heap[b]? := fun b hb' => hoth b (fun e => hs'.hp.nF id g' howns (e ▸ hb'))
      have hst : Sim n w0 L0 F0 F' V { σ with hp := (id, .row e (xs.set j y)) :: (frz (get σ.hp) l ++ σ.hp) } a w' := by
        refine hs'.step (fun k => k = id) hos htp hou (fun b hb' hno => hoth b (fun e => hno id rfl (e ▸ howns))) (Nat.le_of_eq hsz.symm) (fun _ _ => rfl) (fun b hb => hb) (fun b hb => .inl hb) (fun b hb => by rw [hsz]; exact hs'.F_lt b hb) hs.V1 (fun k hk => get_upd1 k hk) (fun k hk => def_upd1 hk) (fun k o' hk ho' => ?_) (fun k b hk ho' => ?_) (fun k k' b hk hk' _ _ => by rw [hk, hk'])
        · subst hk
          rw [get_cons, if_pos rfl] at ho'
          cases ho'
          refine ⟨.row e _ (spl us (j * szE e + o1) (a.eval v).cells.toList) ?_ ?_ (by rw [List.length_set]; exact hbb), trivial⟩
          · rw [List.length_set]
            refine ⟨by rw [spl_length]; exact hown.1, .inr ⟨g', cap, (spl cur.toList (j * szE e + o1) (a.eval v).cells.toList).toArray, hV, hb0, hgw, hle1, hcap, by rw [List.size_toArray, spl_length, Array.length_toList]; exact hcsz, ?_⟩⟩
            rw [spl_take, htk]
          · rw [spl_flat e (o := o1) (cs := cs) (by rw [hcl]; exact hle) xs j hj hy]
            exact (hr.move (fun _ h => h) hF).spl (hlc.move (fun _ h => h) hF) _
        · subst hk
          unfold owns at ho'
          rw [get_cons, if_pos rfl] at ho'
          have ho2 : owns (frz (get σ.hp) l ++ σ.hp) V k b := by unfold owns; rw [hb']; exact ho'
          exact ⟨by rw [hsz]; exact hs'.hp.lt k b ho2, hs'.hp.nF k b ho2, .inr ⟨k, rfl, ho2⟩⟩
      have hput := hst.putd hd (v := undef) (r := .un) (.un _) (by simp [A.all]) (σ.nx + ((id, Ob.row e (xs.set j y)) :: frz (get σ.hp) l).length)
      unfold Oper.wp
      have hxx : (execOp a.eval o).run P w = .ok .skip w' := by
        simp only [execOp, ho, hpv]
        simp [hrun]
      rw [hxx]
      exact hK F' V _ _ hput
end Go.Proofs.Ythbpdhppelaihaa
