/- The conditions of F4 are sound: stores. Conditions: none. -/
import Derived.Test.YthbpdhppelaihaaGreatG1
set_option linter.unusedVariables false
set_option linter.unusedSimpArgs false
namespace Go.Proofs.YthbpdhppelaihaaGreat
open Go.RowKit
variable {P : Program} {T : List (Nat × TI)}

theorem spl_left {α : Type} : ∀ (l a b : List α) (o : Nat), o + l.length ≤ a.length → spl (a ++ b) o l = spl a o l ++ b
  | [], _, _, _, _ => by rw [spl_nil, spl_nil]
  | x :: l, a, b, o, h => by
    simp only [List.length_cons] at h
    rw [spl_cons, spl_cons]
    rw [List.set_append_left _ _ (by omega)]
    exact spl_left l (a.set o x) b (o + 1) (by rw [List.length_set]; omega)
theorem spl_right {α : Type} : ∀ (l a b : List α) (o : Nat), spl (a ++ b) (a.length + o) l = a ++ spl b o l
  | [], _, _, _ => by rw [spl_nil, spl_nil]
  | x :: l, a, b, o => by
    rw [spl_cons, spl_cons]
    rw [List.set_append_right _ _ (by omega), Nat.add_sub_cancel_left]
    exact spl_right l a (b.set o x) (o + 1)
theorem spl_take {α : Type} : ∀ (l a : List α) (o m : Nat), (spl a o l).take m = spl (a.take m) o l
  | [], _, _, _ => by rw [spl_nil, spl_nil]
  | x :: l, a, o, m => by
    rw [spl_cons, spl_cons]
    rw [spl_take l, List.take_set]
theorem spl_flat (e : Ty) {o : Nat} {cs : List C} (h : o + cs.length ≤ szE e) {y : El e} : ∀ (xs : List (El e)) (i : Nat) (hi : i < xs.length), cells e y = spl (cells e (xs.getD i (dflt e))) o cs → (xs.set i y).flatMap (cells e) = spl (xs.flatMap (cells e)) (i * szE e + o) cs
  | [], i, hi, _ => by simp at hi
  | x :: xs, 0, hi, hy => by
    simp only [List.getD_cons_zero] at hy
    rw [List.set_cons_zero, List.flatMap_cons, List.flatMap_cons, Nat.zero_mul, Nat.zero_add, spl_left _ _ _ _ (by rw [cells_len]; exact h), hy]
  | x :: xs, i + 1, hi, hy => by
    simp only [List.getD_cons_succ] at hy
    rw [List.set_cons_succ, List.flatMap_cons, List.flatMap_cons, spl_flat e h xs i (by simpa using hi) hy, ← spl_right, cells_len]
    congr 1
    rw [Nat.succ_mul]; omega
theorem allL_set {D : Nat → Prop} {x : A} (hx : x.all D) : ∀ {z : List A}, allL D z → ∀ off, allL D (z.set off x)
  | [], _, _ => by simp [allL]
  | y :: z, hz, off => by
    simp only [allL] at hz
    cases off with
    | zero => simp only [List.set_cons_zero, allL]; exact ⟨hx, hz.2⟩
    | succ off => simp only [List.set_cons_succ, allL]; exact ⟨hz.1, allL_set hx hz.2 off⟩
theorem allL_spl {D : Nat → Prop} : ∀ {l z : List A} {off : Nat}, allL D z → allL D l → allL D (spl z off l)
  | [], _, _, hz, _ => by rw [spl_nil]; exact hz
  | x :: l, z, off, hz, hl => by
    simp only [allL] at hl
    rw [spl_cons]
    exact allL_spl (allL_set hl.1 hz off) hl.2
theorem get_upd1 {hp : Hp} {id : Nat} {ob : Ob} (k : Nat) (hk : k ≠ id) : get ((id, ob) :: hp) k = get hp k := by rw [get_cons, if_neg (fun e => hk e.symm)]
theorem def_upd1 {hp : Hp} {id : Nat} {ob : Ob} {k : Nat} (h : Def hp k) : Def ((id, ob) :: hp) k := by
  unfold Def at *
  rw [get_cons]
  split
  · rfl
  · exact h
/-- A store into a variable of the call's own. -/
theorem val_store_box (hT : ∀ t i, get T t = some i → TOk P t i) {n : Nat} {o : Oper} (hd : ∀ d, o.dst = some d → d < n) {σ : St} {t : Nat} {i : TI} (hi : get T t = some i) {p v : Operand} (ho : o.op = .store t p v) {id o1 : Nat} (hp : ev σ p = .pt id o1) {cs l : List A} (hb : get σ.hp id = some (.box cs)) (hl : cellsA (ev σ v) = some l) (hn : l.length = i.sz) (hle : o1 + i.sz ≤ cs.length) :
    Val P n o σ (σ.upd o.dst .un [(id, .box (spl cs o1 l))]) := by
  intro w0 L0 F0 F V B a w hs K Q hK
  have hob := hs.hp.ob id _ hb
  have hids := hs.hp.ids id _ hb
  have hrp := hs.rep p
  rw [hp] at hrp
  generalize hpv : a.eval p = pv at hrp
  obtain ⟨hrl, hl1⟩ := cellsA_rep (hs.rep v) hl (fun id _ => hs.V1 id)
  cases hob with
  | box _ g vs bt hV hg hr h1 =>
    cases hrp with
    | pt _ _ g' hg' =>
      have : g' = g := by rw [hV] at hg'; injection hg' with h; injection h with h; injection h with h; exact h.symm
      subst this
      obtain ⟨w', hrun, hgw, hoth, hsz, hos, htp, hou⟩ := run_storeAt_ (P := P) (hT t i hi) (v := a.eval v) (by rw [← Array.length_toList, hrl.length, hn]) g' o1 bt vs hg hl1 (by rw [hr.length]; exact hle)
      have hown : owns σ.hp V B id g' := by unfold owns; rw [hb]; simp [hV, blk]
      have hF : ∀ b, F b → w'.heap[b]? = w.heap[b]? := fun b hb' => hoth b (fun e => hs.hp.nF id g' hown (e ▸ hb'))
      have hst : Sim n w0 L0 F0 F V B { σ with hp := (id, .box (spl cs o1 l)) :: σ.hp } a w' := by
        refine hs.step (fun k => k = id) hos htp hou (fun b hb' hno => hoth b (fun e => hno id rfl (e ▸ hown))) (Nat.le_of_eq hsz.symm) (fun _ _ => rfl) (fun _ _ _ => rfl) (fun b hb => hb) (fun b hb => .inl hb) (fun b hb => by rw [hsz]; exact hs.F_lt b hb) hs.V1 (fun k hk => get_upd1 k hk) (fun k hk => def_upd1 hk) (fun k o' hk ho' => ?_) (fun k b hk ho' => ?_) (fun k k' b hk hk' _ _ => by rw [hk, hk'])
        · subst hk
          rw [get_cons, if_pos rfl] at ho'
          cases ho'
          refine ⟨.box _ g' (spl vs o1 (a.eval v).cells.toList) bt hV hgw ?_ (one_spl h1 hl1 o1), ?_⟩
          · exact (hr.move (fun _ h => h) hF (allL_mono (fun _ _ => rfl) hids)).spl (hrl.move (fun _ h => h) hF (allL_mono (fun _ _ => rfl) (cellsA_all (hs.repIds v) hl))) o1
          · exact allL_mono (fun _ h => def_upd1 h) (allL_spl hids (cellsA_all (hs.repIds v) hl))
        · subst hk
          unfold owns at ho'
          rw [get_cons, if_pos rfl] at ho'
          have ho2 : owns σ.hp V B k b := by unfold owns; rw [hb]; exact ho'
          exact ⟨by rw [hsz]; exact hs.hp.lt k b ho2, hs.hp.nF k b ho2, .inr ⟨k, rfl, ho2⟩⟩
      have hput := hst.putd hd (v := undef) (r := .un) (.un _) (by simp [A.all]) (σ.nx + 1)
      unfold Oper.wp
      have hxx : (execOp a.eval o).run P w = .ok .skip w' := by
        simp only [execOp, ho, hpv]
        simp [hrun]
      rw [hxx]
      exact hK F V B _ _ hput
theorem spl_mid {α : Type} : ∀ (l a b c : List α), a.length = l.length → spl (b ++ (a ++ c)) b.length l = b ++ (l ++ c)
  | [], a, b, c, h => by
    have : a = [] := List.eq_nil_of_length_eq_zero (by simpa using h)
    subst this; rw [spl_nil, List.nil_append]; try rfl
  | x :: l, [], b, c, h => by simp at h
  | x :: l, y :: a, b, c, h => by
    rw [spl_cons]
    rw [List.set_append_right _ _ (Nat.le_refl _), Nat.sub_self, List.cons_append, List.set_cons_zero]
    have := spl_mid l a (b ++ [x]) c (by simpa using h)
    simpa using this
theorem cut3 {α : Type} (l : List α) (o n : Nat) : l = l.take o ++ ((l.drop o).take n ++ l.drop (o + n)) := by
  rw [← List.drop_drop, List.take_append_drop, List.take_append_drop]
theorem spl_eq {α : Type} {us l : List α} {o : Nat} (h : o + l.length ≤ us.length) : spl us o l = us.take o ++ (l ++ us.drop (o + l.length)) := by
  have h1 := spl_mid l ((us.drop o).take l.length) (us.take o) (us.drop (o + l.length)) (by simp; omega)
  rw [← cut3, List.length_take, Nat.min_eq_left (by omega)] at h1
  exact h1
theorem spl_in {α : Type} {a vs c l : List α} {o : Nat} (h : o + l.length ≤ vs.length) : spl (a ++ (vs ++ c)) (a.length + o) l = a ++ (spl vs o l ++ c) := by
  rw [spl_eq h, spl_eq (by simp; omega)]
  rw [List.take_append, Nat.add_sub_cancel_left, List.take_of_length_le (by omega), List.drop_append, List.drop_of_length_le (by omega), Nat.add_assoc, Nat.add_sub_cancel_left, List.nil_append]
  rw [List.take_append_of_le_length (by omega), List.drop_append_of_le_length (by omega)]
  simp
theorem OwnL.spl {w : World} {us : List Value} {cs : List C} {bs : List Nat} (h : OwnL w us cs bs) {us' : List Value} {cs' : List C} {bs' : List Nat} (h' : OwnL w us' cs' bs') {o : Nat} (ho : o + cs'.length ≤ cs.length) (hd : ∀ x ∈ bs, x ∉ bs') : ∃ bs'', OwnL w (spl us o us') (spl cs o cs') bs'' ∧ ∀ b ∈ bs'', b ∈ bs ∨ b ∈ bs' := by
  rw [spl_eq ho, spl_eq (by rw [h.length, h'.length]; exact ho)]
  have hc := cut3 cs o cs'.length
  rw [hc] at h
  obtain ⟨u1, u23, b1, b23, e1, e2, h1, h23, d1⟩ := OwnL.split _ h
  obtain ⟨u2, u3, b2, b3, e3, e4, h2, h3, d2⟩ := OwnL.split _ h23
  subst e4
  subst e3
  subst e2
  have l1 : u1.length = o := by rw [h1.length]; simp; omega
  have l2 : u2.length = us'.length := by rw [h2.length, h'.length]; simp; omega
  have t1 : us.take o = u1 := by rw [e1, List.take_left' l1]
  have t3 : us.drop (o + us'.length) = u3 := by rw [e1, ← List.drop_drop, List.drop_left' l1, List.drop_left' l2]
  rw [t1, t3]
  refine ⟨b1 ++ (bs' ++ b3), h1.append (h'.append h3 fun x hx hx3 => hd x (by simp [hx3]) hx) fun x hx hx2 => ?_, fun b hb => ?_⟩
  · rcases List.mem_append.1 hx2 with hx2 | hx2
    · exact hd x (by simp [hx]) hx2
    · exact d1 x hx (by simp [hx2])
  · simp only [List.mem_append] at hb ⊢
    rcases hb with hb | hb | hb
    · exact .inl (.inl hb)
    · exact .inr hb
    · exact .inl (.inr (.inr hb))
/-- A store into the cells of a row. -/
theorem rowR_store {t : Nat} {i : TI} (hti : TOk P t i) {w : World} {e : Ty} {v x : Value} {n : Nat} {us : List Value} (hr : rowR w e v n us) {g n' cap' : Nat} (hg : v = .slice (some ⟨g, 0, none⟩) n' cap') {j o1 : Nat} (hj : j < n) (hsz : x.cells.size = i.sz) (hle : o1 + i.sz ≤ szE e) (h1 : ∀ u ∈ x.cells.toList, u.oneCell' = true) :
    blk v = some g ∧ ∃ w', (Instr.storeAt t (.pointer (some ⟨g, j * szE e + o1, none⟩)) x).run P w = .ok () w' ∧ rowR w' e v n (spl us (j * szE e + o1) x.cells.toList) ∧ (∀ k, k ≠ g → w'.heap[k]? = w.heap[k]?) ∧ w'.heap.size = w.heap.size ∧ w'.os = w.os ∧ w'.tape = w.tape ∧ w'.output = w.output := by
  rcases hr.2 with ⟨a0, h1, h2⟩ | ⟨g0, cap, cur, hV, hh, hle1, hcap, hcsz, htk⟩
  · omega
  have : g0 = g := by rw [hV] at hg; injection hg with h _ _; injection h with h; injection h with h
  subst this
  have hbd : j * szE e + o1 + i.sz ≤ cur.toList.length := by
    rw [Array.length_toList, hcsz]
    have h3 : (j + 1) * szE e ≤ (cap + 1) * szE e := Nat.mul_le_mul_right _ (by omega)
    rw [Nat.succ_mul] at h3
    omega
  obtain ⟨w', hrun, hgw, hoth, hsz', hos, htp, hou⟩ := run_storeAt_ (P := P) hti (v := x) hsz g0 (j * szE e + o1) (etOf e) cur.toList (by simpa using hh) h1 hbd
  refine ⟨by rw [hV]; rfl, w', hrun, ⟨by rw [spl_length]; exact hr.1, .inr ⟨g0, cap, (spl cur.toList (j * szE e + o1) x.cells.toList).toArray, hV, hgw, hle1, hcap, by rw [List.size_toArray, spl_length, Array.length_toList]; exact hcsz, ?_⟩⟩, hoth, hsz', hos, htp, hou⟩
  rw [spl_take, htk]
/-- A store into an element of a row of the call's own; what it leads to is only read from now on. -/
theorem val_store_re (hT : ∀ t i, get T t = some i → TOk P t i) {n : Nat} {o : Oper} (hd : ∀ d, o.dst = some d → d < n) {σ : St} {t : Nat} {i : TI} (hi : get T t = some i) {p v : Operand} (ho : o.op = .store t p v) {e : Ty} {id j o1 : Nat} (hp : ev σ p = .re (szE e) id j o1) {xs : List (El e)} (hb : get σ.hp id = some (.row e xs))
    {l : List A} (hl : cellsA (ev σ v) = some l) (hn : l.length = i.sz) (hle : o1 + i.sz ≤ szE e) (hno : get (frz (get σ.hp) l) id = none) {ds cs : List C} (hcs : toCs (get σ.hp) ds l = some cs) (hj : j < xs.length) {y : El e} (hy : cells e y = spl (cells e (xs.getD j (dflt e))) o1 cs) :
    Val P n o σ (σ.upd o.dst .un ((id, .row e (xs.set j y)) :: frz (get σ.hp) l)) := by
  intro w0 L0 F0 F V B a w hs K Q hK
  obtain ⟨hrl, hl1⟩ := cellsA_rep (hs.rep v) hl (fun id _ => hs.V1 id)
  have hrp := hs.rep p
  rw [hp] at hrp
  generalize hpv : a.eval p = pv at hrp
  obtain ⟨F', hF', hs'⟩ := hs.freeze l
  have hlc := toCs_rep hF' hs' (fun x hx => hx) hrl hcs
  have hb' : get (frz (get σ.hp) l ++ σ.hp) id = some (.row e xs) := by rw [get_append, hno]; exact hb
  have hob := hs'.hp.ob id _ hb'
  have hcl : cs.length = i.sz := by rw [← hlc.length, hrl.length, hn]
  cases hob with
  | row _ _ us hown hr hbb =>
    cases hrp with
    | re _ _ _ _ g' n' cap' hg' =>
      obtain ⟨hbk, w', hrun, hrw, hoth, hsz, hos, htp, hou⟩ := rowR_store (P := P) (hT t i hi) (x := a.eval v) hown hg' hj (by rw [← Array.length_toList, hrl.length, hn]) hle hl1
      have howns : owns (frz (get σ.hp) l ++ σ.hp) V B id g' := by unfold owns; rw [hb']; exact hbk
      have hF : ∀ b, F' b → w'.heap[b]? = w.heap[b]? := fun b hb' => hoth b (fun e => hs'.hp.nF id g' howns (e ▸ hb'))
      have hst : Sim n w0 L0 F0 F' V B { σ with hp := (id, .row e (xs.set j y)) :: (frz (get σ.hp) l ++ σ.hp) } a w' := by
        refine hs'.step (fun k => k = id) hos htp hou (fun b hb' hno => hoth b (fun e => hno id rfl (e ▸ howns))) (Nat.le_of_eq hsz.symm) (fun _ _ => rfl) (fun _ _ _ => rfl) (fun b hb => hb) (fun b hb => .inl hb) (fun b hb => by rw [hsz]; exact hs'.F_lt b hb) hs.V1 (fun k hk => get_upd1 k hk) (fun k hk => def_upd1 hk) (fun k o' hk ho' => ?_) (fun k b hk ho' => ?_) (fun k k' b hk hk' _ _ => by rw [hk, hk'])
        · subst hk
          rw [get_cons, if_pos rfl] at ho'
          cases ho'
          refine ⟨.row e _ (spl us (j * szE e + o1) (a.eval v).cells.toList) (by rw [List.length_set]; exact hrw) ?_ (by rw [List.length_set]; exact hbb), trivial⟩
          rw [spl_flat e (o := o1) (cs := cs) (by rw [hcl]; exact hle) xs j hj hy]
          exact (hr.move (fun _ h => h) hF).spl (hlc.move (fun _ h => h) hF) _
        · subst hk
          unfold owns at ho'
          rw [get_cons, if_pos rfl] at ho'
          have ho2 : owns (frz (get σ.hp) l ++ σ.hp) V B k b := by unfold owns; rw [hb']; exact ho'
          exact ⟨by rw [hsz]; exact hs'.hp.lt k b ho2, hs'.hp.nF k b ho2, .inr ⟨k, rfl, ho2⟩⟩
      have hput := hst.putd hd (v := undef) (r := .un) (.un _) (by simp [A.all]) (σ.nx + ((id, Ob.row e (xs.set j y)) :: frz (get σ.hp) l).length)
      unfold Oper.wp
      have hxx : (execOp a.eval o).run P w = .ok .skip w' := by
        simp only [execOp, ho, hpv]
        simp [hrun]
      rw [hxx]
      exact hK F' V B _ _ hput
/-- A store into an element of a row that is one's own all the way down: what is stored goes over. -/
theorem val_store_dp (hT : ∀ t i, get T t = some i → TOk P t i) {n : Nat} {o : Oper} (hd : ∀ d, o.dst = some d → d < n) {σ : St} {t : Nat} {i : TI} (hi : get T t = some i) {p v : Operand} (ho : o.op = .store t p v) {e : Ty} {id j o1 : Nat} (hp : ev σ p = .re (szE e) id j o1) {xs : List (El e)} (hb : get σ.hp id = some (.dp e xs))
    {l : List A} (hl : cellsA (ev σ v) = some l) (hn : l.length = i.sz) (hle : o1 + i.sz ≤ szE e) (hok : okDs (get σ.hp) l = true) (hnd : nodupN (id :: idsL l) = true) {ds cs : List C} (hcs : toCs (get σ.hp) ds l = some cs) (hj : j < xs.length) {y : El e} (hy : cells e y = spl (cells e (xs.getD j (dflt e))) o1 cs) :
    Val P n o σ (σ.upd o.dst .un ((id, .dp e (xs.set j y)) :: kill (idsL l))) := by
  intro w0 L0 F0 F V B a w hs K Q hK
  obtain ⟨hrl, hl1⟩ := cellsA_rep (hs.rep v) hl (fun id _ => hs.V1 id)
  have hrp := hs.rep p
  rw [hp] at hrp
  generalize hpv : a.eval p = pv at hrp
  have hnd' := List.nodup_cons.1 (nodupN_iff hnd)
  obtain ⟨bl, hlo, hbo⟩ := okDs_own hs hrl hok hnd'.2 hcs
  have hob := hs.hp.ob id _ hb
  have hcl : cs.length = i.sz := by rw [← hlo.length, hrl.length, hn]
  cases hob with
  | dp _ _ hown0 =>
    obtain ⟨us, b0, hbb, hown, hr, hn0, hB0⟩ := hown0.inv
    cases hrp with
    | re _ _ _ _ g' n' cap' hg' =>
      obtain ⟨hbk, w', hrun, hrw, hoth, hsz, hos, htp, hou⟩ := rowR_store (P := P) (hT t i hi) (x := a.eval v) hown hg' hj (by rw [← Array.length_toList, hrl.length, hn]) hle hl1
      have howid : ∀ b, owns σ.hp V B id b ↔ b ∈ bkl (V id) ++ b0 := fun b => by unfold owns; rw [hb, hB0]
      have hdis : ∀ x ∈ bl, ¬ owns σ.hp V B id x := fun x hx h => by
        obtain ⟨k, hk, hko⟩ := hbo x hx
        exact hnd'.1 (hs.hp.apart k id x hko h ▸ hk)
      have hgo : owns σ.hp V B id g' := (howid g').2 (List.mem_append_left _ (bkl_mem.2 hbk))
      rw [List.nodup_append] at hn0
      have hk0 : ∀ b ∈ b0, w'.heap[b]? = w.heap[b]? := fun b hb => hoth b fun e => hn0.2.2 g' (bkl_mem.2 hbk) b hb e.symm
      have hkl : ∀ b ∈ bl, w'.heap[b]? = w.heap[b]? := fun b hb => hoth b fun e => hdis b hb (e ▸ hgo)
      obtain ⟨bs, hbs, hsub⟩ := (hr.move hk0).spl (hlo.move hkl) (o := j * szE e + o1) (by
        rw [flat_len, hcl]
        have h3 : (j + 1) * szE e ≤ xs.length * szE e := Nat.mul_le_mul_right _ (by omega)
        rw [Nat.succ_mul] at h3
        omega) (fun x hx hx' => hdis x hx' ((howid x).2 (List.mem_append_right _ hx)))
      rw [← spl_flat e (o := o1) (cs := cs) (by rw [hcl]; exact hle) xs j hj hy] at hbs
      have hdf := okDs_def hok
      have hoo : Own w' (V id) (.sl e (xs.set j y)) (bkl (V id) ++ bs) := by
        refine .sl e _ _ _ bs (by rw [List.length_set]; exact hbb) (by rw [List.length_set]; exact hrw) hbs ?_
        rw [List.nodup_append]
        refine ⟨hn0.1, hbs.nodup, fun x hx y hy e => ?_⟩
        subst e
        rcases hsub x hy with h | h
        · exact hn0.2.2 x hx x h rfl
        · exact hdis x h ((howid x).2 (List.mem_append_left _ hx))
      have hVV : updV V id (V id) = V := by funext k; unfold updV; split <;> simp_all
      have hst := hs.turn (t := id) (ks := idsL l) (v := V id) (bs := bkl (V id) ++ bs) (o := .dp e (xs.set j y)) (w' := w') hnd'.1 (fun k hk => hdf k hk) (.inr rfl) (hs.V1 id) hos htp hou (Nat.le_of_eq hsz.symm) (fun b hb' hno => hoth b (fun e => hno id (.inl rfl) (e ▸ hgo)))
        (.dp e _ (by rw [hVV]; simp only [updB, if_true]; exact hoo)) trivial (fun b hb => by
          unfold owns at hb
          rw [get_cons, if_pos rfl] at hb
          simp only [updB, if_true] at hb
          rcases List.mem_append.1 hb with hb | hb
          · exact .inr ⟨id, .inl rfl, (howid b).2 (List.mem_append_left _ hb)⟩
          · rcases hsub b hb with h | h
            · exact .inr ⟨id, .inl rfl, (howid b).2 (List.mem_append_right _ h)⟩
            · obtain ⟨k, hk, hko⟩ := hbo b h
              exact .inr ⟨k, .inr hk, hko⟩)
      have hput := hst.putd hd (v := undef) (r := .un) (.un _) (by simp [A.all]) (σ.nx + (1 + (kill (idsL l)).length))
      unfold Oper.wp
      have hxx : (execOp a.eval o).run P w = .ok .skip w' := by
        simp only [execOp, ho, hpv]
        simp [hrun]
      rw [hxx]
      have e : (σ.upd o.dst .un ((id, .dp e (xs.set j y)) :: kill (idsL l))) = { ({ σ with hp := (id, .dp e (xs.set j y)) :: (kill (idsL l) ++ σ.hp) } : St).upd o.dst .un [] with nx := σ.nx + (1 + (kill (idsL l)).length) } := by
        simp [St.upd, Nat.add_comm]
      rw [← e] at hput
      exact hK _ _ _ _ _ hput
/-- A store into the element that is laid open. -/
theorem val_store_fo (hT : ∀ t i, get T t = some i → TOk P t i) {n : Nat} {o : Oper} (hd : ∀ d, o.dst = some d → d < n) {σ : St} {t : Nat} {i : TI} (hi : get T t = some i) {p v : Operand} (ho : o.op = .store t p v) {e : Ty} {id o1 : Nat} {pre post : List (El e)} {cs : List A} (hp : ev σ p = .re (szE e) id pre.length o1) (hb : get σ.hp id = some (.fo e pre cs post))
    {l : List A} (hl : cellsA (ev σ v) = some l) (hn : l.length = i.sz) (hle : o1 + i.sz ≤ szE e) :
    Val P n o σ (σ.upd o.dst .un [(id, .fo e pre (spl cs o1 l) post)]) := by
  intro w0 L0 F0 F V B a w hs K Q hK
  obtain ⟨hrl, hl1⟩ := cellsA_rep (hs.rep v) hl (fun id _ => hs.V1 id)
  have hrp := hs.rep p
  rw [hp] at hrp
  generalize hpv : a.eval p = pv at hrp
  have hob := hs.hp.ob id _ hb
  have hids := hs.hp.ids id _ hb
  cases hob with
  | fo _ _ _ _ us1 vs us2 b1 b2 hbb hcl hown hr1 hr2 hv h1 hB0 hn0 =>
    cases hrp with
    | re _ _ _ _ g' n' cap' hg' =>
      obtain ⟨hbk, w', hrun, hrw, hoth, hsz, hos, htp, hou⟩ := rowR_store (P := P) (hT t i hi) (x := a.eval v) hown hg' (j := pre.length) (by omega) (by rw [← Array.length_toList, hrl.length, hn]) hle hl1
      have howid : ∀ b, owns σ.hp V B id b ↔ b ∈ bkl (V id) ++ (b1 ++ b2) := fun b => by unfold owns; rw [hb, hB0]
      have hgo : owns σ.hp V B id g' := (howid g').2 (List.mem_append_left _ (bkl_mem.2 hbk))
      have hn1 := hn0
      rw [hB0, List.nodup_append] at hn1
      have hk0 : ∀ b ∈ b1 ++ b2, w'.heap[b]? = w.heap[b]? := fun b hb => hoth b fun e => hn1.2.2 g' (bkl_mem.2 hbk) b hb e.symm
      have hF : ∀ b, F b → w'.heap[b]? = w.heap[b]? := fun b hb' => hoth b (fun e => hs.hp.nF id g' hgo (e ▸ hb'))
      have hl1' : us1.length = pre.length * szE e := by rw [hr1.length, flat_len]
      have hvl : vs.length = szE e := by rw [hv.length, hcl]
      rw [← hl1', spl_in (by rw [hrl.length, hn, hvl]; exact hle)] at hrw
      have hst : Sim n w0 L0 F0 F V B { σ with hp := (id, .fo e pre (spl cs o1 l) post) :: σ.hp } a w' := by
        refine hs.step (fun k => k = id) hos htp hou (fun b hb' hno => hoth b (fun e => hno id rfl (e ▸ hgo))) (Nat.le_of_eq hsz.symm) (fun _ _ => rfl) (fun _ _ _ => rfl) (fun b hb => hb) (fun b hb => .inl hb) (fun b hb => by rw [hsz]; exact hs.F_lt b hb) hs.V1 (fun k hk => get_upd1 k hk) (fun k hk => def_upd1 hk) (fun k o' hk ho' => ?_) (fun k b hk ho' => ?_) (fun k k' b hk hk' _ _ => by rw [hk, hk'])
        · subst hk
          rw [get_cons, if_pos rfl] at ho'
          cases ho'
          refine ⟨.fo e pre _ post us1 (spl vs o1 (a.eval v).cells.toList) us2 b1 b2 hbb (by rw [spl_length]; exact hcl) hrw (hr1.move fun b hb => hk0 b (by simp [hb])) (hr2.move fun b hb => hk0 b (by simp [hb])) ?_ (one_spl h1 hl1 o1) hB0 hn0, ?_⟩
          · exact (hv.move (fun _ h => h) hF (allL_mono (fun _ _ => rfl) hids)).spl (hrl.move (fun _ h => h) hF (allL_mono (fun _ _ => rfl) (cellsA_all (hs.repIds v) hl))) o1
          · exact allL_mono (fun _ h => def_upd1 h) (allL_spl hids (cellsA_all (hs.repIds v) hl))
        · subst hk
          unfold owns at ho'
          rw [get_cons, if_pos rfl] at ho'
          have ho2 : owns σ.hp V B k b := by unfold owns; rw [hb]; exact ho'
          exact ⟨by rw [hsz]; exact hs.hp.lt k b ho2, hs.hp.nF k b ho2, .inr ⟨k, rfl, ho2⟩⟩
      have hput := hst.putd hd (v := undef) (r := .un) (.un _) (by simp [A.all]) (σ.nx + 1)
      unfold Oper.wp
      have hxx : (execOp a.eval o).run P w = .ok .skip w' := by
        simp only [execOp, ho, hpv]
        simp [hrun]
      rw [hxx]
      exact hK F V B _ _ hput
end Go.Proofs.YthbpdhppelaihaaGreat
