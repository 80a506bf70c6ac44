/- The conditions of F4 are sound: literals of slices, make, append. Conditions: none. -/
import Derived.Test.YthbpdhppelaihaaF7
import Derived.Great.BuildSlice
set_option linter.unusedVariables false
set_option linter.unusedSimpArgs false
namespace Go.Proofs.Ythbpdhppelaihaa
open Go.RowKit
variable {P : Program} {T : List (Nat × TI)}

theorem rep_len {α : Type} (n : Nat) (l : List α) : (rep n l).length = n * l.length := by
  induction n with
  | zero => simp [rep]
  | succ n ih => simp [rep, ih, Nat.add_mul, Nat.add_comm]
theorem rep_get {α : Type} (l : List α) : ∀ (n i : Nat), i < n * l.length → (rep n l)[i]? = l[i % l.length]?
  | 0, i, h => by simp at h
  | n + 1, i, h => by
    simp only [rep]
    rcases Nat.lt_or_ge i l.length with hi | hi
    · rw [List.getElem?_append_left hi, Nat.mod_eq_of_lt hi]
    · rw [List.getElem?_append_right hi, rep_get l n (i - l.length) (by rw [Nat.add_mul] at h; omega)]
      congr 1
      conv => rhs; rw [← Nat.sub_add_cancel hi, Nat.add_mod_right]
theorem rep_toList (z : Array Value) (n : Nat) : ((Array.range (n * z.size)).map (z[· % z.size]!)).toList = rep n z.toList := by
  apply List.ext_getElem?
  intro i
  by_cases h : i < n * z.size
  · rw [rep_get _ _ _ (by simpa using h)]
    have hz : 0 < z.size := by
      rcases Nat.eq_zero_or_pos z.size with h0 | h0
      · rw [h0] at h; simp at h
      · exact h0
    have hm : i % z.size < z.size := Nat.mod_lt _ hz
    simp [h, hm]
  · rw [List.getElem?_eq_none (by simp; omega), List.getElem?_eq_none (by rw [rep_len]; simp; omega)]
theorem RepAs.rep {F : Nat → Prop} {V : Nat → Value} {w : World} {us : List Value} {l : List A} (h : RepAs F V w us l) : ∀ n, RepAs F V w (rep n us) (rep n l)
  | 0 => .nil
  | n + 1 => h.append (h.rep n)
theorem rep_one {us : List Value} (h : ∀ u ∈ us, u.oneCell' = true) : ∀ n, ∀ u ∈ rep n us, u.oneCell' = true
  | 0, u, hu => by simp [Go.Proofs.Ythbpdhppelaihaa.rep] at hu
  | n + 1, u, hu => by
    simp only [Go.Proofs.Ythbpdhppelaihaa.rep, List.mem_append] at hu
    rcases hu with hu | hu
    · exact h u hu
    · exact rep_one h n u hu
theorem allL_rep {D : Nat → Prop} {l : List A} (h : allL D l) : ∀ n, allL D (rep n l)
  | 0 => by simp [rep, allL]
  | n + 1 => by
    have key : ∀ (a b : List A), allL D a → allL D b → allL D (a ++ b) := by
      intro a b ha hb
      induction a with
      | nil => exact hb
      | cons x a ih => simp only [List.cons_append, allL] at *; exact ⟨ha.1, ih ha.2⟩
    exact key _ _ h (allL_rep h n)
theorem chunk_len (e : Ty) : ∀ (n : Nat) (cs : List C), (chunk e n cs).length = n
  | 0, _ => rfl
  | n + 1, cs => by simp [chunk, chunk_len e n]
theorem byE_le (e : Ty) : byE e ≤ 408 := by cases e <;> decide
theorem run_buildSlice_ {w : World} {t et n : Nat} {ie : TI} (hu : P.underlying t = some (.slice et)) (hie : TOk P et ie) (hs0 : 0 < ie.sz) (hsmall : n * ie.sz ≤ 16777216) {z : Value} (hz : (zeroValue et).run P w = .ok z w) (hzs : z.cells.size = ie.sz) {parts : Array (Nat × Value)} {cs : Array Value}
    (h : Instr.fill (fun i => some (i * ie.sz, ie.sz)) (rep n z.cells.toList).toArray parts.toList = some cs) : (Instr.buildSlice t n parts).run P w = .ok (.slice (some ⟨w.heap.size, 0, none⟩) n n) (w.alloc (.cells cs et)) := by
  have e1 : (Array.range (n * ie.sz)).map (z.cells[· % z.cells.size]!) = (rep n z.cells.toList).toArray := by
    apply Array.toList_inj.1
    rw [← hzs, rep_toList]
  unfold Instr.buildSlice
  simp only [Sem.run_bind, run_underlying hu, Result.andThen_ok, size_of hie]
  rw [if_neg (by simpa using hsmall)]
  by_cases h0 : n * ie.sz = 0
  · have hn : n = 0 := by
      rcases Nat.mul_eq_zero.1 h0 with h1 | h1
      · exact h1
      · omega
    subst hn
    simp only [rep] at h
    have e2 : (Array.range 0).map (fun (x : Nat) => (default : Value)) = (#[] : Array Value) := by simp
    simp [e2, h, newRow]
  · rw [if_neg h0]
    simp only [Sem.run_bind, hz, Result.andThen_ok, Sem.run_pure]
    rw [e1, h]
    simp [newRow]
theorem val_lit (hT : ∀ t i, get T t = some i → TOk P t i) {n : Nat} {o : Oper} (hd : ∀ d, o.dst = some d → d < n) {σ : St} {t et m id : Nat} {ie : TI} {e : Ty} (hu : P.underlying t = some (.slice et)) (hie : TOk P et ie) (hsz : ie.sz = szE e) (het : et = etOf e) (hid : get σ.hp id = none) {parts : Array (Nat × Operand)} (ho : o.op = .buildSlice t m parts)
    (hsmall : m * szE e ≤ 16777216) {l : List A} (hl : fillA (fun i => some (i * szE e, szE e)) (rep m ie.z) (parts.toList.map fun p => (p.1, ev σ p.2)) = some l) {ds cs : List C} (hcs : toCs (get σ.hp) ds l = some cs) (hfl : (chunk e m cs).flatMap (cells e) = cs) :
    Val P n o σ (σ.upd o.dst (.rw id) ((id, .row e (chunk e m cs)) :: frz (get σ.hp) l)) := by
  intro w0 L0 F0 F V a w hs K Q hK
  obtain ⟨z, hz1, hz2, hz3⟩ := zero_of hie w
  obtain ⟨cv, hcv, hrep, h1, hcvs⟩ := fillA_ok (F := F) (V := V) (w := w) (fun i => some (i * szE e, szE e)) (parts.toList.map fun p => (p.1, ev σ p.2)) (parts.toList.map fun p => (p.1, a.eval p.2)) (rep m ie.z) (rep m z.cells.toList).toArray l hl (by simpa using hz2.reps.rep m) (by simpa using rep_one hz2.one m) (by simp [List.map_map, Function.comp_def]) (fun j i' v b h1 h2 => by
        rw [List.getElem?_map] at h1 h2
        cases hp : parts.toList[j]? with
        | none => rw [hp] at h1; simp at h1
        | some p =>
          rw [hp] at h1 h2
          simp at h1 h2
          obtain ⟨_, rfl⟩ := h1
          obtain ⟨_, rfl⟩ := h2
          exact hs.rep p.2) hs.V1
  have hrun := run_buildSlice_ (P := P) (w := w) (n := m) (parts := parts.map fun (x : Nat × Operand) => (x.1, a.eval x.2)) (cs := cv) hu hie (by rw [hsz]; exact szE_pos e) (by rw [hsz]; exact hsmall) hz1 hz3 (by rw [hsz, Array.toList_map]; exact hcv)
  obtain ⟨F', hF, hs'⟩ := hs.freeze l
  have hidn : get (frz (get σ.hp) l ++ σ.hp) id = none := by
    rw [get_append]
    cases h3 : get (frz (get σ.hp) l) id with
    | none => exact hid
    | some o => obtain ⟨e', xs', _, h4⟩ := frz_spec h3; rw [hid] at h4; cases h4
  have hrl := toCs_rep hF hs' (fun x hx => hx) hrep hcs
  have hcl : cv.toList.length = m * szE e := by rw [hrl.length, ← hfl, flat_len, chunk_len]
  have hnew := hs'.new (id := id) hidn (v := .slice (some ⟨w.heap.size, 0, none⟩) m m) rfl (o := .row e (chunk e m cs)) (w' := w.alloc (.cells cv et)) rfl rfl rfl (by rw [alloc_size]; omega) (fun b hb => alloc_old w _ b hb)
    (.row e (chunk e m cs) cv.toList (by
      rw [chunk_len, ← het]
      refine ⟨hcl, .inr ⟨w.heap.size, m, cv, by simp [updV], Nat.zero_le _, alloc_new w _, Nat.le_refl _, ?_, by rw [← hcl, Array.length_toList], by rw [List.take_of_length_le (by omega)]⟩⟩
      have := szE_pos e
      have : m ≤ m * szE e := Nat.le_mul_of_pos_right _ this
      simp only [maxLen]; omega) (by rw [hfl]; exact hrl.move (fun _ h => h) (fun b hb => alloc_old w _ b (hs'.F_lt b hb))) (by
      rw [chunk_len]
      have h2 := szE_pos e
      have h3 : m ≤ m * szE e := Nat.le_mul_of_pos_right _ h2
      have h4 := byE_le e
      have h5 : m * byE e ≤ 16777216 * 408 := Nat.mul_le_mul (by omega) h4
      omega)) trivial (fun b hb => by
      unfold owns at hb
      rw [get_cons, if_pos rfl] at hb
      simp [updV, blk] at hb
      subst hb
      exact ⟨Nat.le_refl _, by rw [alloc_size]; omega⟩)
  have hput := hnew.putd hd (v := .slice (some ⟨w.heap.size, 0, none⟩) m m) (r := .rw id) (by have := RepA.rw (F := F') (V := updV V id (.slice (some ⟨w.heap.size, 0, none⟩) m m)) (w := w.alloc (.cells cv et)) id; simpa [updV] using this) (by simp [A.all, Def, get_cons]) (σ.nx + (1 + (frz (get σ.hp) l).length))
  unfold Oper.wp
  have hx : (execOp a.eval o).run P w = .ok (.value (.slice (some ⟨w.heap.size, 0, none⟩) m m)) (w.alloc (.cells cv et)) := by
    simp only [execOp, ho, Sem.run_bind]
    rw [hrun]
    rfl
  rw [hx]
  have e : (σ.upd o.dst (.rw id) ((id, .row e (chunk e m cs)) :: frz (get σ.hp) l)) = { ({ σ with hp := (id, .row e (chunk e m cs)) :: (frz (get σ.hp) l ++ σ.hp) } : St).upd o.dst (.rw id) [] with nx := σ.nx + (1 + (frz (get σ.hp) l).length) } := by
    simp [St.upd, Nat.add_comm]
  rw [← e] at hput
  exact hK _ _ _ _ hput
theorem castTy_ok : ∀ (e e' : Ty) (ys : List (El e')) (zs : List (El e)), castTy e e' ys = some zs → e = e' ∧ ys.flatMap (cells e') = zs.flatMap (cells e) ∧ ys.length = zs.length := by
  intro e e' ys zs h
  cases e <;> cases e' <;> first | (cases h; exact ⟨rfl, rfl, rfl⟩) | (cases h; done)
/-- What append does to a row of the call's own (or nil), whatever is appended (nil let in). -/
theorem run_append_ {w : World} {t et : Nat} {ty : TypeId} {ie : TI} {e : Ty} (hu : P.underlying t = some (.slice et)) (hie : TOk P et ie) (hsz : ie.sz = szE e) (hby : ie.by_ = byE e) {v : Value} {n : Nat} {us : List Value} (hown : w.ownsRow 0 et (szE e) v n us) {A0 : Option Addr} {m c : Nat} {news : List Value} (hl : news.length = m * szE e) (hc : 0 < m → ∃ ad, A0 = some ad ∧ CellsAt w ad news) (h1 : ∀ u ∈ news, u.oneCell' = true) (hb : (n + m) * byE e ≤ 140737488355328) :
    ∃ v' w', (Builtin.append_ #[t, t] ty #[v, .slice A0 m c]).run P w = .ok v' w' ∧ w'.ownsRow 0 et (szE e) v' (n + m) (us ++ news) ∧ w.grownBy w' v.ownBlock ∧ (v'.ownBlock = v.ownBlock ∨ v'.ownBlock = some w.heap.size) := by
  obtain ⟨y, z, hy, hys, hyb, hyz, _, hzs⟩ := hie.inf
  have hpos := byE_pos e
  have hnm : n + m ≤ 140737488355328 := Nat.le_trans (Nat.le_mul_of_pos_right _ hpos) hb
  cases A0 with
  | some ad =>
    obtain ⟨v', w', h2, h3, h4, _, h5⟩ := run_append_own_at (P := P) w 0 t ty et y z (szE e) (byE e) hu hy hyz (by rw [hys, hsz]) (by rw [hyb, hby]) (by rw [hzs, hsz]) (szE_pos e) v n us hown ad m c news hl (by
      intro j u hj
      rcases Nat.eq_zero_or_pos m with h0 | h0
      · subst h0
        have : news = [] := List.eq_nil_of_length_eq_zero (by simpa using hl)
        subst this
        simp at hj
      · obtain ⟨ad', h6, h7⟩ := hc h0
        cases h6
        exact h7 j u hj) h1 (by simp only [maxLen]; omega) hb (Nat.zero_le _)
    exact ⟨v', w', h2, h3, h4, h5⟩
  | none =>
    have hm : m = 0 := by
      rcases Nat.eq_zero_or_pos m with h0 | h0
      · exact h0
      · obtain ⟨ad', h6, _⟩ := hc h0
        cases h6
    subst hm
    have : news = [] := List.eq_nil_of_length_eq_zero (by simpa using hl)
    subst this
    refine ⟨v, w, ?_, by simpa using hown, World.grownBy.refl w _, .inl rfl⟩
    rcases hown.2 with ⟨rfl, hn⟩ | ⟨g, cap, cur, rfl, hb', _, hnc, _⟩
    · simp [Builtin.append_, run_underlying hu, sizeOf, typeInfo, hy, Builtin.lenOf, Builtin.firstCells]
    · simp [Builtin.append_, run_underlying hu, sizeOf, typeInfo, hy, Builtin.lenOf, Builtin.firstCells, hnc, storeCells]
def appCall (c : Call) (s x : Operand) (t : Nat) : Prop := c = ⟨.builtin .append, #[s, x], #[t, t]⟩
/-- What is appended, in memory. -/
theorem news_rep {n : Nat} {w0 : World} {L0 : Old} {F0 F : Nat → Prop} {V : Nat → Value} {σ : St} {a : Act} {w : World} (hs : Sim n w0 L0 F0 F V σ a w) {x : Operand} {h : Nat → Option Ob} (hag : ∀ id ∈ rdOf (ev σ x), get σ.hp id = h id) {e e' : Ty} {ys : List (El e')} {zs : List (El e)}
    (hx : (match ev σ x with | .nl => some ⟨e, []⟩ | x => isRow h x : Option ((e : Ty) × List (El e))) = some ⟨e', ys⟩) (hz : castTy e e' ys = some zs) :
    ∃ (A0 : Option Addr) (c : Nat) (us : List Value), a.eval x = .slice A0 zs.length c ∧ zs.length * byE e ≤ 140737488355328 ∧ RepL F w us (zs.flatMap (cells e)) ∧ (0 < zs.length → ∃ ad, A0 = some ad ∧ CellsAt w ad us) := by
  obtain ⟨rfl, h2, h3⟩ := castTy_ok _ _ _ _ hz
  rw [← h2, ← h3]
  split at hx
  · rename_i hxe
    cases hx
    have hr := hs.rep x
    rw [hxe] at hr
    generalize a.eval x = pv at hr
    cases hr
    exact ⟨none, 0, [], rfl, by simp, .nil, fun hp => by simp at hp⟩
  · obtain ⟨A0, c, us, h4, _, h5, h6, h7⟩ := isRow_rep hs hag hx
    exact ⟨A0, c, us, h4, h5, h6, h7⟩
theorem grown_fr {w w' : World} {row : Option Nat} (h : w.grownBy w' row) : w'.os = w.os ∧ w'.tape = w.tape ∧ w'.output = w.output ∧ w.heap.size ≤ w'.heap.size := ⟨h.os, h.tape, h.output, h.size⟩
theorem ownsRow_blk {w : World} {base : Nat} {e : TypeId} {size n : Nat} {v : Value} {xs : List Value} (h : w.ownsRow base e size v n xs) : blk v = v.ownBlock ∧ v.oneCell' = true ∧ ∀ b, blk v = some b → b < w.heap.size := by
  rcases h.2 with ⟨rfl, _⟩ | ⟨g, cap, cur, rfl, _, hh, _⟩
  · exact ⟨rfl, rfl, fun b hb => by cases hb⟩
  · exact ⟨rfl, rfl, fun b hb => by cases hb; exact (Array.getElem?_eq_some_iff.1 hh).1⟩
/-- append to nil. -/
theorem val_app_nl (hT : ∀ t i, get T t = some i → TOk P t i) {n : Nat} {o : Oper} (hd : ∀ d, o.dst = some d → d < n) {σ : St} {t et id : Nat} {ie : TI} {e e' : Ty} (hu : P.underlying t = some (.slice et)) (hie : TOk P et ie) (hsz : ie.sz = szE e) (hby : ie.by_ = byE e) (het : et = etOf e) (hid : get σ.hp id = none) {s x : Operand} {c : Call} (hc : appCall c s x t) (ho : o.op = .call c)
    (hsn : ev σ s = .nl) {h : Nat → Option Ob} (hag : ∀ id ∈ rdOf (ev σ x), get σ.hp id = h id) {ys : List (El e')} {zs : List (El e)}
    (hx : (match ev σ x with | .nl => some ⟨e, []⟩ | x => isRow h x : Option ((e : Ty) × List (El e))) = some ⟨e', ys⟩) (hz : castTy e e' ys = some zs) : Val P n o σ (σ.upd o.dst (.rw id) [(id, .row e zs)]) := by
  subst het
  unfold appCall at hc
  subst hc
  intro w0 L0 F0 F V a w hs K Q hK
  obtain ⟨A0, c, us, hxe, hb, hr, hcl⟩ := news_rep hs hag hx hz
  have hse : a.eval s = .slice none 0 0 := by
    have h1 := hs.rep s
    rw [hsn] at h1
    generalize a.eval s = pv at h1
    cases h1
    rfl
  have hul : us.length = zs.length * szE e := by rw [hr.length, flat_len]
  obtain ⟨v', w', hrun, hown, hg, hat⟩ := run_append_ (P := P) (w := w) (ty := o.type) hu hie hsz hby (v := .slice none 0 0) (n := 0) (us := []) ⟨by simp, .inl ⟨rfl, rfl⟩⟩ hul (c := c) hcl hr.one (by simpa using hb)
  obtain ⟨hbk, hv1, hblt⟩ := ownsRow_blk hown
  have hold : ∀ b, b < w.heap.size → w'.heap[b]? = w.heap[b]? := fun b hb' => hg.block b hb' (by simp [Value.ownBlock])
  have hnew := hs.new (id := id) hid (v := v') hv1 (o := .row e zs) (w' := w') hg.os hg.tape hg.output hg.size hold
    (.row e zs us (by have := hown; simp only [Nat.zero_add, List.nil_append] at this; simpa [updV] using this) (hr.move (fun _ h => h) (fun b hb' => hold b (hs.F_lt b hb'))) hb) trivial (fun b hb' => by
      unfold owns at hb'
      rw [get_cons, if_pos rfl] at hb'
      simp only [updV, if_true] at hb'
      refine ⟨?_, hblt b hb'⟩
      rw [hbk] at hb'
      rcases hat with h1 | h1
      · rw [h1] at hb'; cases hb'
      · rw [h1] at hb'; cases hb'; exact Nat.le_refl _)
  have hput := hnew.putd hd (v := v') (r := .rw id) (by have := RepA.rw (F := F) (V := updV V id v') (w := w') id; simpa [updV] using this) (by simp [A.all, Def, get_cons]) (σ.nx + 1)
  unfold Oper.wp
  have hxx : (execOp a.eval o).run P w = .ok (.value v') w' := by
    simp only [execOp, ho, resolve, invoke, builtin]
    simp [hse, hxe, hrun]
  rw [hxx]
  exact hK _ _ _ _ hput
/-- append to a row of the call's own. -/
theorem val_app_rw (hT : ∀ t i, get T t = some i → TOk P t i) {n : Nat} {o : Oper} (hd : ∀ d, o.dst = some d → d < n) {σ : St} {t et id nid : Nat} {ie : TI} {e e' : Ty} (hu : P.underlying t = some (.slice et)) (hie : TOk P et ie) (hsz : ie.sz = szE e) (hby : ie.by_ = byE e) (het : et = etOf e) (hid : get σ.hp nid = none) {s x : Operand} {c : Call} (hc : appCall c s x t) (ho : o.op = .call c)
    {xs : List (El e)} (hsn : ev σ s = .rw id) (hso : get σ.hp id = some (.row e xs)) {h : Nat → Option Ob} (hag : ∀ id ∈ rdOf (ev σ x), get σ.hp id = h id) {ys : List (El e')} {zs : List (El e)}
    (hx : (match ev σ x with | .nl => some ⟨e, []⟩ | x => isRow h x : Option ((e : Ty) × List (El e))) = some ⟨e', ys⟩) (hz : castTy e e' ys = some zs) (hlen : (xs.length + zs.length) * byE e ≤ 140737488355328) : Val P n o σ (σ.upd o.dst (.rw nid) [(id, .gone), (nid, .row e (xs ++ zs))]) := by
  subst het
  unfold appCall at hc
  subst hc
  intro w0 L0 F0 F V a w hs K Q hK
  obtain ⟨A0, c, us, hxe, hb, hr, hcl⟩ := news_rep hs hag hx hz
  have hse : a.eval s = V id := by
    have h1 := hs.rep s
    rw [hsn] at h1
    generalize a.eval s = pv at h1
    cases h1
    rfl
  have hob := hs.hp.ob id _ hso
  cases hob with
  | row _ _ us0 hown0 hr0 hb0 =>
  have hul : us.length = zs.length * szE e := by rw [hr.length, flat_len]
  obtain ⟨v', w', hrun, hown, hg, hat⟩ := run_append_ (P := P) (w := w) (ty := o.type) hu hie hsz hby hown0 hul (c := c) hcl hr.one hlen
  obtain ⟨hbk, hv1, hblt⟩ := ownsRow_blk hown
  obtain ⟨hbk0, _, hblt0⟩ := ownsRow_blk hown0
  have hne : nid ≠ id := by rintro rfl; rw [hso] at hid; cases hid
  have hoid : ∀ b, owns σ.hp V id b ↔ (V id).ownBlock = some b := by intro b; unfold owns; rw [hso]; simp only [hbk0]
  have hnew : Sim n w0 L0 F0 F (updV V nid v') { σ with hp := (id, .gone) :: (nid, .row e (xs ++ zs)) :: σ.hp } a w' := by
    have hold : ∀ b, b < w.heap.size → (∀ k, (k = id ∨ k = nid) → ¬ owns σ.hp V k b) → w'.heap[b]? = w.heap[b]? := fun b hb' hno => hg.block b hb' (fun h1 => hno id (.inl rfl) ((hoid b).2 h1.symm))
    have hFold : ∀ b, F b → w'.heap[b]? = w.heap[b]? := fun b hF => hold b (hs.F_lt b hF) (fun k _ => not_owned_of_F hs.hp hF k)
    have hgn : ∀ b, owns ((id, .gone) :: (nid, .row e (xs ++ zs)) :: σ.hp) (updV V nid v') nid b → blk v' = some b := by
      intro b hb'
      unfold owns at hb'
      rw [get_cons, if_neg (fun e => hne e.symm), get_cons, if_pos rfl] at hb'
      simpa [updV] using hb'
    have hgi : ∀ b, ¬ owns ((id, .gone) :: (nid, .row e (xs ++ zs)) :: σ.hp) (updV V nid v') id b := by
      intro b hb'
      unfold owns at hb'
      rw [get_cons, if_pos rfl] at hb'
      exact hb'
    refine hs.step (fun k => k = id ∨ k = nid) hg.os hg.tape hg.output hold hg.size (updV_ne hid v') (fun b hb => hb) (fun b hb => .inl hb) (fun b hb => Nat.lt_of_lt_of_le (hs.F_lt b hb) hg.size) (fun k => ?_) (fun k hk => ?_) (fun k hk => ?_) (fun k o' hk ho' => ?_) (fun k b hk ho' => ?_) (fun k k' b hk hk' h1 h2 => ?_)
    · unfold updV; split
      · exact hv1
      · exact hs.V1 k
    · rw [get_cons, if_neg (fun e => hk (.inl e.symm)), get_cons, if_neg (fun e => hk (.inr e.symm))]
    · unfold Def at *
      rw [get_cons]
      split
      · rfl
      · rw [get_cons]
        split
        · rfl
        · exact hk
    · rcases hk with rfl | rfl
      · rw [get_cons, if_pos rfl] at ho'
        cases ho'
        exact ⟨.gone, trivial⟩
      · rw [get_cons, if_neg (fun e => hne e.symm), get_cons, if_pos rfl] at ho'
        cases ho'
        refine ⟨.row e (xs ++ zs) (us0 ++ us) (by rw [List.length_append]; simpa [updV] using hown) ?_ (by rw [List.length_append]; exact hlen), trivial⟩
        rw [List.flatMap_append]
        exact (hr0.move (fun _ h => h) hFold).append (hr.move (fun _ h => h) hFold)
    · rcases hk with rfl | rfl
      · exact (hgi b ho').elim
      · have hb' := hgn b ho'
        refine ⟨hblt b hb', ?_, ?_⟩
        · intro hF
          rw [hbk] at hb'
          rcases hat with h1 | h1
          · rw [h1] at hb'
            exact hs.hp.nF id b ((hoid b).2 hb') hF
          · rw [h1] at hb'
            cases hb'
            exact absurd (hs.F_lt _ hF) (by omega)
        · rw [hbk] at hb'
          rcases hat with h1 | h1
          · rw [h1] at hb'
            exact .inr ⟨id, .inl rfl, (hoid b).2 hb'⟩
          · rw [h1] at hb'
            cases hb'
            exact .inl (Nat.le_refl _)
    · rcases hk with rfl | rfl
      · exact (hgi b h1).elim
      · rcases hk' with rfl | rfl
        · exact (hgi b h2).elim
        · rfl
  have hput := hnew.putd hd (v := v') (r := .rw nid) (by have := RepA.rw (F := F) (V := updV V nid v') (w := w') nid; simpa [updV] using this) (by simp only [A.all, Def, get_cons]; split <;> rfl) (σ.nx + 2)
  unfold Oper.wp
  have hxx : (execOp a.eval o).run P w = .ok (.value v') w' := by
    simp only [execOp, ho, resolve, invoke, builtin]
    simp [hse, hxe, hrun]
  rw [hxx]
  exact hK _ _ _ _ hput
end Go.Proofs.Ythbpdhppelaihaa
