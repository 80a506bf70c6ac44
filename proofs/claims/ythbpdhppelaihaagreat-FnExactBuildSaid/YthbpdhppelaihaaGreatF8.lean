/- The conditions of F4 are sound: literals of slices, make, append. Conditions: none. -/
import Derived.Test.YthbpdhppelaihaaGreatFD
import Derived.Great.BuildSlice
set_option linter.unusedVariables false
set_option linter.unusedSimpArgs false
namespace Go.Proofs.YthbpdhppelaihaaGreat
open Go.RowKit
variable {P : Program} {T : List (Nat × TI)}

theorem rep_len {α : Type} (n : Nat) (l : List α) : (rep n l).length = n * l.length := by
  induction n with
  | zero => simp [rep]
  | succ n ih => simp [rep, ih, Nat.add_mul, Nat.add_comm]
theorem rep_get {α : Type} (l : List α) : ∀ (n i : Nat), i < n * l.length → (rep n l)[i]? = l[i % l.length]?
  | 0, i, h => by simp at h
  | n + 1, i, h => by
    simp only [rep]
    rcases Nat.lt_or_ge i l.length with hi | hi
    · rw [List.getElem?_append_left hi, Nat.mod_eq_of_lt hi]
    · rw [List.getElem?_append_right hi, rep_get l n (i - l.length) (by rw [Nat.add_mul] at h; omega)]
      congr 1
      conv => rhs; rw [← Nat.sub_add_cancel hi, Nat.add_mod_right]
theorem rep_toList (z : Array Value) (n : Nat) : ((Array.range (n * z.size)).map (z[· % z.size]!)).toList = rep n z.toList := by
  apply List.ext_getElem?
  intro i
  by_cases h : i < n * z.size
  · rw [rep_get _ _ _ (by simpa using h)]
    have hz : 0 < z.size := by
      rcases Nat.eq_zero_or_pos z.size with h0 | h0
      · rw [h0] at h; simp at h
      · exact h0
    have hm : i % z.size < z.size := Nat.mod_lt _ hz
    simp [h, hm]
  · rw [List.getElem?_eq_none (by simp; omega), List.getElem?_eq_none (by rw [rep_len]; simp; omega)]
theorem RepAs.rep {F : Nat → Prop} {V : Nat → Value} {w : World} {us : List Value} {l : List A} (h : RepAs F V w us l) : ∀ n, RepAs F V w (rep n us) (rep n l)
  | 0 => .nil
  | n + 1 => h.append (h.rep n)
theorem rep_one {us : List Value} (h : ∀ u ∈ us, u.oneCell' = true) : ∀ n, ∀ u ∈ rep n us, u.oneCell' = true
  | 0, u, hu => by simp [Go.Proofs.YthbpdhppelaihaaGreat.rep] at hu
  | n + 1, u, hu => by
    simp only [Go.Proofs.YthbpdhppelaihaaGreat.rep, List.mem_append] at hu
    rcases hu with hu | hu
    · exact h u hu
    · exact rep_one h n u hu
theorem allL_rep {D : Nat → Prop} {l : List A} (h : allL D l) : ∀ n, allL D (rep n l)
  | 0 => by simp [rep, allL]
  | n + 1 => by
    have key : ∀ (a b : List A), allL D a → allL D b → allL D (a ++ b) := by
      intro a b ha hb
      induction a with
      | nil => exact hb
      | cons x a ih => simp only [List.cons_append, allL] at *; exact ⟨ha.1, ih ha.2⟩
    exact key _ _ h (allL_rep h n)
theorem chunk_len (e : Ty) : ∀ (n : Nat) (cs : List C), (chunk e n cs).length = n
  | 0, _ => rfl
  | n + 1, cs => by simp [chunk, chunk_len e n]
theorem byE_le (e : Ty) : byE e ≤ 408 := by cases e <;> decide
theorem run_buildSlice_ {w : World} {t et n : Nat} {ie : TI} (hu : P.underlying t = some (.slice et)) (hie : TOk P et ie) (hs0 : 0 < ie.sz) (hsmall : n * ie.sz ≤ 16777216) {z : Value} (hz : (zeroValue et).run P w = .ok z w) (hzs : z.cells.size = ie.sz) {parts : Array (Nat × Value)} {cs : Array Value}
    (h : Instr.fill (fun i => some (i * ie.sz, ie.sz)) (rep n z.cells.toList).toArray parts.toList = some cs) : (Instr.buildSlice t n parts).run P w = .ok (.slice (some ⟨w.heap.size, 0, none⟩) n n) (w.alloc (.cells cs et)) := by
  have e1 : (Array.range (n * ie.sz)).map (z.cells[· % z.cells.size]!) = (rep n z.cells.toList).toArray := by
    apply Array.toList_inj.1
    rw [← hzs, rep_toList]
  unfold Instr.buildSlice
  simp only [Sem.run_bind, run_underlying hu, Result.andThen_ok, size_of hie]
  rw [if_neg (by simpa using hsmall)]
  by_cases h0 : n * ie.sz = 0
  · have hn : n = 0 := by
      rcases Nat.mul_eq_zero.1 h0 with h1 | h1
      · exact h1
      · omega
    subst hn
    simp only [rep] at h
    have e2 : (Array.range 0).map (fun (x : Nat) => (default : Value)) = (#[] : Array Value) := by simp
    simp [e2, h, newRow]
  · rw [if_neg h0]
    simp only [Sem.run_bind, hz, Result.andThen_ok, Sem.run_pure]
    rw [e1, h]
    simp [newRow]
theorem val_lit (hT : ∀ t i, get T t = some i → TOk P t i) {n : Nat} {o : Oper} (hd : ∀ d, o.dst = some d → d < n) {σ : St} {t et m id : Nat} {ie : TI} {e : Ty} (hu : P.underlying t = some (.slice et)) (hie : TOk P et ie) (hsz : ie.sz = szE e) (het : et = etOf e) (hid : get σ.hp id = none) {parts : Array (Nat × Operand)} (ho : o.op = .buildSlice t m parts)
    (hsmall : m * szE e ≤ 16777216) {l : List A} (hl : fillA (fun i => some (i * szE e, szE e)) (rep m ie.z) (parts.toList.map fun p => (p.1, ev σ p.2)) = some l) {ds cs : List C} (hcs : toCs (get σ.hp) ds l = some cs) (hfl : (chunk e m cs).flatMap (cells e) = cs) :
    Val P n o σ (σ.upd o.dst (.rw id) ((id, .row e (chunk e m cs)) :: frz (get σ.hp) l)) := by
  intro w0 L0 F0 F V B a w hs K Q hK
  obtain ⟨z, hz1, hz2, hz3⟩ := zero_of hie w
  obtain ⟨cv, hcv, hrep, h1, hcvs⟩ := fillA_ok (F := F) (V := V) (w := w) (fun i => some (i * szE e, szE e)) (parts.toList.map fun p => (p.1, ev σ p.2)) (parts.toList.map fun p => (p.1, a.eval p.2)) (rep m ie.z) (rep m z.cells.toList).toArray l hl (by simpa using hz2.reps.rep m) (by simpa using rep_one hz2.one m) (by simp [List.map_map, Function.comp_def]) (fun j i' v b h1 h2 => by
        rw [List.getElem?_map] at h1 h2
        cases hp : parts.toList[j]? with
        | none => rw [hp] at h1; simp at h1
        | some p =>
          rw [hp] at h1 h2
          simp at h1 h2
          obtain ⟨_, rfl⟩ := h1
          obtain ⟨_, rfl⟩ := h2
          exact hs.rep p.2) hs.V1
  have hrun := run_buildSlice_ (P := P) (w := w) (n := m) (parts := parts.map fun (x : Nat × Operand) => (x.1, a.eval x.2)) (cs := cv) hu hie (by rw [hsz]; exact szE_pos e) (by rw [hsz]; exact hsmall) hz1 hz3 (by rw [hsz, Array.toList_map]; exact hcv)
  obtain ⟨F', hF, hs'⟩ := hs.freeze l
  have hidn : get (frz (get σ.hp) l ++ σ.hp) id = none := by
    rw [get_append]
    cases h3 : get (frz (get σ.hp) l) id with
    | none => exact hid
    | some o => obtain ⟨e', xs', _, h4⟩ := frz_spec h3; rw [hid] at h4; rcases h4 with h4 | h4 <;> cases h4
  have hrl := toCs_rep hF hs' (fun x hx => hx) hrep hcs
  have hcl : cv.toList.length = m * szE e := by rw [hrl.length, ← hfl, flat_len, chunk_len]
  have hnew := hs'.new (id := id) hidn (v := .slice (some ⟨w.heap.size, 0, none⟩) m m) rfl (o := .row e (chunk e m cs)) (w' := w.alloc (.cells cv et)) rfl rfl rfl (by rw [alloc_size]; omega) (fun _ _ => rfl) (fun b hb => alloc_old w _ b hb)
    (.row e (chunk e m cs) cv.toList (by
      rw [chunk_len]
      refine rowR_of ⟨hcl, .inr ⟨w.heap.size, m, cv, by simp [updV], Nat.zero_le _, by rw [het]; exact alloc_new w _, Nat.le_refl _, ?_, by rw [← hcl, Array.length_toList], by rw [List.take_of_length_le (by omega)]⟩⟩
      have := szE_pos e
      have : m ≤ m * szE e := Nat.le_mul_of_pos_right _ this
      simp only [maxLen]; omega) (by rw [hfl]; exact hrl.move (fun _ h => h) (fun b hb => alloc_old w _ b (hs'.F_lt b hb))) (by
      rw [chunk_len]
      have h2 := szE_pos e
      have h3 : m ≤ m * szE e := Nat.le_mul_of_pos_right _ h2
      have h4 := byE_le e
      have h5 : m * byE e ≤ 16777216 * 408 := Nat.mul_le_mul (by omega) h4
      omega)) trivial (fun b hb => by
      unfold owns at hb
      rw [get_cons, if_pos rfl] at hb
      simp only [updV, if_true] at hb
      obtain rfl := blk_sl hb
      exact ⟨Nat.le_refl _, by rw [alloc_size]; show w.heap.size < _; omega⟩)
  have hput := hnew.putd hd (v := .slice (some ⟨w.heap.size, 0, none⟩) m m) (r := .rw id) (by have := RepA.rw (F := F') (V := updV V id (.slice (some ⟨w.heap.size, 0, none⟩) m m)) (w := w.alloc (.cells cv et)) id; simpa [updV] using this) (by simp [A.all, Def, get_cons]) (σ.nx + (1 + (frz (get σ.hp) l).length))
  unfold Oper.wp
  have hx : (execOp a.eval o).run P w = .ok (.value (.slice (some ⟨w.heap.size, 0, none⟩) m m)) (w.alloc (.cells cv et)) := by
    simp only [execOp, ho, Sem.run_bind]
    rw [hrun]
    rfl
  rw [hx]
  have e : (σ.upd o.dst (.rw id) ((id, .row e (chunk e m cs)) :: frz (get σ.hp) l)) = { ({ σ with hp := (id, .row e (chunk e m cs)) :: (frz (get σ.hp) l ++ σ.hp) } : St).upd o.dst (.rw id) [] with nx := σ.nx + (1 + (frz (get σ.hp) l).length) } := by
    simp [St.upd, Nat.add_comm]
  rw [← e] at hput
  exact hK _ _ _ _ _ hput
/-- A literal into which goes over what is one's own all the way down. -/
theorem val_litD (hT : ∀ t i, get T t = some i → TOk P t i) {n : Nat} {o : Oper} (hd : ∀ d, o.dst = some d → d < n) {σ : St} {t et m id : Nat} {ie : TI} {e : Ty} (hu : P.underlying t = some (.slice et)) (hie : TOk P et ie) (hsz : ie.sz = szE e) (het : et = etOf e) (hid : get σ.hp id = none) {parts : Array (Nat × Operand)} (ho : o.op = .buildSlice t m parts)
    (hsmall : m * szE e ≤ 16777216) {l : List A} (hl : fillA (fun i => some (i * szE e, szE e)) (rep m ie.z) (parts.toList.map fun p => (p.1, ev σ p.2)) = some l) {ds cs : List C} (hcs : toCs (get σ.hp) ds l = some cs) (hfl : (chunk e m cs).flatMap (cells e) = cs) (hok : okDs (get σ.hp) l = true) (hnd : nodupN (idsL l) = true) :
    Val P n o σ (σ.upd o.dst (.rw id) ((id, .dp e (chunk e m cs)) :: kill (idsL l))) := by
  intro w0 L0 F0 F V B a w hs K Q hK
  obtain ⟨z, hz1, hz2, hz3⟩ := zero_of hie w
  obtain ⟨cv, hcv, hrep, h1, hcvs⟩ := fillA_ok (F := F) (V := V) (w := w) (fun i => some (i * szE e, szE e)) (parts.toList.map fun p => (p.1, ev σ p.2)) (parts.toList.map fun p => (p.1, a.eval p.2)) (rep m ie.z) (rep m z.cells.toList).toArray l hl (by simpa using hz2.reps.rep m) (by simpa using rep_one hz2.one m) (by simp [List.map_map, Function.comp_def]) (fun j i' v b h1 h2 => by
        rw [List.getElem?_map] at h1 h2
        cases hp : parts.toList[j]? with
        | none => rw [hp] at h1; simp at h1
        | some p =>
          rw [hp] at h1 h2
          simp at h1 h2
          obtain ⟨_, rfl⟩ := h1
          obtain ⟨_, rfl⟩ := h2
          exact hs.rep p.2) hs.V1
  have hrun := run_buildSlice_ (P := P) (w := w) (n := m) (parts := parts.map fun (x : Nat × Operand) => (x.1, a.eval x.2)) (cs := cv) hu hie (by rw [hsz]; exact szE_pos e) (by rw [hsz]; exact hsmall) hz1 hz3 (by rw [hsz, Array.toList_map]; exact hcv)
  obtain ⟨bs, hown, hbo⟩ := okDs_own hs hrep hok (nodupN_iff hnd) hcs
  have hcl : cv.toList.length = m * szE e := by rw [hown.length, ← hfl, flat_len, chunk_len]
  have hbl : ∀ b ∈ bs, b < w.heap.size := fun b hb => by obtain ⟨k, _, hk⟩ := hbo b hb; exact hs.hp.lt k b hk
  have hdf := okDs_def hok
  have hoo : Own (w.alloc (.cells cv et)) (.slice (some ⟨w.heap.size, 0, none⟩) m m) (.sl e (chunk e m cs)) (bkl (.slice (some ⟨w.heap.size, 0, none⟩) m m) ++ bs) := by
    refine .sl e _ _ cv.toList bs ?_ ?_ ?_ ?_
    · rw [chunk_len]
      have h2 := szE_pos e
      have h3 : m ≤ m * szE e := Nat.le_mul_of_pos_right _ h2
      have h4 := byE_le e
      have h5 : m * byE e ≤ 16777216 * 408 := Nat.mul_le_mul (by omega) h4
      omega
    · rw [chunk_len]
      refine rowR_of ⟨hcl, .inr ⟨w.heap.size, m, cv, rfl, Nat.zero_le _, by rw [het]; exact alloc_new w _, Nat.le_refl _, ?_, by rw [← hcl, Array.length_toList], by rw [List.take_of_length_le (by omega)]⟩⟩
      have := szE_pos e
      have : m ≤ m * szE e := Nat.le_mul_of_pos_right _ this
      simp only [maxLen]; omega
    · rw [hfl]; exact hown.move fun b hb => alloc_old w _ b (hbl b hb)
    · rw [List.nodup_append]
      refine ⟨by unfold bkl; cases blk _ <;> simp, hown.nodup, fun x hx y hy e => ?_⟩
      have := blk_sl (bkl_mem.1 hx)
      have := hbl y hy
      simp only at *
      omega
  have hnew := hs.turn (t := id) (ks := idsL l) (v := .slice (some ⟨w.heap.size, 0, none⟩) m m) (bs := bkl (.slice (some ⟨w.heap.size, 0, none⟩) m m) ++ bs) (o := .dp e (chunk e m cs)) (w' := w.alloc (.cells cv et)) (fun hm => by have := hdf id hm; rw [hid] at this; cases this) (fun k hk => hdf k hk) (.inl hid) rfl rfl rfl rfl (by rw [alloc_size]; omega)
    (fun b hb _ => alloc_old w _ b hb) (.dp e _ (by simp only [updV, updB, if_true]; exact hoo)) trivial (fun b hb => by
      unfold owns at hb
      rw [get_cons, if_pos rfl] at hb
      simp only [updB, if_true] at hb
      rcases List.mem_append.1 hb with hb | hb
      · obtain rfl := blk_sl (bkl_mem.1 hb)
        exact .inl ⟨Nat.le_refl _, by rw [alloc_size]; show w.heap.size < _; omega⟩
      · obtain ⟨k, hk, hko⟩ := hbo b hb
        exact .inr ⟨k, .inr hk, hko⟩)
  have hput := hnew.putd hd (v := .slice (some ⟨w.heap.size, 0, none⟩) m m) (r := .rw id) (by have := RepA.rw (F := F) (V := updV V id (.slice (some ⟨w.heap.size, 0, none⟩) m m)) (w := w.alloc (.cells cv et)) id; simpa [updV] using this) (by simp [A.all, Def, get_cons]) (σ.nx + (1 + (kill (idsL l)).length))
  unfold Oper.wp
  have hx : (execOp a.eval o).run P w = .ok (.value (.slice (some ⟨w.heap.size, 0, none⟩) m m)) (w.alloc (.cells cv et)) := by
    simp only [execOp, ho, Sem.run_bind]
    rw [hrun]
    rfl
  rw [hx]
  have e : (σ.upd o.dst (.rw id) ((id, .dp e (chunk e m cs)) :: kill (idsL l))) = { ({ σ with hp := (id, .dp e (chunk e m cs)) :: (kill (idsL l) ++ σ.hp) } : St).upd o.dst (.rw id) [] with nx := σ.nx + (1 + (kill (idsL l)).length) } := by
    simp [St.upd, Nat.add_comm]
  rw [← e] at hput
  exact hK _ _ _ _ _ hput
theorem castTy_ok : ∀ (e e' : Ty) (ys : List (El e')) (zs : List (El e)), castTy e e' ys = some zs → e = e' ∧ ys.flatMap (cells e') = zs.flatMap (cells e) ∧ ys.length = zs.length := by
  intro e e' ys zs h
  cases e <;> cases e' <;> first | (cases h; exact ⟨rfl, rfl, rfl⟩) | (cases h; done)
/-- What append does to a row of the call's own (or nil), whatever is appended (nil let in). -/
theorem run_append_ {w : World} {t et : Nat} {ty : TypeId} {ie : TI} {e : Ty} (hu : P.underlying t = some (.slice et)) (hie : TOk P et ie) (hsz : ie.sz = szE e) (hby : ie.by_ = byE e) {v : Value} {n : Nat} {us : List Value} (hown : w.ownsRow 0 et (szE e) v n us) {A0 : Option Addr} {m c : Nat} {news : List Value} (hl : news.length = m * szE e) (hc : 0 < m → ∃ ad, A0 = some ad ∧ CellsAt w ad news) (h1 : ∀ u ∈ news, u.oneCell' = true) (hb : (n + m) * byE e ≤ 140737488355328) :
    ∃ v' w', (Builtin.append_ #[t, t] ty #[v, .slice A0 m c]).run P w = .ok v' w' ∧ w'.ownsRow 0 et (szE e) v' (n + m) (us ++ news) ∧ w.grownBy w' v.ownBlock ∧ (v'.ownBlock = v.ownBlock ∨ v'.ownBlock = some w.heap.size) := by
  obtain ⟨y, z, hy, hys, hyb, hyz, _, hzs⟩ := hie.inf
  have hpos := byE_pos e
  have hnm : n + m ≤ 140737488355328 := Nat.le_trans (Nat.le_mul_of_pos_right _ hpos) hb
  cases A0 with
  | some ad =>
    obtain ⟨v', w', h2, h3, h4, _, h5⟩ := run_append_own_at (P := P) w 0 t ty et y z (szE e) (byE e) hu hy hyz (by rw [hys, hsz]) (by rw [hyb, hby]) (by rw [hzs, hsz]) (szE_pos e) v n us hown ad m c news hl (by
      intro j u hj
      rcases Nat.eq_zero_or_pos m with h0 | h0
      · subst h0
        have : news = [] := List.eq_nil_of_length_eq_zero (by simpa using hl)
        subst this
        simp at hj
      · obtain ⟨ad', h6, h7⟩ := hc h0
        cases h6
        exact h7 j u hj) h1 (by simp only [maxLen]; omega) hb (Nat.zero_le _)
    exact ⟨v', w', h2, h3, h4, h5⟩
  | none =>
    have hm : m = 0 := by
      rcases Nat.eq_zero_or_pos m with h0 | h0
      · exact h0
      · obtain ⟨ad', h6, _⟩ := hc h0
        cases h6
    subst hm
    have : news = [] := List.eq_nil_of_length_eq_zero (by simpa using hl)
    subst this
    refine ⟨v, w, ?_, by simpa using hown, World.grownBy.refl w _, .inl rfl⟩
    rcases hown.2 with ⟨rfl, hn⟩ | ⟨g, cap, cur, rfl, hb', _, hnc, _⟩
    · simp [Builtin.append_, run_underlying hu, sizeOf, typeInfo, hy, Builtin.lenOf, Builtin.firstCells]
    · simp [Builtin.append_, run_underlying hu, sizeOf, typeInfo, hy, Builtin.lenOf, Builtin.firstCells, hnc, storeCells]
/-- The same of rows as they are told here. -/
theorem run_append_R {w : World} {t : Nat} {ty : TypeId} {ie : TI} {e : Ty} (hu : P.underlying t = some (.slice (etOf e))) (hie : TOk P (etOf e) ie) (hsz : ie.sz = szE e) (hby : ie.by_ = byE e) {v : Value} {n : Nat} {us : List Value} (hown : rowR w e v n us) {A0 : Option Addr} {m c : Nat} {news : List Value} (hl : news.length = m * szE e) (hc : 0 < m → ∃ ad, A0 = some ad ∧ CellsAt w ad news) (h1 : ∀ u ∈ news, u.oneCell' = true) (hb : (n + m) * byE e ≤ 140737488355328) :
    ∃ v' w', (Builtin.append_ #[t, t] ty #[v, .slice A0 m c]).run P w = .ok v' w' ∧ rowR w' e v' (n + m) (us ++ news) ∧ w'.os = w.os ∧ w'.tape = w.tape ∧ w'.output = w.output ∧ w.heap.size ≤ w'.heap.size ∧ (∀ b, b < w.heap.size → blk v ≠ some b → w'.heap[b]? = w.heap[b]?) ∧ ∀ b, blk v' = some b → blk v = some b ∨ b = w.heap.size := by
  have hnew : ∀ (k old : Nat), True := fun _ _ => trivial
  by_cases hz : ∃ ad, v = .slice (some ad) 0 0
  · obtain ⟨ad, rfl⟩ := hz
    have hn : n = 0 := by
      rcases hown.2 with ⟨a, h1, h2⟩ | ⟨g, cap, cur, h1, _⟩
      · exact h2
      · cases h1
    subst hn
    have hus : us = [] := List.eq_nil_of_length_eq_zero (by simpa using hown.1)
    subst hus
    obtain ⟨y, z, hy, hys, hyb, hyz, _, hzs⟩ := hie.inf
    by_cases hm : m = 0
    · subst hm
      have : news = [] := List.eq_nil_of_length_eq_zero (by simpa using hl)
      subst this
      refine ⟨.slice (some ad) 0 0, w, ?_, by simpa using hown, rfl, rfl, rfl, Nat.le_refl _, fun _ _ _ => rfl, fun b hb => .inl hb⟩
      cases A0 <;> simp [Builtin.append_, run_underlying hu, sizeOf, typeInfo, hy, Builtin.lenOf, Builtin.firstCells, loadCells, loadCellsFrom, storeCells]
    · obtain ⟨ad', rfl, hcc⟩ := hc (by omega)
      have hbp := byE_pos e
      have hmb : m ≤ 140737488355328 := Nat.le_trans (Nat.le_mul_of_pos_right _ hbp) (by simpa using hb)
      have hfit : Builtin.nextslicecap (0 + m) 0 * y.bytes ≤ 281474976710656 := growslice_fits (by omega) (by rw [hyb, hby]; exact hb)
      have hr := run_append_grow (P := P) w t ty (etOf e) y z hu hy hyz ad 0 0 [] (by simp) (by simp) ad' m c news (by rw [hys, hsz]; exact hl) hcc (by omega) (by omega) hfit
      have hge := grownCap_ge w (0 + m) 0 (etOf e)
      have hcm : grownCap w (0 + m) 0 (etOf e) ≤ maxLen := grownCap_le_maxLen w (0 + m) 0 (etOf e) (by simp only [maxLen]; omega)
      simp only [Nat.zero_add] at hr hge hcm ⊢
      refine ⟨_, _, hr, rowR_of ⟨by simpa using hl, .inr ⟨w.heap.size, _, _, rfl, Nat.zero_le _, heap_alloc_new w.drew _, hge, hcm, ?_, ?_⟩⟩, rfl, rfl, rfl, by simp, fun k hk _ => alloc_old w.drew _ k hk, fun b hb => .inr (blk_sl hb)⟩
      · simp only [List.nil_append, Array.size_append, List.size_toArray, size_zeroCells, hzs, hl, hsz, ← Nat.add_mul, List.length_nil, Nat.zero_add]
        congr 1
        omega
      · simp only [Array.toList_append, List.nil_append]
        have : m * szE e = news.length := by rw [hl]
        rw [this]
        exact List.take_left
  · have hz' : ∀ a, v ≠ .slice (some a) 0 0 := fun a h => hz ⟨a, h⟩
    have hown0 := rowR_own hown hz'
    obtain ⟨v', w', hrun, ho', hg, hat⟩ := run_append_ (P := P) (w := w) (ty := ty) hu hie hsz hby hown0 (A0 := A0) (c := c) hl hc h1 hb
    have hvb : v.ownBlock = blk v := by
      rcases hown.2 with ⟨a, rfl, _⟩ | ⟨g, cap, cur, rfl, _⟩
      · cases a with
        | none => rfl
        | some a => exact (hz' a rfl).elim
      · rfl
    refine ⟨v', w', hrun, rowR_of ho', hg.os, hg.tape, hg.output, hg.size, fun b hb' hne => hg.block b hb' (by rw [hvb]; exact fun e => hne e.symm), fun b hb' => ?_⟩
    have hb2 : v'.ownBlock = some b := by
      rcases ho'.2 with ⟨rfl, _⟩ | ⟨g, cap, cur, rfl, _⟩
      · cases hb'
      · rw [blk_sl hb']; rfl
    rcases hat with h | h
    · rw [hb2, hvb] at h; exact .inl h.symm
    · rw [hb2] at h; cases h; exact .inr rfl
def appCall (c : Call) (s x : Operand) (t : Nat) : Prop := c = ⟨.builtin .append, #[s, x], #[t, t]⟩
/-- What is appended, in memory. -/
theorem news_rep {n : Nat} {w0 : World} {L0 : Old} {F0 F : Nat → Prop} {V : Nat → Value} {B : Nat → List Nat} {σ : St} {a : Act} {w : World} (hs : Sim n w0 L0 F0 F V B σ a w) {x : Operand} {h : Nat → Option Ob} (hag : ∀ id ∈ rdOf (ev σ x), get σ.hp id = h id) {e e' : Ty} {ys : List (El e')} {zs : List (El e)}
    (hx : (match ev σ x with | .nl => some ⟨e, []⟩ | x => isRow h x : Option ((e : Ty) × List (El e))) = some ⟨e', ys⟩) (hz : castTy e e' ys = some zs) :
    ∃ (A0 : Option Addr) (c : Nat) (us : List Value), a.eval x = .slice A0 zs.length c ∧ zs.length * byE e ≤ 140737488355328 ∧ RepL F w us (zs.flatMap (cells e)) ∧ (0 < zs.length → ∃ ad, A0 = some ad ∧ CellsAt w ad us) := by
  obtain ⟨rfl, h2, h3⟩ := castTy_ok _ _ _ _ hz
  rw [← h2, ← h3]
  split at hx
  · rename_i hxe
    cases hx
    have hr := hs.rep x
    rw [hxe] at hr
    generalize a.eval x = pv at hr
    cases hr
    exact ⟨none, 0, [], rfl, by simp, .nil, fun hp => by simp at hp⟩
  · obtain ⟨A0, c, us, h4, _, h5, h6, h7⟩ := isRow_rep hs hag hx
    exact ⟨A0, c, us, h4, h5, h6, h7⟩
theorem grown_fr {w w' : World} {row : Option Nat} (h : w.grownBy w' row) : w'.os = w.os ∧ w'.tape = w.tape ∧ w'.output = w.output ∧ w.heap.size ≤ w'.heap.size := ⟨h.os, h.tape, h.output, h.size⟩
/-- append to nil. -/
theorem val_app_nl (hT : ∀ t i, get T t = some i → TOk P t i) {n : Nat} {o : Oper} (hd : ∀ d, o.dst = some d → d < n) {σ : St} {t et id : Nat} {ie : TI} {e e' : Ty} (hu : P.underlying t = some (.slice et)) (hie : TOk P et ie) (hsz : ie.sz = szE e) (hby : ie.by_ = byE e) (het : et = etOf e) (hid : get σ.hp id = none) {s x : Operand} {c : Call} (hc : appCall c s x t) (ho : o.op = .call c)
    (hsn : ev σ s = .nl) {h : Nat → Option Ob} (hag : ∀ id ∈ rdOf (ev σ x), get σ.hp id = h id) {ys : List (El e')} {zs : List (El e)}
    (hx : (match ev σ x with | .nl => some ⟨e, []⟩ | x => isRow h x : Option ((e : Ty) × List (El e))) = some ⟨e', ys⟩) (hz : castTy e e' ys = some zs) : Val P n o σ (σ.upd o.dst (.rw id) [(id, .row e zs)]) := by
  subst het
  unfold appCall at hc
  subst hc
  intro w0 L0 F0 F V B a w hs K Q hK
  obtain ⟨A0, c, us, hxe, hb, hr, hcl⟩ := news_rep hs hag hx hz
  have hse : a.eval s = .slice none 0 0 := by
    have h1 := hs.rep s
    rw [hsn] at h1
    generalize a.eval s = pv at h1
    cases h1
    rfl
  have hul : us.length = zs.length * szE e := by rw [hr.length, flat_len]
  obtain ⟨v', w', hrun, hown, hos, htp, hou, hsize, hold, hat⟩ := run_append_R (P := P) (w := w) (ty := o.type) hu hie hsz hby (v := .slice none 0 0) (n := 0) (us := []) ⟨by simp, .inl ⟨none, rfl, rfl⟩⟩ hul (c := c) hcl hr.one (by simpa using hb)
  have hold : ∀ b, b < w.heap.size → w'.heap[b]? = w.heap[b]? := fun b hb' => hold b hb' (by simp [blk])
  have hown : rowR w' e v' zs.length us := by simpa using hown
  have hnew := hs.new (id := id) hid (v := v') hown.one (o := .row e zs) (w' := w') hos htp hou hsize (B' := B) (fun _ _ => rfl) hold
    (.row e zs us (by simpa [updV] using hown) (hr.move (fun _ h => h) (fun b hb' => hold b (hs.F_lt b hb'))) hb) trivial (fun b hb' => by
      unfold owns at hb'
      rw [get_cons, if_pos rfl] at hb'
      simp only [updV, if_true] at hb'
      refine ⟨?_, hown.lt b hb'⟩
      rcases hat b hb' with h1 | h1
      · cases h1
      · omega)
  have hput := hnew.putd hd (v := v') (r := .rw id) (by have := RepA.rw (F := F) (V := updV V id v') (w := w') id; simpa [updV] using this) (by simp [A.all, Def, get_cons]) (σ.nx + 1)
  unfold Oper.wp
  have hxx : (execOp a.eval o).run P w = .ok (.value v') w' := by
    simp only [execOp, ho, resolve, invoke, builtin]
    simp [hse, hxe, hrun]
  rw [hxx]
  exact hK _ _ _ _ _ hput
/-- append to a row of the call's own. -/
theorem val_app_rw (hT : ∀ t i, get T t = some i → TOk P t i) {n : Nat} {o : Oper} (hd : ∀ d, o.dst = some d → d < n) {σ : St} {t et id nid : Nat} {ie : TI} {e e' : Ty} (hu : P.underlying t = some (.slice et)) (hie : TOk P et ie) (hsz : ie.sz = szE e) (hby : ie.by_ = byE e) (het : et = etOf e) (hid : get σ.hp nid = none) {s x : Operand} {c : Call} (hc : appCall c s x t) (ho : o.op = .call c)
    {xs : List (El e)} (hsn : ev σ s = .rw id) (hso : get σ.hp id = some (.row e xs)) {h : Nat → Option Ob} (hag : ∀ id ∈ rdOf (ev σ x), get σ.hp id = h id) {ys : List (El e')} {zs : List (El e)}
    (hx : (match ev σ x with | .nl => some ⟨e, []⟩ | x => isRow h x : Option ((e : Ty) × List (El e))) = some ⟨e', ys⟩) (hz : castTy e e' ys = some zs) (hlen : (xs.length + zs.length) * byE e ≤ 140737488355328) : Val P n o σ (σ.upd o.dst (.rw nid) [(id, .gone), (nid, .row e (xs ++ zs))]) := by
  subst het
  unfold appCall at hc
  subst hc
  intro w0 L0 F0 F V B a w hs K Q hK
  obtain ⟨A0, c, us, hxe, hb, hr, hcl⟩ := news_rep hs hag hx hz
  have hse : a.eval s = V id := by
    have h1 := hs.rep s
    rw [hsn] at h1
    generalize a.eval s = pv at h1
    cases h1
    rfl
  have hob := hs.hp.ob id _ hso
  cases hob with
  | row _ _ us0 hown0 hr0 hb0 =>
  have hul : us.length = zs.length * szE e := by rw [hr.length, flat_len]
  obtain ⟨v', w', hrun, hown, hos, htp, hou, hsize, hold0, hat⟩ := run_append_R (P := P) (w := w) (ty := o.type) hu hie hsz hby hown0 hul (c := c) hcl hr.one hlen
  have hne : nid ≠ id := by rintro rfl; rw [hso] at hid; cases hid
  have hoid : ∀ b, owns σ.hp V B id b ↔ blk (V id) = some b := by intro b; unfold owns; rw [hso]
  have hold : ∀ b, b < w.heap.size → (∀ k, (k = nid ∨ k ∈ [id]) → ¬ owns σ.hp V B k b) → w'.heap[b]? = w.heap[b]? := fun b hb' hno => hold0 b hb' (fun h1 => hno id (.inr (by simp)) ((hoid b).2 h1))
  have hFold : ∀ b, F b → w'.heap[b]? = w.heap[b]? := fun b hF => hold b (hs.F_lt b hF) (fun k _ => not_owned_of_F hs.hp hF k)
  have hnew := hs.turn (t := nid) (ks := [id]) (v := v') (bs := []) (o := .row e (xs ++ zs)) (w' := w') (by simpa using hne) (fun k hk => by simp at hk; subst hk; unfold Def; rw [hso]; rfl) (.inl hid) hown.one hos htp hou hsize hold
    (.row e (xs ++ zs) (us0 ++ us) (by rw [List.length_append]; simpa [updV] using hown) (by
        rw [List.flatMap_append]
        exact (hr0.move (fun _ h => h) hFold).append (hr.move (fun _ h => h) hFold)) (by rw [List.length_append]; exact hlen)) trivial (fun b hb' => by
      unfold owns at hb'
      rw [get_cons, if_pos rfl] at hb'
      simp only [updV, if_true] at hb'
      rcases hat b hb' with h1 | h1
      · exact .inr ⟨id, .inr (by simp), (hoid b).2 h1⟩
      · exact .inl ⟨by omega, hown.lt b hb'⟩)
  have hput := hnew.putd hd (v := v') (r := .rw nid) (by have := RepA.rw (F := F) (V := updV V nid v') (w := w') nid; simpa [updV] using this) (by simp [A.all, Def, get_cons]) (σ.nx + 2)
  unfold Oper.wp
  have hxx : (execOp a.eval o).run P w = .ok (.value v') w' := by
    simp only [execOp, ho, resolve, invoke, builtin]
    simp [hse, hxe, hrun]
  rw [hxx]
  refine hK _ _ _ _ _ (hput.congr (fun t => rfl) (fun k => ?_))
  show get ([(id, Ob.gone), (nid, .row e (xs ++ zs))] ++ σ.hp) k = get ((nid, .row e (xs ++ zs)) :: (kill [id] ++ σ.hp)) k
  simp only [kill, List.cons_append, List.nil_append, get_cons]
  by_cases h1 : id = k
  · subst h1; simp [hne]
  · by_cases h2 : nid = k
    · subst h2; simp [h1]
    · simp [h1, h2]
/-- append of what is one's own all the way down: it goes over. s0: the row's own cells, if it is one. -/
theorem val_appD (hT : ∀ t i, get T t = some i → TOk P t i) {n : Nat} {o : Oper} (hd : ∀ d, o.dst = some d → d < n) {σ : St} {t et nid idx : Nat} {ie : TI} {e e' : Ty} (hu : P.underlying t = some (.slice et)) (hie : TOk P et ie) (hsz : ie.sz = szE e) (hby : ie.by_ = byE e) (het : et = etOf e) (hid : get σ.hp nid = none) {s x : Operand} {c : Call} (hc : appCall c s x t) (ho : o.op = .call c)
    {ks : List Nat} {xs : List (El e)} (hsn : (ev σ s = .nl ∧ ks = [idx] ∧ xs = []) ∨ ∃ id, ev σ s = .rw id ∧ id ≠ idx ∧ ks = [id, idx] ∧ (get σ.hp id = some (.dp e xs) ∨ (get σ.hp id = some (.row e []) ∧ xs = []))) {ys : List (El e')} {zs : List (El e)}
    (hx : ev σ x = .rw idx) (hxo : get σ.hp idx = some (.dp e' ys)) (hz : castTy e e' ys = some zs) (hlen : (xs.length + zs.length) * byE e ≤ 140737488355328) : Val P n o σ (σ.upd o.dst (.rw nid) ((nid, .dp e (xs ++ zs)) :: kill ks)) := by
  subst het
  unfold appCall at hc
  subst hc
  intro w0 L0 F0 F V B a w hs K Q hK
  obtain ⟨rfl, hzc, hzl⟩ := castTy_ok _ _ _ _ hz
  have hxe : a.eval x = V idx := by
    have h1 := hs.rep x
    rw [hx] at h1
    generalize a.eval x = pv at h1
    cases h1
    rfl
  have hobx := hs.hp.ob idx _ hxo
  have hox : ∀ b, owns σ.hp V B idx b ↔ b ∈ B idx := by intro b; unfold owns; rw [hxo]
  cases hobx with
  | dp _ _ hown1 =>
  obtain ⟨us1, b1, hb1, hro1, hr1, hn1, hB1⟩ := hown1.inv
  rw [hzc] at hr1
  rw [hzl] at hro1 hb1
  obtain ⟨A0, c, hvx, hle, hA⟩ := hro1.cells
  -- the row that it goes to
  obtain ⟨v0, us0, b0, hse, hro0, hr0, hn0, hb0o, hksd, hbk0, hne0⟩ : ∃ v0 us0 b0, a.eval s = v0 ∧ rowR w e v0 xs.length us0 ∧ OwnL w us0 (xs.flatMap (cells e)) b0 ∧ (bkl v0 ++ b0).Nodup ∧ (∀ b ∈ b0, ∃ k ∈ ks, k ≠ idx ∧ owns σ.hp V B k b) ∧ (∀ k ∈ ks, Def σ.hp k) ∧ (∀ b, blk v0 = some b → ∃ k ∈ ks, k ≠ idx ∧ owns σ.hp V B k b) ∧ idx ∈ ks := by
    rcases hsn with ⟨h1, rfl, rfl⟩ | ⟨id, h1, h2, rfl, h3⟩
    · have h4 := hs.rep s
      rw [h1] at h4
      generalize hpv : a.eval s = pv at h4
      cases h4
      exact ⟨_, [], [], rfl, ⟨by simp, .inl ⟨none, rfl, rfl⟩⟩, .nil, by simp [bkl, blk], fun b hb => by simp at hb, fun k hk => by simp at hk; subst hk; unfold Def; rw [hxo]; rfl, fun b hb => by simp [blk] at hb, by simp⟩
    · have h4 := hs.rep s
      rw [h1] at h4
      generalize hpv : a.eval s = pv at h4
      cases h4
      rcases h3 with h3 | ⟨h3, rfl⟩
      · have hob := hs.hp.ob id _ h3
        cases hob with
        | dp _ _ hown0 =>
          obtain ⟨us0, b0, _, hro0, hr0, hn0, hB0⟩ := hown0.inv
          have ho0 : ∀ b, b ∈ bkl (V id) ++ b0 → owns σ.hp V B id b := fun b hb => by unfold owns; rw [h3, hB0]; exact hb
          exact ⟨_, us0, b0, rfl, hro0, hr0, hn0, fun b hb => ⟨id, by simp, h2, ho0 b (List.mem_append_right _ hb)⟩, fun k hk => by simp at hk; rcases hk with rfl | rfl <;> unfold Def <;> simp [h3, hxo], fun b hb => ⟨id, by simp, h2, ho0 b (List.mem_append_left _ (bkl_mem.2 hb))⟩, by simp⟩
      · have hob := hs.hp.ob id _ h3
        cases hob with
        | row _ _ us0 hro0 hr0 hb0 =>
          have hr0' := own_flats (.inr rfl) hr0
          exact ⟨_, us0, [], rfl, hro0, hr0', by unfold bkl; cases blk _ <;> simp, fun b hb => by simp at hb, fun k hk => by simp at hk; rcases hk with rfl | rfl <;> unfold Def <;> simp [h3, hxo], fun b hb => ⟨id, by simp, h2, by unfold owns; rw [h3]; exact hb⟩, by simp⟩
  have hul : us1.length = zs.length * szE e := by rw [hr1.length, flat_len]
  obtain ⟨v', w', hrun, hown, hos, htp, hou, hsize, hold0, hat⟩ := run_append_R (P := P) (w := w) (ty := o.type) hu hie hsz hby hro0 hul (A0 := A0) (c := c) (fun hp => by obtain ⟨g, h1, _, h2⟩ := hA hp; exact ⟨_, h1, h2⟩) hr1.one hlen
  have hox1 : ∀ b ∈ b1, owns σ.hp V B idx b := fun b hb => (hox b).2 (by rw [hB1]; exact List.mem_append_right _ hb)
  have hdisj : ∀ b k, k ≠ idx → owns σ.hp V B k b → ¬ owns σ.hp V B idx b := fun b k hk h1 h2 => hk (hs.hp.apart k idx b h1 h2)
  have hkeep0 : ∀ b ∈ b0, w'.heap[b]? = w.heap[b]? := fun b hb => hold0 b (hr0.lt b hb) fun h => by
    rw [List.nodup_append] at hn0
    exact hn0.2.2 b (bkl_mem.2 h) b hb rfl
  have hkeep1 : ∀ b ∈ b1, w'.heap[b]? = w.heap[b]? := fun b hb => hold0 b (hr1.lt b hb) fun h => by
    obtain ⟨k, _, hk, hko⟩ := hbk0 b h
    exact hdisj b k hk hko (hox1 b hb)
  have hnd : (bkl v' ++ (b0 ++ b1)).Nodup := by
    rw [List.nodup_append, List.nodup_append]
    refine ⟨by unfold bkl; cases blk _ <;> simp, ⟨hr0.nodup, hr1.nodup, fun x hx y hy e => ?_⟩, fun x hx y hy e => ?_⟩
    · subst e
      obtain ⟨k, _, hk, hko⟩ := hb0o x hx
      exact hdisj x k hk hko (hox1 x hy)
    · subst e
      rcases List.mem_append.1 hy with hy | hy
      · rcases hat x (bkl_mem.1 hx) with h | h
        · rw [List.nodup_append] at hn0
          exact hn0.2.2 x (bkl_mem.2 h) x hy rfl
        · have := hr0.lt x hy; omega
      · rcases hat x (bkl_mem.1 hx) with h | h
        · obtain ⟨k, _, hk, hko⟩ := hbk0 x h
          exact hdisj x k hk hko (hox1 x hy)
        · have := hr1.lt x hy; omega
  have hoo : Own w' v' (.sl e (xs ++ zs)) (bkl v' ++ (b0 ++ b1)) := by
    refine .sl e _ _ (us0 ++ us1) _ (by rw [List.length_append]; exact hlen) (by rw [List.length_append]; exact hown) ?_ hnd
    rw [List.flatMap_append]
    exact (hr0.move hkeep0).append (hr1.move hkeep1) fun x hx hx1 => by
      obtain ⟨k, _, hk, hko⟩ := hb0o x hx
      exact hdisj x k hk hko (hox1 x hx1)
  have hnew := hs.turn (t := nid) (ks := ks) (v := v') (bs := bkl v' ++ (b0 ++ b1)) (o := .dp e (xs ++ zs)) (w' := w') (fun hm => by have := hksd nid hm; unfold Def at this; rw [hid] at this; cases this) hksd (.inl hid) hown.one hos htp hou hsize
    (fun b hb hno => hold0 b hb fun h => by obtain ⟨k, hk, _, hko⟩ := hbk0 b h; exact hno k (.inr hk) hko) (.dp e _ (by simp only [updV, updB, if_true]; exact hoo)) trivial (fun b hb => by
      unfold owns at hb
      rw [get_cons, if_pos rfl] at hb
      simp only [updB, if_true] at hb
      rcases List.mem_append.1 hb with hb | hb
      · rcases hat b (bkl_mem.1 hb) with h | h
        · obtain ⟨k, hk, _, hko⟩ := hbk0 b h
          exact .inr ⟨k, .inr hk, hko⟩
        · exact .inl ⟨by omega, hown.lt b (bkl_mem.1 hb)⟩
      · rcases List.mem_append.1 hb with hb | hb
        · obtain ⟨k, hk, _, hko⟩ := hb0o b hb
          exact .inr ⟨k, .inr hk, hko⟩
        · exact .inr ⟨idx, .inr hne0, hox1 b hb⟩)
  have hput := hnew.putd hd (v := v') (r := .rw nid) (by have := RepA.rw (F := F) (V := updV V nid v') (w := w') nid; simpa [updV] using this) (by simp [A.all, Def, get_cons]) (σ.nx + (1 + (kill ks).length))
  unfold Oper.wp
  have hxx : (execOp a.eval o).run P w = .ok (.value v') w' := by
    simp only [execOp, ho, resolve, invoke, builtin]
    simp [hse, hxe, hvx, hrun]
  rw [hxx]
  have e : (σ.upd o.dst (.rw nid) ((nid, .dp e (xs ++ zs)) :: kill ks)) = { ({ σ with hp := (nid, .dp e (xs ++ zs)) :: (kill ks ++ σ.hp) } : St).upd o.dst (.rw nid) [] with nx := σ.nx + (1 + (kill ks).length) } := by
    simp [St.upd, Nat.add_comm]
  rw [← e] at hput
  exact hK _ _ _ _ _ hput
end Go.Proofs.YthbpdhppelaihaaGreat
