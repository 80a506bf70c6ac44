/- The conditions of F4 are sound: cuts, conversions, stores. Conditions: none. -/
import Derived.Test.YthbpdhppelaihaaGreatF9
set_option linter.unusedVariables false
set_option linter.unusedSimpArgs false
namespace Go.Proofs.YthbpdhppelaihaaGreat
open Go.RowKit
variable {P : Program} {T : List (Nat × TI)}

theorem frz_congr {h h' : Nat → Option Ob} : ∀ {l : List A}, (∀ id ∈ idsL l, h id = h' id) → frz h l = frz h' l
  | [], _ => rfl
  | a :: l, hh => by
    cases a
    case rw id =>
      simp only [idsL, List.mem_cons] at hh
      simp only [frz]
      rw [hh id (.inl rfl), frz_congr (fun id hid => hh id (.inr hid))]
    all_goals exact frz_congr (l := l) (fun id hid => hh id hid)
theorem toC_congr {h h' : Nat → Option Ob} {l : List A} (hh : ∀ id ∈ idsL l, h id = h' id) (d : C) {a : A} (ha : a ∈ l) : toC h d a = toC h' d a := by
  cases a <;> try rfl
  case rw id =>
    simp only [toC]
    rw [hh id]
    clear hh
    induction l with
    | nil => cases ha
    | cons b l ih =>
      rcases List.mem_cons.1 ha with h1 | h1
      · subst h1; simp [idsL]
      · cases b <;> simp only [idsL] <;> first | exact ih h1 | exact List.mem_cons_of_mem _ (ih h1)
theorem toCs_congr {h h' : Nat → Option Ob} {l : List A} (hh : ∀ id ∈ idsL l, h id = h' id) : ∀ {ds : List C} {l' : List A}, (∀ a ∈ l', a ∈ l) → toCs h ds l' = toCs h' ds l'
  | [], [], _ => rfl
  | [], _ :: _, _ => rfl
  | _ :: _, [], _ => rfl
  | d :: ds, a :: l', hl => by
    simp only [toCs]
    rw [toC_congr hh d (hl a (by simp)), toCs_congr hh (fun b hb => hl b (by simp [hb]))]
theorem iOf_some {F : Nat → Prop} {V : Nat → Value} {w : World} {d : Int} {σ : St} {a : Act} {o : Option Operand} {r : Int} (h : iOf d (o.map (ev σ)) = some r) (hs : ∀ x, RepA F V w (a.eval x) (ev σ x)) : ∃ (m : Option Int) (k : Int → IntKind), o.map a.eval = m.map (fun n => .int (k n) n) ∧ m.getD d = r := by
  cases o with
  | none => simp [iOf] at h; exact ⟨none, fun _ => .i64, rfl, h⟩
  | some x =>
    simp only [Option.map_some] at h
    unfold iOf at h
    split at h
    · rename_i heq; cases heq
    · rename_i k n heq
      cases h
      injection heq with heq
      have := hs x
      rw [heq] at this
      exact ⟨some r, fun _ => k, by simp [rep_int this], rfl⟩
    · cases h
/-- x[l:r] of a row, or of what is only read. -/
theorem val_slice_row (hT : ∀ t i, get T t = some i → TOk P t i) {n : Nat} {o : Oper} (hd : ∀ d, o.dst = some d → d < n) {σ : St} {t et : Nat} {ie : TI} {e : Ty} (hu : P.underlying t = some (.slice et)) (hie : TOk P et ie) (hsz : ie.sz = szE e) {x : Operand} {lo hi : Option Operand} (ho : o.op = .slice t x lo hi none)
    {xs : List (El e)} (hx : isRow (get σ.hp) (ev σ x) = some ⟨e, xs⟩) {l r : Int} (hl : iOf 0 (lo.map (ev σ)) = some l) (hr : iOf xs.length (hi.map (ev σ)) = some r) (h0 : 0 ≤ l) (h1 : l ≤ r) (h2 : r ≤ xs.length) :
    Val P n o σ (σ.upd o.dst (.c (.sl e ((xs.take r.toNat).drop l.toNat))) (frz (get σ.hp) [ev σ x])) := by
  intro w0 L0 F0 F V B a w hs K Q hK
  obtain ⟨F', hF, hs'⟩ := hs.freeze [ev σ x]
  have hrc : RepC F' w (a.eval x) (.sl e xs) := by
    refine toC_rep hF hs' (x := ev σ x) (by simp) (hs.rep x) (d := .sl e []) ?_
    revert hx
    generalize ev σ x = ax
    intro hx
    unfold isRow at hx
    split at hx
    · cases hx; rfl
    · simp only [toC]
      split at hx
      · rename_i hg; cases hx; simp only [hg]
      · rename_i hg; cases hx; simp only [hg]
      · cases hx
    · cases hx
  obtain ⟨ml, kl, hml, hgl⟩ := iOf_some hl hs.rep
  obtain ⟨mh, kh, hmh, hgh⟩ := iOf_some hr hs.rep
  obtain ⟨A0, c, hxe, hc⟩ : ∃ A0 c, a.eval x = .slice A0 xs.length c ∧ xs.length ≤ c := by
    generalize a.eval x = v at hrc
    cases hrc with
    | sl _ _ A1 c1 us hc hb hA hrr => exact ⟨A1, c1, rfl, hc⟩
  rw [hxe] at hrc
  have hcut := hrc.cut (l := l.toNat) (r := r.toNat) (by omega) (by omega)
  have hrun := run_sliceAt_row (P := P) (w := w) hu hie (A0 := A0) (m := xs.length) (c := c) hgl hgh h0 h1 h2 hc (kl := kl) (kh := kh)
  rw [hsz] at hrun
  have hput := hs'.putd hd (r := .c (.sl e ((xs.take r.toNat).drop l.toNat))) (.c hcut) (by simp [A.all]) (σ.nx + (frz (get σ.hp) [ev σ x]).length)
  unfold Oper.wp
  have hxx : (execOp a.eval o).run P w = .ok (.value (.slice (if c = l.toNat then A0 else A0.map (·.add (l.toNat * szE e))) (r.toNat - l.toNat) (c - l.toNat))) w := by
    simp only [execOp, ho, hml, hmh, hxe, Option.map_none]
    simp [hrun]
  rw [hxx]
  exact hK F' V B _ _ hput
theorem val_slice_str (hT : ∀ t i, get T t = some i → TOk P t i) {n : Nat} {o : Oper} (hd : ∀ d, o.dst = some d → d < n) {σ : St} {t : Nat} (hu : P.underlying t = some .string) {x : Operand} {lo hi : Option Operand} (ho : o.op = .slice t x lo hi none)
    {s : List UInt8} (hx : ev σ x = .c (.str s)) {l r : Int} (hl : iOf 0 (lo.map (ev σ)) = some l) (hr : iOf s.length (hi.map (ev σ)) = some r) (h0 : 0 ≤ l) (h1 : l ≤ r) (h2 : r ≤ s.length) :
    Val P n o σ (σ.upd o.dst (.c (.str ((s.take r.toNat).drop l.toNat))) []) :=
  val_pure hd fun {w0 L0 F0 F V B a w} hs => by
    obtain ⟨b, hb, hbs, hbz⟩ := rep_str (by rw [← hx]; exact hs.rep x)
    obtain ⟨ml, kl, hml, hgl⟩ := iOf_some hl hs.rep
    obtain ⟨mh, kh, hmh, hgh⟩ := iOf_some hr hs.rep
    have hsz : b.size = s.length := by rw [← hbs, Array.length_toList]; rfl
    have hex : (b.extract l.toNat r.toNat).data.toList = (s.take r.toNat).drop l.toNat := by
      rw [ByteArray.data_extract, Array.toList_extract, List.extract_eq_take_drop, hbs, ← List.drop_take]
    have hrep : RepC F w (.string (b.extract l.toNat r.toNat)) (.str ((s.take r.toNat).drop l.toNat)) := by
      rw [← hex]
      refine .str _ ?_
      rw [ByteArray.size_extract]
      omega
    refine ⟨⟨.string (b.extract l.toNat r.toNat), ?_, .c hrep⟩, by simp [A.all]⟩
    simp only [execOp, ho, hml, hmh, hb, Option.map_none]
    subst hgl
    subst hgh
    cases ml <;> cases mh <;> simp only [Option.map_none, Option.map_some, Option.getD_none, Option.getD_some] at *
    · have : b.extract 0 s.length = b := by rw [← hsz]; exact ByteArray.extract_zero_size
      simp [Instr.sliceAt, Instr.slice, run_underlying hu, Instr.sliceBounds, hsz, this]
    · rename_i hi'
      have h3 : hi' ≤ b.size := by omega
      simp [Instr.sliceAt, Instr.slice, run_underlying hu, Instr.sliceBounds, Instr.sliceBound, asIntOf, h1, h3]
    · rename_i lo'
      have h3 : lo' ≤ b.size := by omega
      have h7 : ¬ (s.length : Int) < lo' := by omega
      simp [h7, Instr.sliceAt, Instr.slice, run_underlying hu, Instr.sliceBounds, Instr.sliceBound, asIntOf, h0, h3, hsz]
    · rename_i lo' hi'
      have h3 : hi' ≤ b.size := by omega
      have h4 : lo' ≤ hi'.toNat := by omega
      have h5 : 0 ≤ hi' := by omega
      have h6 : ¬ max hi' 0 < lo' := by omega
      simp [Instr.sliceAt, Instr.slice, run_underlying hu, Instr.sliceBounds, Instr.sliceBound, asIntOf, h0, h3, h4, h5, h6]
theorem val_conv_int (hT : ∀ t i, get T t = some i → TOk P t i) {n : Nat} {o : Oper} (hd : ∀ d, o.dst = some d → d < n) {σ : St} {s d : Nat} {is id : TI} (his : get T s = some is) (hid : get T d = some id) {x : Operand} (ho : o.op = .convert s d x) {k k' : IntKind} {m : Int} (hk : id.k = .int k) (hx : ev σ x = .c (.int k' m)) : Val P n o σ (σ.upd o.dst (.c (.int k (k.wrap m))) []) :=
  val_pure hd fun {w0 L0 F0 F V B a w} hs => by
    have hxv := rep_int (by rw [← hx]; exact hs.rep x)
    have h1 := (hT d id hid).desc
    rw [hk] at h1
    simp only [TK.desc] at h1
    obtain ⟨u, hu⟩ : ∃ u, P.underlying s = some u := by
      have h2 := (hT s is his).desc
      cases hk2 : is.k <;> rw [hk2] at h2 <;> simp only [TK.desc] at h2
      case ptr => obtain ⟨e, h2⟩ := h2; exact ⟨_, h2⟩
      case fn => obtain ⟨p, r, v, h2⟩ := h2; exact ⟨_, h2⟩
      case st => obtain ⟨p, h2, _⟩ := h2; exact ⟨_, h2⟩
      all_goals exact ⟨_, h2⟩
    refine ⟨⟨_, ?_, .c (.int _ _)⟩, by simp [A.all]⟩
    simp only [execOp, ho, hxv]
    simp [convert, run_underlying hu, run_underlying h1, Conv.intToInt]
theorem size_le {b : ByteArray} (n : Nat) (h : b.data.size = n) (hn : n ≤ 9223372036854775807) : b.size ≤ 9223372036854775807 := by
  have : b.size = n := h
  rw [this]; exact hn
theorem val_conv_rune (hT : ∀ t i, get T t = some i → TOk P t i) {n : Nat} {o : Oper} (hd : ∀ d, o.dst = some d → d < n) {σ : St} {s d : Nat} {is id : TI} (his : get T s = some is) (hid : get T d = some id) {x : Operand} (ho : o.op = .convert s d x) {k' : IntKind} {m : Int} (hk : id.k = .str) (hx : ev σ x = .c (.int k' m)) : Val P n o σ (σ.upd o.dst (.c (.str (Utf8.encode m).data.toList)) []) :=
  val_pure hd fun {w0 L0 F0 F V B a w} hs => by
    have hxv := rep_int (by rw [← hx]; exact hs.rep x)
    have h1 := (hT d id hid).desc
    rw [hk] at h1
    simp only [TK.desc] at h1
    obtain ⟨u, hu⟩ : ∃ u, P.underlying s = some u := by
      have h2 := (hT s is his).desc
      cases hk2 : is.k <;> rw [hk2] at h2 <;> simp only [TK.desc] at h2
      case ptr => obtain ⟨e, h2⟩ := h2; exact ⟨_, h2⟩
      case fn => obtain ⟨p, r, v, h2⟩ := h2; exact ⟨_, h2⟩
      case st => obtain ⟨p, h2, _⟩ := h2; exact ⟨_, h2⟩
      all_goals exact ⟨_, h2⟩
    refine ⟨⟨.string (Utf8.encode m), ?_, .c (.str _ ?_)⟩, by simp [A.all]⟩
    · simp only [execOp, ho, hxv]
      simp [convert, run_underlying hu, run_underlying h1, Conv.intToString]
    · unfold Utf8.encode
      simp only []
      repeat' split
      all_goals first | exact size_le 1 rfl (by decide) | exact size_le 2 rfl (by decide) | exact size_le 3 rfl (by decide) | exact size_le 4 rfl (by decide)
theorem fold_push : ∀ (xs : List UInt8) (b : ByteArray), (xs.foldl (fun (b : ByteArray) x => b.push x) b).data.toList = b.data.toList ++ xs
  | [], b => by simp
  | x :: xs, b => by
    rw [List.foldl_cons, fold_push xs]
    simp [ByteArray.push]
theorem run_bytes {F : Nat → Prop} {w : World} {g : Value → ByteArray → Sem (ForInStep ByteArray)} (hg : ∀ n s, g (.int .u8 n) s = pure (.yield (s.push (UInt8.ofNat n.toNat)))) : ∀ (xs : List UInt8) (us : List Value) (b : ByteArray), RepL F w us (xs.flatMap (cells .u8)) → (forIn us b g).run P w = .ok (xs.foldl (fun (b : ByteArray) x => b.push x) b) w
  | [], us, b, h => by cases h; simp
  | x :: xs, us, b, h => by
    have h' : RepL F w us (.int .u8 (x.toNat : Int) :: xs.flatMap (cells .u8)) := h
    cases h' with
    | cons h0 t =>
      cases h0
      have ih := run_bytes hg xs _ (b.push x) t
      simpa [hg] using ih
theorem val_conv_bytes (hT : ∀ t i, get T t = some i → TOk P t i) {n : Nat} {o : Oper} (hd : ∀ d, o.dst = some d → d < n) {σ : St} {s d et : Nat} {is id ie : TI} (his : get T s = some is) (hid : get T d = some id) {x : Operand} (ho : o.op = .convert s d x) (hk : id.k = .str) (hks : is.k = .sl .u8 et) (hie : get T et = some ie) (hke : ie.k = .int .u8)
    {h : Nat → Option Ob} (hag : ∀ id ∈ rdOf (ev σ x), get σ.hp id = h id) {xs : List UInt8} (hr : isRow h (ev σ x) = some ⟨.u8, xs⟩) : Val P n o σ (σ.upd o.dst (.c (.str xs)) []) :=
  val_pure hd fun {w0 L0 F0 F V B a w} hs => by
    obtain ⟨A0, c, us, hxe, hc, hb, hrep, hcl⟩ := isRow_rep hs hag hr
    have h1 := (hT d id hid).desc
    rw [hk] at h1
    simp only [TK.desc] at h1
    have h2 := und_sl (hT s is his) hks
    have h3 := (hT et ie hie).desc
    rw [hke] at h3
    simp only [TK.desc] at h3
    have hlen : xs.length ≤ 9223372036854775807 := by simp only [byE] at hb; omega
    have hfin : RepC F w (.string (xs.foldl (fun (b : ByteArray) x => b.push x) .empty)) (.str xs) := by
      have h4 := fold_push xs .empty
      have h5 : ((xs.foldl (fun (b : ByteArray) x => b.push x) .empty).data.toList) = xs := by rw [h4]; rfl
      have h6 := RepC.str (F := F) (w := w) (xs.foldl (fun (b : ByteArray) x => b.push x) .empty) (by
        have : (xs.foldl (fun (b : ByteArray) x => b.push x) .empty).size = xs.length := by show (xs.foldl (fun (b : ByteArray) x => b.push x) .empty).data.size = xs.length; rw [← Array.length_toList, h5]
        rw [this]; exact hlen)
      rwa [h5] at h6
    refine ⟨⟨.string (xs.foldl (fun (b : ByteArray) x => b.push x) .empty), ?_, .c hfin⟩, by simp [A.all]⟩
    simp only [execOp, ho, hxe]
    cases A0 with
    | none =>
      have : xs = [] := by
        cases xs with
        | nil => rfl
        | cons x xs => obtain ⟨ad, h, _⟩ := hcl (by simp); cases h
      subst this
      simp [convert, run_underlying h1, run_underlying h2, run_underlying h3, Conv.bytesToString]
    | some ad =>
      have hul : us.length = xs.length := by rw [hrep.length, flat_len]; simp [szE]
      have hload : (loadCells ad xs.length).run P w = .ok us.toArray w := by
        by_cases hp : 0 < xs.length
        · obtain ⟨ad', h4, h5⟩ := hcl hp
          cases h4
          rw [← hul]
          exact run_loadCells_list (P := P) (w := w) ad us h5
        · have : xs = [] := List.eq_nil_of_length_eq_zero (by omega)
          subst this
          have : us = [] := List.eq_nil_of_length_eq_zero (by simpa using hul)
          subst this
          simp [loadCells, loadCellsFrom]
      simp [convert, run_underlying h1, run_underlying h2, run_underlying h3, Conv.bytesToString, hload]
      rw [run_bytes (P := P) (F := F) (w := w) (fun _ _ => rfl) xs us .empty hrep]
      simp
end Go.Proofs.YthbpdhppelaihaaGreat
