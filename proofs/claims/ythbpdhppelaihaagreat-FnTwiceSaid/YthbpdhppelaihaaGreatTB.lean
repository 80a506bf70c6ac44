/- Joined: G1 G2 G3 G4. -/
import Derived.Test.YthbpdhppelaihaaGreatTA
import Derived.Lib.ConvBytes
/- The conditions of F4 are sound: cuts, conversions, stores. Conditions: none. -/
set_option linter.unusedVariables false
set_option linter.unusedSimpArgs false
namespace Go.Proofs.YthbpdhppelaihaaGreat
open Go.RowKit
variable {P : Program} {T : List (Nat × TI)}
theorem frz_congr {h h' : Nat → Option Ob} : ∀ {l : List A}, (∀ id ∈ idsL l, h id = h' id) → frz h l = frz h' l
 | [], _ => rfl
 | a :: l, hh => by
   cases a
   case rw id =>
    simp only [idsL, List.mem_cons] at hh
    simp only [frz]
    rw [hh id (.inl rfl), frz_congr (fun id hid => hh id (.inr hid))]
   all_goals exact frz_congr (l := l) (fun id hid => hh id hid)
theorem toC_congr {h h' : Nat → Option Ob} {l : List A} (hh : ∀ id ∈ idsL l, h id = h' id) (d : C) {a : A} (ha : a ∈ l) : toC h d a = toC h' d a := by
 cases a <;> try rfl
 case rw id =>
  simp only [toC]
  rw [hh id]
  clear hh
  induction l with
  | nil => cases ha
  | cons b l ih =>
    rcases List.mem_cons.1 ha with h1 | h1
    · subst h1; simp [idsL]
    · cases b <;> simp only [idsL] <;> first | exact ih h1 | exact List.mem_cons_of_mem _ (ih h1)
theorem toCs_congr {h h' : Nat → Option Ob} {l : List A} (hh : ∀ id ∈ idsL l, h id = h' id) : ∀ {ds : List C} {l' : List A}, (∀ a ∈ l', a ∈ l) → toCs h ds l' = toCs h' ds l'
 | [], [], _ => rfl
 | [], _ :: _, _ => rfl
 | _ :: _, [], _ => rfl
 | d :: ds, a :: l', hl => by
   simp only [toCs]
   rw [toC_congr hh d (hl a (by simp)), toCs_congr hh (fun b hb => hl b (by simp [hb]))]
theorem iOf_some {F : Nat → Prop} {V : Nat → Value} {w : World} {d : Int} {σ : St} {a : Act} {o : Option Operand} {r : Int} (h : iOf d (o.map (ev σ)) = some r) (hs : ∀ x, RepA F V w (a.eval x) (ev σ x)) : ∃ (m : Option Int) (k : Int → IntKind), o.map a.eval = m.map (fun n => .int (k n) n) ∧ m.getD d = r := by
 cases o with
 | none => simp [iOf] at h; exact ⟨none, fun _ => .i64, rfl, h⟩
 | some x =>
   simp only [Option.map_some] at h
   unfold iOf at h
   split at h
   · rename_i heq; cases heq
   · rename_i k n heq
     cases h
     injection heq with heq
     have := hs x
     rw [heq] at this
     exact ⟨some r, fun _ => k, by simp [rep_int this], rfl⟩
   · cases h
theorem val_slice_row (hT : ∀ t i, get T t = some i → TOk P t i) {n : Nat} {o : Oper} (hd : ∀ d, o.dst = some d → d < n) {σ : St} {t et : Nat} {ie : TI} {e : Ty} (hu : P.underlying t = some (.slice et)) (hie : TOk P et ie) (hsz : ie.sz = szE e) {x : Operand} {lo hi : Option Operand} (ho : o.op = .slice t x lo hi none)
 {xs : List (El e)} (hx : isRow (get σ.hp) (ev σ x) = some ⟨e, xs⟩) {l r : Int} (hl : iOf 0 (lo.map (ev σ)) = some l) (hr : iOf xs.length (hi.map (ev σ)) = some r) (h0 : 0 ≤ l) (h1 : l ≤ r) (h2 : r ≤ xs.length) :
 Val P n o σ (σ.upd o.dst (.c (.sl e ((xs.take r.toNat).drop l.toNat))) (frz (get σ.hp) [ev σ x])) := by
 intro w0 L0 F0 F V B a w hs K Q hK
 obtain ⟨F', hF, hs'⟩ := hs.freeze [ev σ x]
 have hrc : RepC F' w (a.eval x) (.sl e xs) := by
  refine toC_rep hF hs' (x := ev σ x) (by simp) (hs.rep x) (d := .sl e []) ?_
  revert hx
  generalize ev σ x = ax
  intro hx
  unfold isRow at hx
  split at hx
  · cases hx; rfl
  · simp only [toC]
    split at hx
    · rename_i hg; cases hx; simp only [hg]
    · rename_i hg; cases hx; simp only [hg]
    · cases hx
  · cases hx
 obtain ⟨ml, kl, hml, hgl⟩ := iOf_some hl hs.rep
 obtain ⟨mh, kh, hmh, hgh⟩ := iOf_some hr hs.rep
 obtain ⟨A0, c, hxe, hc⟩ : ∃ A0 c, a.eval x = .slice A0 xs.length c ∧ xs.length ≤ c := by
  generalize a.eval x = v at hrc
  cases hrc with
  | sl _ _ A1 c1 us hc hb hA hrr => exact ⟨A1, c1, rfl, hc⟩
 rw [hxe] at hrc
 have hcut := hrc.cut (l := l.toNat) (r := r.toNat) (by omega) (by omega)
 have hrun := run_sliceAt_row (P := P) (w := w) hu hie (A0 := A0) (m := xs.length) (c := c) hgl hgh h0 h1 h2 hc (kl := kl) (kh := kh)
 rw [hsz] at hrun
 have hput := hs'.putd hd (r := .c (.sl e ((xs.take r.toNat).drop l.toNat))) (.c hcut) (by simp [A.all]) (σ.nx + (frz (get σ.hp) [ev σ x]).length)
 unfold Oper.wp
 have hxx : (execOp a.eval o).run P w = .ok (.value (.slice (if c = l.toNat then A0 else A0.map (·.add (l.toNat * szE e))) (r.toNat - l.toNat) (c - l.toNat))) w := by
  simp only [execOp, ho, hml, hmh, hxe, Option.map_none]
  simp [hrun]
 rw [hxx]
 exact hK F' V B _ _ hput
theorem val_slice_str (hT : ∀ t i, get T t = some i → TOk P t i) {n : Nat} {o : Oper} (hd : ∀ d, o.dst = some d → d < n) {σ : St} {t : Nat} (hu : P.underlying t = some .string) {x : Operand} {lo hi : Option Operand} (ho : o.op = .slice t x lo hi none)
 {s : List UInt8} (hx : ev σ x = .c (.str s)) {l r : Int} (hl : iOf 0 (lo.map (ev σ)) = some l) (hr : iOf s.length (hi.map (ev σ)) = some r) (h0 : 0 ≤ l) (h1 : l ≤ r) (h2 : r ≤ s.length) :
 Val P n o σ (σ.upd o.dst (.c (.str ((s.take r.toNat).drop l.toNat))) []) :=
 val_pure hd fun {w0 L0 F0 F V B a w} hs => by
  obtain ⟨b, hb, hbs, hbz⟩ := rep_str (by rw [← hx]; exact hs.rep x)
  obtain ⟨ml, kl, hml, hgl⟩ := iOf_some hl hs.rep
  obtain ⟨mh, kh, hmh, hgh⟩ := iOf_some hr hs.rep
  have hsz : b.size = s.length := by rw [← hbs, Array.length_toList]; rfl
  have hex : (b.extract l.toNat r.toNat).data.toList = (s.take r.toNat).drop l.toNat := by
   rw [ByteArray.data_extract, Array.toList_extract, List.extract_eq_take_drop, hbs, ← List.drop_take]
  have hrep : RepC F w (.string (b.extract l.toNat r.toNat)) (.str ((s.take r.toNat).drop l.toNat)) := by
   rw [← hex]
   refine .str _ ?_
   rw [ByteArray.size_extract]
   omega
  refine ⟨⟨.string (b.extract l.toNat r.toNat), ?_, .c hrep⟩, by simp [A.all]⟩
  simp only [execOp, ho, hml, hmh, hb, Option.map_none]
  subst hgl
  subst hgh
  cases ml <;> cases mh <;> simp only [Option.map_none, Option.map_some, Option.getD_none, Option.getD_some] at *
  · have : b.extract 0 s.length = b := by rw [← hsz]; exact ByteArray.extract_zero_size
    simp [Instr.sliceAt, Instr.slice, run_underlying hu, Instr.sliceBounds, hsz, this]
  · rename_i hi'
    have h3 : hi' ≤ b.size := by omega
    simp [Instr.sliceAt, Instr.slice, run_underlying hu, Instr.sliceBounds, Instr.sliceBound, asIntOf, h1, h3]
  · rename_i lo'
    have h3 : lo' ≤ b.size := by omega
    have h7 : ¬ (s.length : Int) < lo' := by omega
    simp [h7, Instr.sliceAt, Instr.slice, run_underlying hu, Instr.sliceBounds, Instr.sliceBound, asIntOf, h0, h3, hsz]
  · rename_i lo' hi'
    have h3 : hi' ≤ b.size := by omega
    have h4 : lo' ≤ hi'.toNat := by omega
    have h5 : 0 ≤ hi' := by omega
    have h6 : ¬ max hi' 0 < lo' := by omega
    simp [Instr.sliceAt, Instr.slice, run_underlying hu, Instr.sliceBounds, Instr.sliceBound, asIntOf, h0, h3, h4, h5, h6]
theorem val_conv_int (hT : ∀ t i, get T t = some i → TOk P t i) {n : Nat} {o : Oper} (hd : ∀ d, o.dst = some d → d < n) {σ : St} {s d : Nat} {is id : TI} (his : get T s = some is) (hid : get T d = some id) {x : Operand} (ho : o.op = .convert s d x) {k k' : IntKind} {m : Int} (hk : id.k = .int k) (hx : ev σ x = .c (.int k' m)) : Val P n o σ (σ.upd o.dst (.c (.int k (k.wrap m))) []) :=
 val_pure hd fun {w0 L0 F0 F V B a w} hs => by
  have hxv := rep_int (by rw [← hx]; exact hs.rep x)
  have h1 := (hT d id hid).desc
  rw [hk] at h1
  simp only [TK.desc] at h1
  obtain ⟨u, hu⟩ : ∃ u, P.underlying s = some u := by
   have h2 := (hT s is his).desc
   cases hk2 : is.k <;> rw [hk2] at h2 <;> simp only [TK.desc] at h2
   case ptr => obtain ⟨e, h2⟩ := h2; exact ⟨_, h2⟩
   case fn => obtain ⟨p, r, v, h2⟩ := h2; exact ⟨_, h2⟩
   case st => obtain ⟨p, h2, _⟩ := h2; exact ⟨_, h2⟩
   all_goals exact ⟨_, h2⟩
  refine ⟨⟨_, ?_, .c (.int _ _)⟩, by simp [A.all]⟩
  simp only [execOp, ho, hxv]
  simp [convert, run_underlying hu, run_underlying h1, Conv.intToInt]
theorem size_le {b : ByteArray} (n : Nat) (h : b.data.size = n) (hn : n ≤ 9223372036854775807) : b.size ≤ 9223372036854775807 := by
 have : b.size = n := h
 rw [this]; exact hn
theorem val_conv_rune (hT : ∀ t i, get T t = some i → TOk P t i) {n : Nat} {o : Oper} (hd : ∀ d, o.dst = some d → d < n) {σ : St} {s d : Nat} {is id : TI} (his : get T s = some is) (hid : get T d = some id) {x : Operand} (ho : o.op = .convert s d x) {k' : IntKind} {m : Int} (hk : id.k = .str) (hx : ev σ x = .c (.int k' m)) : Val P n o σ (σ.upd o.dst (.c (.str (Utf8.encode m).data.toList)) []) :=
 val_pure hd fun {w0 L0 F0 F V B a w} hs => by
  have hxv := rep_int (by rw [← hx]; exact hs.rep x)
  have h1 := (hT d id hid).desc
  rw [hk] at h1
  simp only [TK.desc] at h1
  obtain ⟨u, hu⟩ : ∃ u, P.underlying s = some u := by
   have h2 := (hT s is his).desc
   cases hk2 : is.k <;> rw [hk2] at h2 <;> simp only [TK.desc] at h2
   case ptr => obtain ⟨e, h2⟩ := h2; exact ⟨_, h2⟩
   case fn => obtain ⟨p, r, v, h2⟩ := h2; exact ⟨_, h2⟩
   case st => obtain ⟨p, h2, _⟩ := h2; exact ⟨_, h2⟩
   all_goals exact ⟨_, h2⟩
  refine ⟨⟨.string (Utf8.encode m), ?_, .c (.str _ ?_)⟩, by simp [A.all]⟩
  · simp only [execOp, ho, hxv]
    simp [convert, run_underlying hu, run_underlying h1, Conv.intToString]
  · unfold Utf8.encode
    simp only []
    repeat' split
    all_goals first | exact size_le 1 rfl (by decide) | exact size_le 2 rfl (by decide) | exact size_le 3 rfl (by decide) | exact size_le 4 rfl (by decide)
theorem fold_push : ∀ (xs : List UInt8) (b : ByteArray), (xs.foldl (fun (b : ByteArray) x => b.push x) b).data.toList = b.data.toList ++ xs
 | [], b => by simp
 | x :: xs, b => by
   rw [List.foldl_cons, fold_push xs]
   simp [ByteArray.push]
theorem run_bytes {F : Nat → Prop} {w : World} {g : Value → ByteArray → Sem (ForInStep ByteArray)} (hg : ∀ n s, g (.int .u8 n) s = pure (.yield (s.push (UInt8.ofNat n.toNat)))) : ∀ (xs : List UInt8) (us : List Value) (b : ByteArray), RepL F w us (xs.flatMap (cells .u8)) → (forIn us b g).run P w = .ok (xs.foldl (fun (b : ByteArray) x => b.push x) b) w
 | [], us, b, h => by cases h; simp
 | x :: xs, us, b, h => by
   have h' : RepL F w us (.int .u8 (x.toNat : Int) :: xs.flatMap (cells .u8)) := h
   cases h' with
   | cons h0 t =>
     cases h0
     have ih := run_bytes hg xs _ (b.push x) t
     simpa [hg] using ih
theorem val_conv_bytes (hT : ∀ t i, get T t = some i → TOk P t i) {n : Nat} {o : Oper} (hd : ∀ d, o.dst = some d → d < n) {σ : St} {s d et : Nat} {is id ie : TI} (his : get T s = some is) (hid : get T d = some id) {x : Operand} (ho : o.op = .convert s d x) (hk : id.k = .str) (hks : is.k = .sl .u8 et) (hie : get T et = some ie) (hke : ie.k = .int .u8)
 {h : Nat → Option Ob} (hag : ∀ id ∈ rdOf (ev σ x), get σ.hp id = h id) {xs : List UInt8} (hr : isRow h (ev σ x) = some ⟨.u8, xs⟩) : Val P n o σ (σ.upd o.dst (.c (.str xs)) []) :=
 val_pure hd fun {w0 L0 F0 F V B a w} hs => by
  obtain ⟨A0, c, us, hxe, hc, hb, hrep, hcl⟩ := isRow_rep hs hag hr
  have h1 := (hT d id hid).desc
  rw [hk] at h1
  simp only [TK.desc] at h1
  have h2 := und_sl (hT s is his) hks
  have h3 := (hT et ie hie).desc
  rw [hke] at h3
  simp only [TK.desc] at h3
  have hlen : xs.length ≤ 9223372036854775807 := by simp only [byE] at hb; omega
  have hfin : RepC F w (.string (xs.foldl (fun (b : ByteArray) x => b.push x) .empty)) (.str xs) := by
   have h4 := fold_push xs .empty
   have h5 : ((xs.foldl (fun (b : ByteArray) x => b.push x) .empty).data.toList) = xs := by rw [h4]; rfl
   have h6 := RepC.str (F := F) (w := w) (xs.foldl (fun (b : ByteArray) x => b.push x) .empty) (by
    have : (xs.foldl (fun (b : ByteArray) x => b.push x) .empty).size = xs.length := by show (xs.foldl (fun (b : ByteArray) x => b.push x) .empty).data.size = xs.length; rw [← Array.length_toList, h5]
    rw [this]; exact hlen)
   rwa [h5] at h6
  refine ⟨⟨.string (xs.foldl (fun (b : ByteArray) x => b.push x) .empty), ?_, .c hfin⟩, by simp [A.all]⟩
  simp only [execOp, ho, hxe]
  cases A0 with
  | none =>
    have : xs = [] := by
     cases xs with
     | nil => rfl
     | cons x xs => obtain ⟨ad, h, _⟩ := hcl (by simp); cases h
    subst this
    simp [convert, run_underlying h1, run_underlying h2, run_underlying h3, Conv.bytesToString]
  | some ad =>
    have hul : us.length = xs.length := by rw [hrep.length, flat_len]; simp [szE]
    have hload : (loadCells ad xs.length).run P w = .ok us.toArray w := by
     by_cases hp : 0 < xs.length
     · obtain ⟨ad', h4, h5⟩ := hcl hp
       cases h4
       rw [← hul]
       exact run_loadCells_list (P := P) (w := w) ad us h5
     · have : xs = [] := List.eq_nil_of_length_eq_zero (by omega)
       subst this
       have : us = [] := List.eq_nil_of_length_eq_zero (by simpa using hul)
       subst this
       simp [loadCells, loadCellsFrom]
    simp [convert, run_underlying h1, run_underlying h2, run_underlying h3, Conv.bytesToString, hload]
    rw [run_bytes (P := P) (F := F) (w := w) (fun _ _ => rfl) xs us .empty hrep]
    simp
theorem Sim.newF {n : Nat} {w0 : World} {L0 : Old} {F0 F : Nat → Prop} {V : Nat → Value} {B : Nat → List Nat} {σ : St} {a : Act} {w w' : World} (hs : Sim n w0 L0 F0 F V B σ a w) {id : Nat} (hid : get σ.hp id = none) {v : Value} (hv1 : v.oneCell' = true) {e : Ty} {xs : List (El e)} (hos : w'.os = w.os) (htape : w'.tape = w.tape) (hout : w'.output = w.output) (hsz : w.heap.size < w'.heap.size)
 (hblk : ∀ b, b < w.heap.size → w'.heap[b]? = w.heap[b]?) (ho : RepC (fun g => F g ∨ g = w.heap.size) w' v (.sl e xs)) :
 Sim n w0 L0 F0 (fun g => F g ∨ g = w.heap.size) (updV V id v) B { σ with hp := (id, .fz e xs) :: σ.hp } a w' := by
 have how : ∀ V' B' b, ¬ owns ((id, Ob.fz e xs) :: σ.hp) V' B' id b := fun V' B' b h => by
  unfold owns at h
  rw [get_cons, if_pos rfl] at h
  exact h
 refine hs.step (fun k => k = id) hos htape hout (fun b hb _ => hblk b hb) (Nat.le_of_lt hsz) (fun k hk => updV_ne hid v k hk) (fun k hk _ => rfl) (fun b hb => .inl hb) (fun b hb => hb.elim .inl fun e => .inr (.inl (by omega))) (fun b hb => hb.elim (fun hb => Nat.lt_trans (hs.F_lt b hb) hsz) fun e => by omega) (fun k => ?_) (fun k hk => ?_) (fun k hk => ?_) (fun k o' hk ho' => ?_) (fun k b hk ho' => ?_) (fun k k' b hk hk' _ _ => by rw [hk, hk'])
 · unfold updV; split
   · exact hv1
   · exact hs.V1 k
 · rw [get_cons, if_neg (fun e => hk e.symm)]
 · unfold Def at *
   rw [get_cons]
   split
   · rfl
   · exact hk
 · subst hk
   rw [get_cons, if_pos rfl] at ho'
   cases ho'
   exact ⟨.fz e xs (by simpa [updV] using ho), trivial⟩
 · subst hk
   exact (how _ _ b ho').elim
theorem rep_u8s {F : Nat → Prop} {w : World} : ∀ xs : List UInt8, RepL F w (xs.map fun x => .int .u8 (x.toNat : Int)) (xs.flatMap (cells .u8))
 | [] => .nil
 | x :: xs => .cons (.int .u8 _) (rep_u8s xs)
theorem val_conv_sb (hT : ∀ t i, get T t = some i → TOk P t i) {n : Nat} {o : Oper} (hd : ∀ d, o.dst = some d → d < n) {σ : St} {s d et nid : Nat} {is id : TI} (his : get T s = some is) (hid : get T d = some id) {x : Operand} (ho : o.op = .convert s d x) (hks : is.k = .str) (hk : id.k = .sl .u8 et) (hu : u8ok T (.sl .u8 et) = true)
 {bs : List UInt8} (hx : ev σ x = .c (.str bs)) (hb : bs.length ≤ 140737488355328) (hnid : get σ.hp nid = none) : Val P n o σ (σ.upd o.dst (.rw nid) [(nid, .fz .u8 bs)]) := by
 intro w0 L0 F0 F V B a w hs K Q hK
 obtain ⟨b, hxe, hbs, hbl⟩ := rep_str (by rw [← hx]; exact hs.rep x)
 have h1 := (hT s is his).desc
 rw [hks] at h1
 simp only [TK.desc] at h1
 have h2 := und_sl (hT d id hid) hk
 obtain ⟨ie, hie, hke⟩ : ∃ ie, get T et = some ie ∧ ie.k = .int .u8 := by
  simp only [u8ok] at hu
  split at hu
  · rename_i ie h1
    refine ⟨ie, h1, ?_⟩
    split at hu
    · assumption
    · cases hu
  · cases hu
 have h3 := (hT et ie hie).desc
 rw [hke] at h3
 simp only [TK.desc] at h3
 have hrun := Lib.run_convert_string_bytes (P := P) w s d et b h1 h2 h3
 have hsz : b.size = bs.length := by rw [← hbs, Array.length_toList]; rfl
 have hcell : CellsAt (Lib.bytesWorld w et b) ⟨w.heap.size, 0, none⟩ (bs.map fun x => .int .u8 (x.toNat : Int)) := by
  intro j u hj
  rw [List.getElem?_map] at hj
  cases hg : bs[j]? with
  | none => rw [hg] at hj; cases hj
  | some y =>
    rw [hg] at hj
    cases hj
    have hlt : j < bs.length := (List.getElem?_eq_some_iff.1 hg).1
    have hadd : (⟨w.heap.size, 0, none⟩ : Addr).add j = ⟨w.heap.size, j, none⟩ := by unfold Addr.add; split <;> simp_all
    rw [hadd, Lib.bytesWorld_cell w et b j (by omega), hbs, List.getD_eq_getElem?_getD, hg]
    rfl
 have hrep : RepC (fun g => F g ∨ g = w.heap.size) (Lib.bytesWorld w et b) (.slice (some ⟨w.heap.size, 0, none⟩) b.size (grownCap w b.size 0 et)) (.sl .u8 bs) := by
  rw [hsz]
  exact .sl .u8 bs _ _ _ (by rw [← hsz]; exact grownCap_ge _ _ _ _) (by simpa [byE] using hb) (fun _ => ⟨_, rfl, .inr rfl, hcell⟩) (rep_u8s bs)
 have hnew := hs.newF (id := nid) hnid (v := .slice (some ⟨w.heap.size, 0, none⟩) b.size (grownCap w b.size 0 et)) rfl (w' := Lib.bytesWorld w et b) rfl rfl rfl (by rw [Lib.bytesWorld_size]; omega) (fun j hj => Lib.bytesWorld_at_old w et b j hj) hrep
 have hput := hnew.putd hd (v := .slice (some ⟨w.heap.size, 0, none⟩) b.size (grownCap w b.size 0 et)) (r := .rw nid) (by have := RepA.rw (F := fun g => F g ∨ g = w.heap.size) (V := updV V nid (.slice (some ⟨w.heap.size, 0, none⟩) b.size (grownCap w b.size 0 et))) (w := Lib.bytesWorld w et b) nid; simpa [updV] using this) (by simp [A.all, Def, get_cons]) (σ.nx + 1)
 unfold Oper.wp
 have hrun' : (execOp a.eval o).run P w = .ok (.value (.slice (some ⟨w.heap.size, 0, none⟩) b.size (grownCap w b.size 0 et))) (Lib.bytesWorld w et b) := by
  simp only [execOp, ho, hxe]
  simp [hrun]
 rw [hrun']
 exact hK _ _ _ _ _ hput
end Go.Proofs.YthbpdhppelaihaaGreat
/- The conditions of F4 are sound: stores. Conditions: none. -/
namespace Go.Proofs.YthbpdhppelaihaaGreat
open Go.RowKit
variable {P : Program} {T : List (Nat × TI)}
theorem spl_left {α : Type} : ∀ (l a b : List α) (o : Nat), o + l.length ≤ a.length → spl (a ++ b) o l = spl a o l ++ b
 | [], _, _, _, _ => by rw [spl_nil, spl_nil]
 | x :: l, a, b, o, h => by
   simp only [List.length_cons] at h
   rw [spl_cons, spl_cons]
   rw [List.set_append_left _ _ (by omega)]
   exact spl_left l (a.set o x) b (o + 1) (by rw [List.length_set]; omega)
theorem spl_right {α : Type} : ∀ (l a b : List α) (o : Nat), spl (a ++ b) (a.length + o) l = a ++ spl b o l
 | [], _, _, _ => by rw [spl_nil, spl_nil]
 | x :: l, a, b, o => by
   rw [spl_cons, spl_cons]
   rw [List.set_append_right _ _ (by omega), Nat.add_sub_cancel_left]
   exact spl_right l a (b.set o x) (o + 1)
theorem spl_take {α : Type} : ∀ (l a : List α) (o m : Nat), (spl a o l).take m = spl (a.take m) o l
 | [], _, _, _ => by rw [spl_nil, spl_nil]
 | x :: l, a, o, m => by
   rw [spl_cons, spl_cons]
   rw [spl_take l, List.take_set]
theorem spl_flat (e : Ty) {o : Nat} {cs : List C} (h : o + cs.length ≤ szE e) {y : El e} : ∀ (xs : List (El e)) (i : Nat) (hi : i < xs.length), cells e y = spl (cells e (xs.getD i (dflt e))) o cs → (xs.set i y).flatMap (cells e) = spl (xs.flatMap (cells e)) (i * szE e + o) cs
 | [], i, hi, _ => by simp at hi
 | x :: xs, 0, hi, hy => by
   simp only [List.getD_cons_zero] at hy
   rw [List.set_cons_zero, List.flatMap_cons, List.flatMap_cons, Nat.zero_mul, Nat.zero_add, spl_left _ _ _ _ (by rw [cells_len]; exact h), hy]
 | x :: xs, i + 1, hi, hy => by
   simp only [List.getD_cons_succ] at hy
   rw [List.set_cons_succ, List.flatMap_cons, List.flatMap_cons, spl_flat e h xs i (by simpa using hi) hy, ← spl_right, cells_len]
   congr 1
   rw [Nat.succ_mul]; omega
theorem allL_set {D : Nat → Prop} {x : A} (hx : x.all D) : ∀ {z : List A}, allL D z → ∀ off, allL D (z.set off x)
 | [], _, _ => by simp [allL]
 | y :: z, hz, off => by
   simp only [allL] at hz
   cases off with
   | zero => simp only [List.set_cons_zero, allL]; exact ⟨hx, hz.2⟩
   | succ off => simp only [List.set_cons_succ, allL]; exact ⟨hz.1, allL_set hx hz.2 off⟩
theorem allL_spl {D : Nat → Prop} : ∀ {l z : List A} {off : Nat}, allL D z → allL D l → allL D (spl z off l)
 | [], _, _, hz, _ => by rw [spl_nil]; exact hz
 | x :: l, z, off, hz, hl => by
   simp only [allL] at hl
   rw [spl_cons]
   exact allL_spl (allL_set hl.1 hz off) hl.2
theorem get_upd1 {hp : Hp} {id : Nat} {ob : Ob} (k : Nat) (hk : k ≠ id) : get ((id, ob) :: hp) k = get hp k := by rw [get_cons, if_neg (fun e => hk e.symm)]
theorem def_upd1 {hp : Hp} {id : Nat} {ob : Ob} {k : Nat} (h : Def hp k) : Def ((id, ob) :: hp) k := by
 unfold Def at *
 rw [get_cons]
 split
 · rfl
 · exact h
theorem val_store_box (hT : ∀ t i, get T t = some i → TOk P t i) {n : Nat} {o : Oper} (hd : ∀ d, o.dst = some d → d < n) {σ : St} {t : Nat} {i : TI} (hi : get T t = some i) {p v : Operand} (ho : o.op = .store t p v) {id o1 : Nat} (hp : ev σ p = .pt id o1) {cs l : List A} (hb : get σ.hp id = some (.box cs)) (hl : cellsA (ev σ v) = some l) (hn : l.length = i.sz) (hle : o1 + i.sz ≤ cs.length) :
 Val P n o σ (σ.upd o.dst .un [(id, .box (spl cs o1 l))]) := by
 intro w0 L0 F0 F V B a w hs K Q hK
 have hob := hs.hp.ob id _ hb
 have hids := hs.hp.ids id _ hb
 have hrp := hs.rep p
 rw [hp] at hrp
 generalize hpv : a.eval p = pv at hrp
 obtain ⟨hrl, hl1⟩ := cellsA_rep (hs.rep v) hl (fun id _ => hs.V1 id)
 cases hob with
 | box _ g vs bt hV hg hr h1 =>
   cases hrp with
   | pt _ _ g' hg' =>
     have : g' = g := by rw [hV] at hg'; injection hg' with h; injection h with h; injection h with h; exact h.symm
     subst this
     obtain ⟨w', hrun, hgw, hoth, hsz, hos, htp, hou⟩ := run_storeAt_ (P := P) (hT t i hi) (v := a.eval v) (by rw [← Array.length_toList, hrl.length, hn]) g' o1 bt vs hg hl1 (by rw [hr.length]; exact hle)
     have hown : owns σ.hp V B id g' := by unfold owns; rw [hb]; simp [hV, blk]
     have hF : ∀ b, F b → w'.heap[b]? = w.heap[b]? := fun b hb' => hoth b (fun e => hs.hp.nF id g' hown (e ▸ hb'))
     have hst : Sim n w0 L0 F0 F V B { σ with hp := (id, .box (spl cs o1 l)) :: σ.hp } a w' := by
      refine hs.step (fun k => k = id) hos htp hou (fun b hb' hno => hoth b (fun e => hno id rfl (e ▸ hown))) (Nat.le_of_eq hsz.symm) (fun _ _ => rfl) (fun _ _ _ => rfl) (fun b hb => hb) (fun b hb => .inl hb) (fun b hb => by rw [hsz]; exact hs.F_lt b hb) hs.V1 (fun k hk => get_upd1 k hk) (fun k hk => def_upd1 hk) (fun k o' hk ho' => ?_) (fun k b hk ho' => ?_) (fun k k' b hk hk' _ _ => by rw [hk, hk'])
      · subst hk
        rw [get_cons, if_pos rfl] at ho'
        cases ho'
        refine ⟨.box _ g' (spl vs o1 (a.eval v).cells.toList) bt hV hgw ?_ (one_spl h1 hl1 o1), ?_⟩
        · exact (hr.move (fun _ h => h) hF (allL_mono (fun _ _ => rfl) hids)).spl (hrl.move (fun _ h => h) hF (allL_mono (fun _ _ => rfl) (cellsA_all (hs.repIds v) hl))) o1
        · exact allL_mono (fun _ h => def_upd1 h) (allL_spl hids (cellsA_all (hs.repIds v) hl))
      · subst hk
        unfold owns at ho'
        rw [get_cons, if_pos rfl] at ho'
        have ho2 : owns σ.hp V B k b := by unfold owns; rw [hb]; exact ho'
        exact ⟨by rw [hsz]; exact hs.hp.lt k b ho2, hs.hp.nF k b ho2, .inr ⟨k, rfl, ho2⟩⟩
     have hput := hst.putd hd (v := undef) (r := .un) (.un _) (by simp [A.all]) (σ.nx + 1)
     unfold Oper.wp
     have hxx : (execOp a.eval o).run P w = .ok .skip w' := by
      simp only [execOp, ho, hpv]
      simp [hrun]
     rw [hxx]
     exact hK F V B _ _ hput
theorem spl_mid {α : Type} : ∀ (l a b c : List α), a.length = l.length → spl (b ++ (a ++ c)) b.length l = b ++ (l ++ c)
 | [], a, b, c, h => by
   have : a = [] := List.eq_nil_of_length_eq_zero (by simpa using h)
   subst this; rw [spl_nil, List.nil_append]; try rfl
 | x :: l, [], b, c, h => by simp at h
 | x :: l, y :: a, b, c, h => by
   rw [spl_cons]
   rw [List.set_append_right _ _ (Nat.le_refl _), Nat.sub_self, List.cons_append, List.set_cons_zero]
   have := spl_mid l a (b ++ [x]) c (by simpa using h)
   simpa using this
theorem cut3 {α : Type} (l : List α) (o n : Nat) : l = l.take o ++ ((l.drop o).take n ++ l.drop (o + n)) := by
 rw [← List.drop_drop, List.take_append_drop, List.take_append_drop]
theorem spl_eq {α : Type} {us l : List α} {o : Nat} (h : o + l.length ≤ us.length) : spl us o l = us.take o ++ (l ++ us.drop (o + l.length)) := by
 have h1 := spl_mid l ((us.drop o).take l.length) (us.take o) (us.drop (o + l.length)) (by simp; omega)
 rw [← cut3, List.length_take, Nat.min_eq_left (by omega)] at h1
 exact h1
theorem spl_in {α : Type} {a vs c l : List α} {o : Nat} (h : o + l.length ≤ vs.length) : spl (a ++ (vs ++ c)) (a.length + o) l = a ++ (spl vs o l ++ c) := by
 rw [spl_eq h, spl_eq (by simp; omega)]
 rw [List.take_append, Nat.add_sub_cancel_left, List.take_of_length_le (by omega), List.drop_append, List.drop_of_length_le (by omega), Nat.add_assoc, Nat.add_sub_cancel_left, List.nil_append]
 rw [List.take_append_of_le_length (by omega), List.drop_append_of_le_length (by omega)]
 simp
theorem OwnL.spl {w : World} {us : List Value} {cs : List C} {bs : List Nat} (h : OwnL w us cs bs) {us' : List Value} {cs' : List C} {bs' : List Nat} (h' : OwnL w us' cs' bs') {o : Nat} (ho : o + cs'.length ≤ cs.length) (hd : ∀ x ∈ bs, x ∉ bs') : ∃ bs'', OwnL w (spl us o us') (spl cs o cs') bs'' ∧ ∀ b ∈ bs'', b ∈ bs ∨ b ∈ bs' := by
 rw [spl_eq ho, spl_eq (by rw [h.length, h'.length]; exact ho)]
 have hc := cut3 cs o cs'.length
 rw [hc] at h
 obtain ⟨u1, u23, b1, b23, e1, e2, h1, h23, d1⟩ := OwnL.split _ h
 obtain ⟨u2, u3, b2, b3, e3, e4, h2, h3, d2⟩ := OwnL.split _ h23
 subst e4
 subst e3
 subst e2
 have l1 : u1.length = o := by rw [h1.length]; simp; omega
 have l2 : u2.length = us'.length := by rw [h2.length, h'.length]; simp; omega
 have t1 : us.take o = u1 := by rw [e1, List.take_left' l1]
 have t3 : us.drop (o + us'.length) = u3 := by rw [e1, ← List.drop_drop, List.drop_left' l1, List.drop_left' l2]
 rw [t1, t3]
 refine ⟨b1 ++ (bs' ++ b3), h1.append (h'.append h3 fun x hx hx3 => hd x (by simp [hx3]) hx) fun x hx hx2 => ?_, fun b hb => ?_⟩
 · rcases List.mem_append.1 hx2 with hx2 | hx2
   · exact hd x (by simp [hx]) hx2
   · exact d1 x hx (by simp [hx2])
 · simp only [List.mem_append] at hb ⊢
   rcases hb with hb | hb | hb
   · exact .inl (.inl hb)
   · exact .inr hb
   · exact .inl (.inr (.inr hb))
theorem rowR_store {t : Nat} {i : TI} (hti : TOk P t i) {w : World} {e : Ty} {v x : Value} {n : Nat} {us : List Value} (hr : rowR w e v n us) {g n' cap' : Nat} (hg : v = .slice (some ⟨g, 0, none⟩) n' cap') {j o1 : Nat} (hj : j < n) (hsz : x.cells.size = i.sz) (hle : o1 + i.sz ≤ szE e) (h1 : ∀ u ∈ x.cells.toList, u.oneCell' = true) :
 blk v = some g ∧ ∃ w', (Instr.storeAt t (.pointer (some ⟨g, j * szE e + o1, none⟩)) x).run P w = .ok () w' ∧ rowR w' e v n (spl us (j * szE e + o1) x.cells.toList) ∧ (∀ k, k ≠ g → w'.heap[k]? = w.heap[k]?) ∧ w'.heap.size = w.heap.size ∧ w'.os = w.os ∧ w'.tape = w.tape ∧ w'.output = w.output := by
 rcases hr.2 with ⟨a0, h1, h2⟩ | ⟨g0, cap, cur, hV, hh, hle1, hcap, hcsz, htk⟩
 · omega
 have : g0 = g := by rw [hV] at hg; injection hg with h _ _; injection h with h; injection h with h
 subst this
 have hbd : j * szE e + o1 + i.sz ≤ cur.toList.length := by
  rw [Array.length_toList, hcsz]
  have h3 : (j + 1) * szE e ≤ (cap + 1) * szE e := Nat.mul_le_mul_right _ (by omega)
  rw [Nat.succ_mul] at h3
  omega
 obtain ⟨w', hrun, hgw, hoth, hsz', hos, htp, hou⟩ := run_storeAt_ (P := P) hti (v := x) hsz g0 (j * szE e + o1) (etOf e) cur.toList (by simpa using hh) h1 hbd
 refine ⟨by rw [hV]; rfl, w', hrun, ⟨by rw [spl_length]; exact hr.1, .inr ⟨g0, cap, (spl cur.toList (j * szE e + o1) x.cells.toList).toArray, hV, hgw, hle1, hcap, by rw [List.size_toArray, spl_length, Array.length_toList]; exact hcsz, ?_⟩⟩, hoth, hsz', hos, htp, hou⟩
 rw [spl_take, htk]
theorem val_store_re (hT : ∀ t i, get T t = some i → TOk P t i) {n : Nat} {o : Oper} (hd : ∀ d, o.dst = some d → d < n) {σ : St} {t : Nat} {i : TI} (hi : get T t = some i) {p v : Operand} (ho : o.op = .store t p v) {e : Ty} {id j o1 : Nat} (hp : ev σ p = .re (szE e) id j o1) {xs : List (El e)} (hb : get σ.hp id = some (.row e xs))
 {l : List A} (hl : cellsA (ev σ v) = some l) (hn : l.length = i.sz) (hle : o1 + i.sz ≤ szE e) (hno : get (frz (get σ.hp) l) id = none) {ds cs : List C} (hcs : toCs (get σ.hp) ds l = some cs) (hj : j < xs.length) {y : El e} (hy : cells e y = spl (cells e (xs.getD j (dflt e))) o1 cs) :
 Val P n o σ (σ.upd o.dst .un ((id, .row e (xs.set j y)) :: frz (get σ.hp) l)) := by
 intro w0 L0 F0 F V B a w hs K Q hK
 obtain ⟨hrl, hl1⟩ := cellsA_rep (hs.rep v) hl (fun id _ => hs.V1 id)
 have hrp := hs.rep p
 rw [hp] at hrp
 generalize hpv : a.eval p = pv at hrp
 obtain ⟨F', hF', hs'⟩ := hs.freeze l
 have hlc := toCs_rep hF' hs' (fun x hx => hx) hrl hcs
 have hb' : get (frz (get σ.hp) l ++ σ.hp) id = some (.row e xs) := by rw [get_append, hno]; exact hb
 have hob := hs'.hp.ob id _ hb'
 have hcl : cs.length = i.sz := by rw [← hlc.length, hrl.length, hn]
 cases hob with
 | row _ _ us hown hr hbb =>
   cases hrp with
   | re _ _ _ _ g' n' cap' hg' =>
     obtain ⟨hbk, w', hrun, hrw, hoth, hsz, hos, htp, hou⟩ := rowR_store (P := P) (hT t i hi) (x := a.eval v) hown hg' hj (by rw [← Array.length_toList, hrl.length, hn]) hle hl1
     have howns : owns (frz (get σ.hp) l ++ σ.hp) V B id g' := by unfold owns; rw [hb']; exact hbk
     have hF : ∀ b, F' b → w'.heap[b]? = w.heap[b]? := fun b hb' => hoth b (fun e => hs'.hp.nF id g' howns (e ▸ hb'))
     have hst : Sim n w0 L0 F0 F' V B { σ with hp := (id, .row e (xs.set j y)) :: (frz (get σ.hp) l ++ σ.hp) } a w' := by
      refine hs'.step (fun k => k = id) hos htp hou (fun b hb' hno => hoth b (fun e => hno id rfl (e ▸ howns))) (Nat.le_of_eq hsz.symm) (fun _ _ => rfl) (fun _ _ _ => rfl) (fun b hb => hb) (fun b hb => .inl hb) (fun b hb => by rw [hsz]; exact hs'.F_lt b hb) hs.V1 (fun k hk => get_upd1 k hk) (fun k hk => def_upd1 hk) (fun k o' hk ho' => ?_) (fun k b hk ho' => ?_) (fun k k' b hk hk' _ _ => by rw [hk, hk'])
      · subst hk
        rw [get_cons, if_pos rfl] at ho'
        cases ho'
        refine ⟨.row e _ (spl us (j * szE e + o1) (a.eval v).cells.toList) (by rw [List.length_set]; exact hrw) ?_ (by rw [List.length_set]; exact hbb), trivial⟩
        rw [spl_flat e (o := o1) (cs := cs) (by rw [hcl]; exact hle) xs j hj hy]
        exact (hr.move (fun _ h => h) hF).spl (hlc.move (fun _ h => h) hF) _
      · subst hk
        unfold owns at ho'
        rw [get_cons, if_pos rfl] at ho'
        have ho2 : owns (frz (get σ.hp) l ++ σ.hp) V B k b := by unfold owns; rw [hb']; exact ho'
        exact ⟨by rw [hsz]; exact hs'.hp.lt k b ho2, hs'.hp.nF k b ho2, .inr ⟨k, rfl, ho2⟩⟩
     have hput := hst.putd hd (v := undef) (r := .un) (.un _) (by simp [A.all]) (σ.nx + ((id, Ob.row e (xs.set j y)) :: frz (get σ.hp) l).length)
     unfold Oper.wp
     have hxx : (execOp a.eval o).run P w = .ok .skip w' := by
      simp only [execOp, ho, hpv]
      simp [hrun]
     rw [hxx]
     exact hK F' V B _ _ hput
theorem val_store_dp (hT : ∀ t i, get T t = some i → TOk P t i) {n : Nat} {o : Oper} (hd : ∀ d, o.dst = some d → d < n) {σ : St} {t : Nat} {i : TI} (hi : get T t = some i) {p v : Operand} (ho : o.op = .store t p v) {e : Ty} {id j o1 : Nat} (hp : ev σ p = .re (szE e) id j o1) {xs : List (El e)} (hb : get σ.hp id = some (.dp e xs))
 {l : List A} (hl : cellsA (ev σ v) = some l) (hn : l.length = i.sz) (hle : o1 + i.sz ≤ szE e) (hok : okDs (get σ.hp) l = true) (hnd : nodupN (id :: idsL l) = true) {ds cs : List C} (hcs : toCs (get σ.hp) ds l = some cs) (hj : j < xs.length) {y : El e} (hy : cells e y = spl (cells e (xs.getD j (dflt e))) o1 cs) :
 Val P n o σ (σ.upd o.dst .un ((id, .dp e (xs.set j y)) :: kill (idsL l))) := by
 intro w0 L0 F0 F V B a w hs K Q hK
 obtain ⟨hrl, hl1⟩ := cellsA_rep (hs.rep v) hl (fun id _ => hs.V1 id)
 have hrp := hs.rep p
 rw [hp] at hrp
 generalize hpv : a.eval p = pv at hrp
 have hnd' := List.nodup_cons.1 (nodupN_iff hnd)
 obtain ⟨bl, hlo, hbo⟩ := okDs_own hs hrl hok hnd'.2 hcs
 have hob := hs.hp.ob id _ hb
 have hcl : cs.length = i.sz := by rw [← hlo.length, hrl.length, hn]
 cases hob with
 | dp _ _ hown0 =>
   obtain ⟨us, b0, hbb, hown, hr, hn0, hB0⟩ := hown0.inv
   cases hrp with
   | re _ _ _ _ g' n' cap' hg' =>
     obtain ⟨hbk, w', hrun, hrw, hoth, hsz, hos, htp, hou⟩ := rowR_store (P := P) (hT t i hi) (x := a.eval v) hown hg' hj (by rw [← Array.length_toList, hrl.length, hn]) hle hl1
     have howid : ∀ b, owns σ.hp V B id b ↔ b ∈ bkl (V id) ++ b0 := fun b => by unfold owns; rw [hb, hB0]
     have hdis : ∀ x ∈ bl, ¬ owns σ.hp V B id x := fun x hx h => by
      obtain ⟨k, hk, hko⟩ := hbo x hx
      exact hnd'.1 (hs.hp.apart k id x hko h ▸ hk)
     have hgo : owns σ.hp V B id g' := (howid g').2 (List.mem_append_left _ (bkl_mem.2 hbk))
     rw [List.nodup_append] at hn0
     have hk0 : ∀ b ∈ b0, w'.heap[b]? = w.heap[b]? := fun b hb => hoth b fun e => hn0.2.2 g' (bkl_mem.2 hbk) b hb e.symm
     have hkl : ∀ b ∈ bl, w'.heap[b]? = w.heap[b]? := fun b hb => hoth b fun e => hdis b hb (e ▸ hgo)
     obtain ⟨bs, hbs, hsub⟩ := (hr.move hk0).spl (hlo.move hkl) (o := j * szE e + o1) (by
      rw [flat_len, hcl]
      have h3 : (j + 1) * szE e ≤ xs.length * szE e := Nat.mul_le_mul_right _ (by omega)
      rw [Nat.succ_mul] at h3
      omega) (fun x hx hx' => hdis x hx' ((howid x).2 (List.mem_append_right _ hx)))
     rw [← spl_flat e (o := o1) (cs := cs) (by rw [hcl]; exact hle) xs j hj hy] at hbs
     have hdf := okDs_def hok
     have hoo : Own w' (V id) (.sl e (xs.set j y)) (bkl (V id) ++ bs) := by
      refine .sl e _ _ _ bs (by rw [List.length_set]; exact hbb) (by rw [List.length_set]; exact hrw) hbs ?_
      rw [List.nodup_append]
      refine ⟨hn0.1, hbs.nodup, fun x hx y hy e => ?_⟩
      subst e
      rcases hsub x hy with h | h
      · exact hn0.2.2 x hx x h rfl
      · exact hdis x h ((howid x).2 (List.mem_append_left _ hx))
     have hVV : updV V id (V id) = V := by funext k; unfold updV; split <;> simp_all
     have hst := hs.turn (t := id) (ks := idsL l) (v := V id) (bs := bkl (V id) ++ bs) (o := .dp e (xs.set j y)) (w' := w') hnd'.1 (fun k hk => hdf k hk) (.inr rfl) (hs.V1 id) hos htp hou (Nat.le_of_eq hsz.symm) (fun b hb' hno => hoth b (fun e => hno id (.inl rfl) (e ▸ hgo)))
      (.dp e _ (by rw [hVV]; simp only [updB, if_true]; exact hoo)) trivial (fun b hb => by
        unfold owns at hb
        rw [get_cons, if_pos rfl] at hb
        simp only [updB, if_true] at hb
        rcases List.mem_append.1 hb with hb | hb
        · exact .inr ⟨id, .inl rfl, (howid b).2 (List.mem_append_left _ hb)⟩
        · rcases hsub b hb with h | h
          · exact .inr ⟨id, .inl rfl, (howid b).2 (List.mem_append_right _ h)⟩
          · obtain ⟨k, hk, hko⟩ := hbo b h
            exact .inr ⟨k, .inr hk, hko⟩)
     have hput := hst.putd hd (v := undef) (r := .un) (.un _) (by simp [A.all]) (σ.nx + (1 + (kill (idsL l)).length))
     unfold Oper.wp
     have hxx : (execOp a.eval o).run P w = .ok .skip w' := by
      simp only [execOp, ho, hpv]
      simp [hrun]
     rw [hxx]
     have e : (σ.upd o.dst .un ((id, .dp e (xs.set j y)) :: kill (idsL l))) = { ({ σ with hp := (id, .dp e (xs.set j y)) :: (kill (idsL l) ++ σ.hp) } : St).upd o.dst .un [] with nx := σ.nx + (1 + (kill (idsL l)).length) } := by
      simp [St.upd, Nat.add_comm]
     rw [← e] at hput
     exact hK _ _ _ _ _ hput
theorem val_store_fo (hT : ∀ t i, get T t = some i → TOk P t i) {n : Nat} {o : Oper} (hd : ∀ d, o.dst = some d → d < n) {σ : St} {t : Nat} {i : TI} (hi : get T t = some i) {p v : Operand} (ho : o.op = .store t p v) {e : Ty} {id o1 : Nat} {pre post : List (El e)} {cs : List A} (hp : ev σ p = .re (szE e) id pre.length o1) (hb : get σ.hp id = some (.fo e pre cs post))
 {l : List A} (hl : cellsA (ev σ v) = some l) (hn : l.length = i.sz) (hle : o1 + i.sz ≤ szE e) :
 Val P n o σ (σ.upd o.dst .un [(id, .fo e pre (spl cs o1 l) post)]) := by
 intro w0 L0 F0 F V B a w hs K Q hK
 obtain ⟨hrl, hl1⟩ := cellsA_rep (hs.rep v) hl (fun id _ => hs.V1 id)
 have hrp := hs.rep p
 rw [hp] at hrp
 generalize hpv : a.eval p = pv at hrp
 have hob := hs.hp.ob id _ hb
 have hids := hs.hp.ids id _ hb
 cases hob with
 | fo _ _ _ _ us1 vs us2 b1 b2 hbb hcl hown hr1 hr2 hv h1 hB0 hn0 =>
   cases hrp with
   | re _ _ _ _ g' n' cap' hg' =>
     obtain ⟨hbk, w', hrun, hrw, hoth, hsz, hos, htp, hou⟩ := rowR_store (P := P) (hT t i hi) (x := a.eval v) hown hg' (j := pre.length) (by omega) (by rw [← Array.length_toList, hrl.length, hn]) hle hl1
     have howid : ∀ b, owns σ.hp V B id b ↔ b ∈ bkl (V id) ++ (b1 ++ b2) := fun b => by unfold owns; rw [hb, hB0]
     have hgo : owns σ.hp V B id g' := (howid g').2 (List.mem_append_left _ (bkl_mem.2 hbk))
     have hn1 := hn0
     rw [hB0, List.nodup_append] at hn1
     have hk0 : ∀ b ∈ b1 ++ b2, w'.heap[b]? = w.heap[b]? := fun b hb => hoth b fun e => hn1.2.2 g' (bkl_mem.2 hbk) b hb e.symm
     have hF : ∀ b, F b → w'.heap[b]? = w.heap[b]? := fun b hb' => hoth b (fun e => hs.hp.nF id g' hgo (e ▸ hb'))
     have hl1' : us1.length = pre.length * szE e := by rw [hr1.length, flat_len]
     have hvl : vs.length = szE e := by rw [hv.length, hcl]
     rw [← hl1', spl_in (by rw [hrl.length, hn, hvl]; exact hle)] at hrw
     have hst : Sim n w0 L0 F0 F V B { σ with hp := (id, .fo e pre (spl cs o1 l) post) :: σ.hp } a w' := by
      refine hs.step (fun k => k = id) hos htp hou (fun b hb' hno => hoth b (fun e => hno id rfl (e ▸ hgo))) (Nat.le_of_eq hsz.symm) (fun _ _ => rfl) (fun _ _ _ => rfl) (fun b hb => hb) (fun b hb => .inl hb) (fun b hb => by rw [hsz]; exact hs.F_lt b hb) hs.V1 (fun k hk => get_upd1 k hk) (fun k hk => def_upd1 hk) (fun k o' hk ho' => ?_) (fun k b hk ho' => ?_) (fun k k' b hk hk' _ _ => by rw [hk, hk'])
      · subst hk
        rw [get_cons, if_pos rfl] at ho'
        cases ho'
        refine ⟨.fo e pre _ post us1 (spl vs o1 (a.eval v).cells.toList) us2 b1 b2 hbb (by rw [spl_length]; exact hcl) hrw (hr1.move fun b hb => hk0 b (by simp [hb])) (hr2.move fun b hb => hk0 b (by simp [hb])) ?_ (one_spl h1 hl1 o1) hB0 hn0, ?_⟩
        · exact (hv.move (fun _ h => h) hF (allL_mono (fun _ _ => rfl) hids)).spl (hrl.move (fun _ h => h) hF (allL_mono (fun _ _ => rfl) (cellsA_all (hs.repIds v) hl))) o1
        · exact allL_mono (fun _ h => def_upd1 h) (allL_spl hids (cellsA_all (hs.repIds v) hl))
      · subst hk
        unfold owns at ho'
        rw [get_cons, if_pos rfl] at ho'
        have ho2 : owns σ.hp V B k b := by unfold owns; rw [hb]; exact ho'
        exact ⟨by rw [hsz]; exact hs.hp.lt k b ho2, hs.hp.nF k b ho2, .inr ⟨k, rfl, ho2⟩⟩
     have hput := hst.putd hd (v := undef) (r := .un) (.un _) (by simp [A.all]) (σ.nx + 1)
     unfold Oper.wp
     have hxx : (execOp a.eval o).run P w = .ok .skip w' := by
      simp only [execOp, ho, hpv]
      simp [hrun]
     rw [hxx]
     exact hK F V B _ _ hput
end Go.Proofs.YthbpdhppelaihaaGreat
/- The conditions of F4 are sound: calls. Conditions: none. -/
namespace Go.Proofs.YthbpdhppelaihaaGreat
open Go.RowKit
variable {P : Program} {T : List (Nat × TI)}
mutual
theorem RepA.unren {F : Nat → Prop} {V : Nat → Value} {w : World} (ρ : Nat → Nat) : ∀ (a : A) {v : Value}, RepA F V w v (a.ren ρ) → RepA F (fun k => V (ρ k)) w v a
 | .un, v, _ => .un v
 | .nl, _, h => by cases h; exact .nl
 | .kb b, _, h => by cases h; exact .kb b
 | .c _, _, h => by cases h with | c h => exact .c h
 | .ag l, _, h => by simp only [A.ren] at h; cases h with | ag h h1 => exact .ag (RepAs.unren ρ l h) h1
 | .tp l, _, h => by simp only [A.ren] at h; cases h with | tp h => exact .tp (RepAs.unren ρ l h)
 | .pt id off, _, h => by simp only [A.ren] at h; cases h with | pt _ _ g hg => exact .pt id off g hg
 | .el e x off, _, h => by simp only [A.ren] at h; cases h with | el _ _ _ ad us hf hc hr => exact .el e x off ad us hf hc hr
 | .rw id, _, h => by simp only [A.ren] at h; cases h; exact .rw (V := fun k => V (ρ k)) id
 | .re e id i off, _, h => by simp only [A.ren] at h; cases h with | re _ _ _ _ g n cap hg => exact .re e id i off g n cap hg
 | .fn f l, _, h => by simp only [A.ren] at h; cases h with | fn _ h => exact .fn f (RepAs.unren ρ l h)
theorem RepAs.unren {F : Nat → Prop} {V : Nat → Value} {w : World} (ρ : Nat → Nat) : ∀ (l : List A) {us : List Value}, RepAs F V w us (renL ρ l) → RepAs F (fun k => V (ρ k)) w us l
 | [], _, h => by simp only [renL] at h; cases h; exact .nil
 | a :: l, _, h => by simp only [renL] at h; cases h with | cons h t => exact .cons (RepA.unren ρ a h) (RepAs.unren ρ l t)
end
mutual
theorem RepA.ren {F : Nat → Prop} {V V' : Nat → Value} {w : World} (ρ : Nat → Nat) : ∀ (a : A) {v : Value}, a.all (fun k => V' (ρ k) = V k) → RepA F V w v a → RepA F V' w v (a.ren ρ)
 | .un, v, _, _ => .un v
 | .nl, _, _, h => by cases h; exact .nl
 | .kb b, _, _, h => by cases h; exact .kb b
 | .c _, _, _, h => by cases h with | c h => exact .c h
 | .ag l, _, hv, h => by simp only [A.ren]; simp only [A.all] at hv; cases h with | ag h h1 => exact .ag (RepAs.ren ρ l hv h) h1
 | .tp l, _, hv, h => by simp only [A.ren]; simp only [A.all] at hv; cases h with | tp h => exact .tp (RepAs.ren ρ l hv h)
 | .pt id off, _, hv, h => by simp only [A.ren]; simp only [A.all] at hv; cases h with | pt _ _ g hg => exact .pt _ off g (by rw [hv]; exact hg)
 | .el e x off, _, hv, h => by simp only [A.ren]; cases h with | el _ _ _ ad us hf hc hr => exact .el e x off ad us hf hc hr
 | .rw id, _, hv, h => by simp only [A.ren]; simp only [A.all] at hv; cases h; rw [← hv]; exact .rw _
 | .re e id i off, _, hv, h => by simp only [A.ren]; simp only [A.all] at hv; cases h with | re _ _ _ _ g n cap hg => exact .re e _ i off g n cap (by rw [hv]; exact hg)
 | .fn f l, _, hv, h => by simp only [A.ren]; simp only [A.all] at hv; cases h with | fn _ h => exact .fn f (RepAs.ren ρ l hv h)
theorem RepAs.ren {F : Nat → Prop} {V V' : Nat → Value} {w : World} (ρ : Nat → Nat) : ∀ (l : List A) {us : List Value}, allL (fun k => V' (ρ k) = V k) l → RepAs F V w us l → RepAs F V' w us (renL ρ l)
 | [], _, _, h => by cases h; exact .nil
 | a :: l, _, hv, h => by
   simp only [allL] at hv
   cases h with | cons h t => exact .cons (RepA.ren ρ a hv.1 h) (RepAs.ren ρ l hv.2 t)
end
mutual
theorem A.all_ren (D : Nat → Prop) (ρ : Nat → Nat) : ∀ (a : A), (a.ren ρ).all D ↔ a.all (fun k => D (ρ k))
 | .un => by simp [A.ren, A.all]
 | .nl => by simp [A.ren, A.all]
 | .kb b => by simp [A.ren, A.all]
 | .c _ => by simp [A.ren, A.all]
 | .ag l => by simp only [A.ren, A.all]; exact allL_ren D ρ l
 | .tp l => by simp only [A.ren, A.all]; exact allL_ren D ρ l
 | .pt id off => by simp [A.ren, A.all]
 | .el e x off => by simp [A.ren, A.all]
 | .rw id => by simp [A.ren, A.all]
 | .re e id i off => by simp [A.ren, A.all]
 | .fn f l => by simp only [A.ren, A.all]; exact allL_ren D ρ l
theorem allL_ren (D : Nat → Prop) (ρ : Nat → Nat) : ∀ (l : List A), allL D (renL ρ l) ↔ allL (fun k => D (ρ k)) l
 | [] => by simp [renL, allL]
 | a :: l => by simp only [renL, allL]; rw [A.all_ren D ρ a, allL_ren D ρ l]
end
theorem renL_len (ρ : Nat → Nat) (l : List A) : (renL ρ l).length = l.length := by
 induction l with
 | nil => rfl
 | cons a l ih => simp [renL, ih]
theorem ObR.unren {F : Nat → Prop} {V : Nat → Value} {B : Nat → List Nat} {w : World} (ρ : Nat → Nat) {k : Nat} {o : Ob} (h : ObR F V B w (ρ k) (o.ren ρ)) : ObR F (fun k => V (ρ k)) (fun k => B (ρ k)) w k o := by
 cases o with
 | box cs => simp only [Ob.ren] at h; cases h with | box _ g vs t hV hg hr h1 => exact .box cs g vs t hV hg (hr.unren ρ _) h1
 | row e xs => simp only [Ob.ren] at h; cases h with | row _ _ us ho hr hb => exact .row e xs us ho hr hb
 | fz e xs => simp only [Ob.ren] at h; cases h with | fz _ _ h => exact .fz e xs h
 | dp e xs => simp only [Ob.ren] at h; cases h with | dp _ _ h => exact .dp e xs h
 | fo e pre cs post => simp only [Ob.ren] at h; cases h with | fo _ _ _ _ us1 vs us2 b1 b2 hb hc ho hr1 hr2 hv h1 hB hn => exact .fo e pre cs post us1 vs us2 b1 b2 hb (by rw [← hc]; exact (renL_len ρ cs).symm) ho hr1 hr2 (hv.unren ρ _) h1 hB hn
 | vw sz base off n => simp only [Ob.ren] at h; cases h with | vw _ _ _ _ g p N C hV hp hb hn => exact .vw sz base off n g p N C hV hp hb hn
 | mb c => simp only [Ob.ren] at h; cases h with | mb _ b hV hc => exact .mb c b hV hc
 | gone => exact .gone
theorem ObR.ren {F : Nat → Prop} {V V' : Nat → Value} {B B' : Nat → List Nat} {w : World} (ρ : Nat → Nat) {k : Nat} {o : Ob} (hk : V' (ρ k) = V k) (hkB : B' (ρ k) = B k) (hi : obIds (fun k => V' (ρ k) = V k) o) (h : ObR F V B w k o) : ObR F V' B' w (ρ k) (o.ren ρ) := by
 cases h with
 | box cs g vs t hV hg hr h1 => exact .box _ g vs t (by rw [hk]; exact hV) hg (hr.ren ρ _ hi) h1
 | row e xs us ho hr hb => exact .row e xs us (by rw [hk]; exact ho) hr hb
 | fz e xs h => exact .fz e xs (by rw [hk]; exact h)
 | dp e xs h => exact .dp e xs (by rw [hk, hkB]; exact h)
 | fo e pre cs post us1 vs us2 b1 b2 hb hc ho hr1 hr2 hv h1 hB hn => exact .fo e pre _ post us1 vs us2 b1 b2 hb (by rw [renL_len]; exact hc) (by rw [hk]; exact ho) hr1 hr2 (hv.ren ρ _ hi) h1 (by rw [hk, hkB]; exact hB) (by rw [hkB]; exact hn)
 | vw sz base off n g p N C hV hp hb hn => exact .vw sz _ off n g p N C (by rw [hk]; exact hV) hp (by rw [show V' (ρ base) = V base from hi]; exact hb) hn
 | mb c b hV hc => exact .mb c b (by rw [hk]; exact hV) hc
 | gone => exact .gone
theorem renId_lt {ids : List Nat} {nx : Nat} : ∀ {k : Nat}, k < ids.length → ids[k]? = some (renId ids nx k) := by
 induction ids with
 | nil => intro k h; simp at h
 | cons i ids ih =>
   intro k h
   cases k with
   | zero => rfl
   | succ k => simpa [renId] using ih (by simpa using h)
theorem renId_ge {ids : List Nat} {nx : Nat} : ∀ {k : Nat}, ids.length ≤ k → renId ids nx k = nx + (k - ids.length) := by
 induction ids with
 | nil => intro k _; simp [renId]
 | cons i ids ih =>
   intro k h
   cases k with
   | zero => simp at h
   | succ k => simp only [renId, List.length_cons]; rw [ih (by simpa using h)]; congr 1; omega
theorem lookAll_get {h : Nat → Option Ob} {ρ : Nat → Nat} : ∀ {l : Hp}, lookAll h ρ l → ∀ {k : Nat} {o : Ob}, get l k = some o → h (ρ k) = some (o.ren ρ)
 | [], _, k, o, hg => by simp [get] at hg
 | (k', o') :: l, hl, k, o, hg => by
   simp only [lookAll] at hl
   rw [get_cons] at hg
   split at hg
   · rename_i e; subst e; cases hg; exact hl.1
   · exact lookAll_get hl.2 hg
theorem newAll_get {h : Nat → Option Ob} {m nx : Nat} : ∀ {l : Hp}, newAll h m nx l → ∀ {k : Nat} {o : Ob}, get l k = some o → k < m ∨ h (nx + (k - m)) = none
 | [], _, k, o, hg => by simp [get] at hg
 | (k', o') :: l, hl, k, o, hg => by
   simp only [newAll] at hl
   rw [get_cons] at hg
   split at hg
   · rename_i e; subst e; exact hl.1
   · exact newAll_get hl.2 hg
theorem obsIds_get {D : Nat → Prop} : ∀ {l : Hp}, obsIds D l → ∀ {k : Nat} {o : Ob}, get l k = some o → obIds D o
 | [], _, k, o, hg => by simp [get] at hg
 | (k', o') :: l, hl, k, o, hg => by
   simp only [obsIds] at hl
   rw [get_cons] at hg
   split at hg
   · cases hg; exact hl.1
   · exact obsIds_get hl.2 hg
theorem renH_get {ρ : Nat → Nat} : ∀ {l : Hp} {k : Nat}, (∀ j, Def l j → ρ j = ρ k → j = k) → get (renH ρ l) (ρ k) = (get l k).map (Ob.ren ρ)
 | [], k, _ => rfl
 | (k', o') :: l, k, hinj => by
   simp only [renH]
   rw [get_cons, get_cons]
   by_cases e : k' = k
   · subst e; simp
   · rw [if_neg e, if_neg (fun h => e (hinj k' (by unfold Def; rw [get_cons, if_pos rfl]; rfl) h))]
     exact renH_get (fun j hj => hinj j (def_upd1 hj))
theorem renH_none {ρ : Nat → Nat} : ∀ {l : Hp} {id : Nat}, (∀ k, Def l k → ρ k ≠ id) → get (renH ρ l) id = none
 | [], id, _ => rfl
 | (k', o') :: l, id, h => by
   simp only [renH]
   rw [get_cons, if_neg (h k' (by unfold Def; rw [get_cons, if_pos rfl]; rfl))]
   exact renH_none (fun k hk => h k (def_upd1 hk))
def VN (h : Nat → Option Ob) (V : Nat → Value) (ρ : Nat → Nat) (k : Nat) : Value :=
 match h (ρ k) with
 | none => .slice none 0 0
 | some _ => V (ρ k)
theorem VN_some {h : Nat → Option Ob} {V : Nat → Value} {ρ : Nat → Nat} {k : Nat} (hk : (h (ρ k)).isSome = true) : VN h V ρ k = V (ρ k) := by
 unfold VN
 cases hg : h (ρ k) with
 | none => rw [hg] at hk; cases hk
 | some o => rfl
mutual
theorem leA_rep {F : Nat → Prop} {V : Nat → Value} {w : World} {h : Nat → Option Ob} {ρ : Nat → Nat} (hob : ∀ id e xs, h id = some (.fz e xs) → RepC F w (V id) (.sl e xs)) : ∀ (a' : A) {a : A} {v : Value}, RepA F V w v a → a.all (fun k => (h k).isSome = true) → leA h ρ a a' → RepA F (VN h V ρ) w v a'
 | .un, _, v, _, _, _ => .un v
 | .c c', a, v, hr, hd, hl => by
   unfold leA at hl
   split at hl
   · subst hl; cases hr with | c h => exact .c h
   · subst hl; cases hr; exact .c (.bool _)
   · obtain ⟨e, rfl⟩ := hl
     cases hr
     exact .c (.sl e [] none 0 [] (Nat.le_refl _) (by simp) (fun hp => by simp at hp) .nil)
   · rename_i id
     split at hl
     · rename_i e xs hg
       subst hl
       have := hob id _ _ hg
       cases hr
       exact .c this
     · exact hl.elim
   · exact hl.elim
 | .kb b', a, v, hr, hd, hl => by
   unfold leA at hl
   split at hl
   · subst hl; cases hr; exact .kb _
   · subst hl; cases hr with | c h => cases h; exact .kb _
   · exact hl.elim
 | .ag l', a, v, hr, hd, hl => by
   unfold leA at hl
   split at hl
   · cases hr with | ag h h1 => exact .ag (leL_rep hob l' h (by simpa only [A.all] using hd) hl) h1
   · exact hl.elim
 | .tp l', a, v, hr, hd, hl => by
   unfold leA at hl
   split at hl
   · cases hr with | tp h => exact .tp (leL_rep hob l' h (by simpa only [A.all] using hd) hl)
   · exact hl.elim
 | .nl, a, v, hr, _, hl => by unfold leA at hl; subst hl; cases hr; exact .nl
 | .pt id off, a, v, hr, hd, hl => by
   unfold leA at hl; subst hl
   simp only [A.all] at hd
   cases hr with | pt _ _ g hV => exact .pt id off g (by rw [VN_some hd]; exact hV)
 | .el e x off, a, v, hr, _, hl => by unfold leA at hl; subst hl; cases hr with | el _ _ _ ad us hF hc hr => exact .el e x off ad us hF hc hr
 | .rw id, a, v, hr, hd, hl => by
   unfold leA at hl
   split at hl
   · rename_i hn
     subst hl
     cases hr
     have := RepA.rw (F := F) (V := VN h V ρ) (w := w) id
     rwa [show VN h V ρ id = .slice none 0 0 from by unfold VN; rw [hn]] at this
   · rename_i o hn
     subst hl
     cases hr
     have := RepA.rw (F := F) (V := VN h V ρ) (w := w) id
     rwa [VN_some (by rw [hn]; rfl)] at this
 | .re sz id i off, a, v, hr, hd, hl => by
   unfold leA at hl; subst hl
   simp only [A.all] at hd
   cases hr with | re _ _ _ _ g n cap hV => exact .re sz id i off g n cap (by rw [VN_some hd]; exact hV)
 | .fn f l, a, v, hr, hd, hl => by
   unfold leA at hl; subst hl
   simp only [A.all] at hd
   rw [allL_ren] at hd
   cases hr with | fn _ hr => exact .fn f (RepAs.move (fun _ h => h) (fun _ _ => rfl) (allL_mono (fun k hk => VN_some hk) hd) (hr.unren ρ l))
theorem leL_rep {F : Nat → Prop} {V : Nat → Value} {w : World} {h : Nat → Option Ob} {ρ : Nat → Nat} (hob : ∀ id e xs, h id = some (.fz e xs) → RepC F w (V id) (.sl e xs)) : ∀ (l' : List A) {l : List A} {us : List Value}, RepAs F V w us l → allL (fun k => (h k).isSome = true) l → leL h ρ l l' → RepAs F (VN h V ρ) w us l'
 | [], l, us, hr, _, hl => by unfold leL at hl; subst hl; cases hr; exact .nil
 | a' :: l', l, us, hr, hd, hl => by
   unfold leL at hl
   split at hl
   · simp only [allL] at hd
     cases hr with | cons h t => exact .cons (leA_rep hob a' h hd.1 hl.1) (leL_rep hob l' t hd.2 hl.2)
   · exact hl.elim
end
mutual
theorem ff_rep {F F' : Nat → Prop} {V : Nat → Value} {w : World} : ∀ (a : A) {v : Value}, ffA a → RepA F V w v a → RepA F' V w v a
 | .c c, v, hf, hr => by
   cases hr with
   | c h =>
     cases h with
     | int k n => exact .c (.int k n)
     | bool b => exact .c (.bool b)
     | str s hs => exact .c (.str s hs)
     | sl => exact (hf : False).elim
 | .kb b, v, _, hr => by cases hr; exact .kb b
 | .nl, v, _, hr => by cases hr; exact .nl
 | .un, v, _, _ => .un v
 | .rw id, v, _, hr => by cases hr; exact .rw id
 | .ag l, v, hf, hr => by cases hr with | ag h h1 => exact .ag (ffL_rep l hf h) h1
 | .tp l, v, hf, hr => by cases hr with | tp h => exact .tp (ffL_rep l hf h)
 | .pt _ _, v, hf, _ => (hf : False).elim
 | .el _ _ _, v, hf, _ => (hf : False).elim
 | .re _ _ _ _, v, hf, _ => (hf : False).elim
 | .fn _ _, v, hf, _ => (hf : False).elim
theorem ffL_rep {F F' : Nat → Prop} {V : Nat → Value} {w : World} : ∀ (l : List A) {us : List Value}, ffL l → RepAs F V w us l → RepAs F' V w us l
 | [], _, _, .nil => .nil
 | a :: l, _, hf, .cons h t => .cons (ff_rep a hf.1 h) (ffL_rep l hf.2 t)
end
theorem ffH_get : ∀ {l : Hp}, ffH l → ∀ {k : Nat} {o : Ob}, get l k = some o → (∃ e xs, o = .dp e xs) ∨ o = .gone ∨ ∃ e xs, o = .row e xs ∧ (flat e = true ∨ xs = [])
 | [], _, k, o, hg => by simp [get] at hg
 | (k', o') :: l, hf, k, o, hg => by
   have key : ffH l ∧ ((∃ e xs, o' = .dp e xs) ∨ o' = .gone ∨ ∃ e xs, o' = .row e xs ∧ (flat e = true ∨ xs = [])) := by
    cases o' with
    | dp e xs => exact ⟨hf, .inl ⟨e, xs, rfl⟩⟩
    | gone => exact ⟨hf, .inr (.inl rfl)⟩
    | vw _ _ _ _ => exact hf.elim
    | mb _ => exact hf.elim
    | row e xs => exact ⟨hf.2, .inr (.inr ⟨e, xs, rfl, hf.1⟩)⟩
    | box => exact (hf : False).elim
    | fz => exact (hf : False).elim
    | fo => exact (hf : False).elim
   rw [get_cons] at hg
   split at hg
   · cases hg; exact key.2
   · exact ffH_get key.1 hg
theorem run_enter {g : Nat} (he : Ent P g) {n : Nat} {o : Oper} {c : Call} {f : Operand} (ho : o.op = .call c) (hc : c.callee = .value f) {a : Act} {caps : Array Value} (hf : a.eval f = .func (.func g) #[] caps) {w : World} : (execOp a.eval o).run P w = .ok (.enter g (c.args.map a.eval ++ caps)) w := by
 obtain ⟨fn, h1, h2, h3⟩ := he
 obtain ⟨callee, args, argTypes⟩ := c
 simp only at hc
 subst hc
 have h2' : ¬ fn.body = none := by intro h; rw [h] at h2; cases h2
 have h3' : ¬ fn.name = "runtime.NumGoroutine" := by simpa using h3
 simp [execOp, ho, resolve, hf, Deferred.ofValue, invoke, callFunc, h1, h2', h3']
theorem val_call {n : Nat} {o : Oper} (hd : ∀ d, o.dst = some d → d < n) {σ : St} {c : Call} {f : Operand} (ho : o.op = .call c) (hc : c.callee = .value f) {g : Nat} {caps as : List A} (hf : ev σ f = .fn g caps) {hin hout : Hp} {r : A} {ids : List Nat} {nx : Nat} (hret : Ret P g as hin r hout)
 (hargs : c.args.toList.map (ev σ) ++ caps = renL (renId ids nx) as) (hnd : ids.Nodup) (hdef : ∀ k, Def hin k ↔ k < ids.length) (hlk : lookAll (get σ.hp) (renId ids nx) hin) (hnw : newAll (get σ.hp) ids.length nx hout) (has : allL (Def hin) as) (hoi : obsIds (Def hin) hin) :
 Val P n o σ (σ.upd o.dst (r.ren (renId ids nx)) (renH (renId ids nx) hout)) := by
 intro w0 L0 F0 F V B a w hs K Q hK
 generalize hρ : renId ids nx = ρ at *
 have hlook : ∀ {k o}, get hin k = some o → get σ.hp (ρ k) = some (o.ren ρ) := fun h => lookAll_get hlk h
 have hdin : ∀ {k}, Def hin k → Def σ.hp (ρ k) := fun {k} hk => by
  obtain ⟨o, ho⟩ := Option.isSome_iff_exists.1 hk
  unfold Def; rw [hlook ho]; rfl
 have hinjin : ∀ {j k}, Def hin j → Def hin k → ρ j = ρ k → j = k := fun {j k} hj hk e => by
  have hj := (hdef j).1 hj
  have hk := (hdef k).1 hk
  have h1 := renId_lt (nx := nx) hj
  have h2 := renId_lt (nx := nx) hk
  rw [hρ] at h1 h2
  rw [e, ← h2] at h1
  exact (List.getElem?_inj hj hnd).1 h1
 have hinj : ∀ {j k}, Def hout j → Def hout k → ρ j = ρ k → j = k := fun {j k} hj hk e => by
  obtain ⟨oj, hj⟩ := Option.isSome_iff_exists.1 hj
  obtain ⟨ok, hk⟩ := Option.isSome_iff_exists.1 hk
  have key : ∀ {j k : Nat} {ok : Ob}, j < ids.length → get hout k = some ok → ρ j = ρ k → k < ids.length := fun {j k ok} hj hk e => by
   rcases newAll_get hnw hk with h1 | h1
   · exact h1
   · have h2 := hdin ((hdef j).2 hj)
     by_cases hkl : k < ids.length
     · exact hkl
     · rw [e, ← hρ, renId_ge (by omega)] at h2
       unfold Def at h2; rw [h1] at h2; cases h2
  by_cases hjl : j < ids.length
  · exact hinjin ((hdef j).2 hjl) ((hdef k).2 (key hjl hk e)) e
  · by_cases hkl : k < ids.length
    · exact absurd (key hkl hj e.symm) hjl
    · rw [← hρ, renId_ge (by omega), renId_ge (by omega)] at e
      omega
 have howin : ∀ {k b}, owns hin (fun k => V (ρ k)) (fun k => B (ρ k)) k b → owns σ.hp V B (ρ k) b := fun {k b} h => by
  unfold owns at h ⊢
  cases hg : get hin k with
  | none => rw [hg] at h; exact h.elim
  | some ob =>
    rw [hlook hg]
    rw [hg] at h
    cases ob <;> simp only [Ob.ren] <;> exact h
 have hH : HeapOk F (fun k => V (ρ k)) (fun k => B (ρ k)) w hin := by
  refine ⟨fun k o hk => (hs.hp.ob _ _ (hlook hk)).unren ρ, fun k o hk => obsIds_get hoi hk, fun k b hb => hs.hp.lt _ b (howin hb), fun k b hb => hs.hp.nF _ b (howin hb), fun k k' b hb hb' => ?_⟩
  exact hinjin (owns_def hb) (owns_def hb') (hs.hp.apart _ _ b (howin hb) (howin hb'))
 -- the arguments
 have hrf := hs.rep f
 rw [hf] at hrf
 generalize hfv : a.eval f = fv at hrf
 cases hrf with
 | fn _ hcaps =>
   rename_i cus
   have hall := (evs_rep hs c.args.toList).1.append hcaps
   rw [hargs] at hall
   have hrun := run_enter (P := P) hret.1 (n := n) ho hc hfv (w := w)
   have hcall := hret.2 F (fun k => V (ρ k)) (fun k => B (ρ k)) w _ hs.F_lt (fun id => hs.V1 _) hH (hall.unren ρ) has
   unfold Oper.wp
   rw [hrun]
   simp only [Oper.upon]
   have hargsv : (c.args.toList.map a.eval ++ cus).toArray = c.args.map a.eval ++ cus.toArray := by
    apply Array.toList_inj.1
    simp
   rw [hargsv] at hcall
   refine Calls.mono hcall fun e w'' he => ?_
   obtain ⟨v, F', V', B', rfl, hrv, hrd, hho, hv1, hkeep, hFF, hFn, hFl, hon, hfr⟩ := he
   simp only
   classical
   let V2 : Nat → Value := fun id => if h : ∃ k, Def hout k ∧ ρ k = id then V' (Classical.choose h) else V id
   have hV2 : ∀ k, Def hout k → V2 (ρ k) = V' k := fun k hk => by
    have h : ∃ j, Def hout j ∧ ρ j = ρ k := ⟨k, hk, rfl⟩
    show (if h : ∃ j, Def hout j ∧ ρ j = ρ k then V' (Classical.choose h) else V (ρ k)) = _
    rw [dif_pos h]
    obtain ⟨h1, h2⟩ := Classical.choose_spec h
    rw [hinj h1 hk h2]
   let B2 : Nat → List Nat := fun id => if h : ∃ k, Def hout k ∧ ρ k = id then B' (Classical.choose h) else B id
   have hB2 : ∀ k, Def hout k → B2 (ρ k) = B' k := fun k hk => by
    have h : ∃ j, Def hout j ∧ ρ j = ρ k := ⟨k, hk, rfl⟩
    show (if h : ∃ j, Def hout j ∧ ρ j = ρ k then B' (Classical.choose h) else B (ρ k)) = _
    rw [dif_pos h]
    obtain ⟨h1, h2⟩ := Classical.choose_spec h
    rw [hinj h1 hk h2]
   have hB2n : ∀ id, (¬ ∃ k, Def hout k ∧ ρ k = id) → B2 id = B id := fun id h => by
    show (if h : ∃ k, Def hout k ∧ ρ k = id then B' (Classical.choose h) else B id) = _
    rw [dif_neg h]
   have hV2n : ∀ id, (¬ ∃ k, Def hout k ∧ ρ k = id) → V2 id = V id := fun id h => by
    show (if h : ∃ k, Def hout k ∧ ρ k = id then V' (Classical.choose h) else V id) = _
    rw [dif_neg h]
   have hVold : ∀ id, Def σ.hp id → V2 id = V id := fun id hid => by
    by_cases h : ∃ k, Def hout k ∧ ρ k = id
    · obtain ⟨k, hk, rfl⟩ := h
      rw [hV2 k hk]
      by_cases hkl : k < ids.length
      · exact (hkeep k ((hdef k).2 hkl)).1
      · obtain ⟨ok, hk⟩ := Option.isSome_iff_exists.1 hk
        rcases newAll_get hnw hk with h1 | h1
        · exact absurd h1 hkl
        · rw [← hρ, renId_ge (by omega)] at hid
          unfold Def at hid; rw [h1] at hid; cases hid
    · exact hV2n id h
   have hget : ∀ k, Def hout k → get (renH ρ hout ++ σ.hp) (ρ k) = (get hout k).map (Ob.ren ρ) := fun k hk => by
    rw [get_append, renH_get (fun j hj e => hinj hj hk e)]
    obtain ⟨o, ho⟩ := Option.isSome_iff_exists.1 hk
    rw [ho]; rfl
   have hgetn : ∀ id, (¬ ∃ k, Def hout k ∧ ρ k = id) → get (renH ρ hout ++ σ.hp) id = get σ.hp id := fun id h => by
    rw [get_append, renH_none (fun k hk e => h ⟨k, hk, e⟩)]
   have hdef' : ∀ k, Def hout k → Def (renH ρ hout ++ σ.hp) (ρ k) := fun k hk => by
    unfold Def; rw [hget k hk]
    obtain ⟨o, ho⟩ := Option.isSome_iff_exists.1 hk
    rw [ho]; rfl
   have hdefold : ∀ id, Def σ.hp id → Def (renH ρ hout ++ σ.hp) id := fun id hid => by
    by_cases h : ∃ k, Def hout k ∧ ρ k = id
    · obtain ⟨k, hk, rfl⟩ := h; exact hdef' k hk
    · unfold Def; rw [hgetn id h]; exact hid
   have howout : ∀ {k b}, Def hout k → owns (renH ρ hout ++ σ.hp) V2 B2 (ρ k) b → owns hout V' B' k b := fun {k b} hk h => by
    unfold owns at h ⊢
    rw [hget k hk, hV2 k hk, hB2 k hk] at h
    obtain ⟨ob, hob⟩ := Option.isSome_iff_exists.1 hk
    rw [hob] at h ⊢
    cases ob <;> simp only [Option.map_some, Ob.ren] at h <;> exact h
   have hst : Sim n w0 L0 F0 F' V2 B2 { σ with hp := renH ρ hout ++ σ.hp } a w'' := by
    refine hs.step (fun id => ∃ k, Def hout k ∧ ρ k = id) hfr.os hfr.tape hfr.output (fun b hb hno => hfr.old b hb (fun ⟨k, hk⟩ => hno (ρ k) ⟨k, (hkeep k (owns_def hk)).2, rfl⟩ (howin hk))) hfr.size hVold (fun id h _ => hB2n id h) hFF (fun b hb => ?_) hFl (fun id => ?_) hgetn hdefold (fun id o hid ho => ?_) (fun id b hid hb => ?_) (fun id id' b hid hid' hb hb' => ?_)
    · rcases hFn b hb with h1 | h1 | ⟨k, h1⟩
      · exact .inl h1
      · exact .inr (.inl h1)
      · exact .inr (.inr ⟨ρ k, ⟨k, (hkeep k (owns_def h1)).2, rfl⟩, howin h1⟩)
    · by_cases h : ∃ k, Def hout k ∧ ρ k = id
      · obtain ⟨k, hk, rfl⟩ := h; rw [hV2 k hk]; exact hv1 k
      · rw [hV2n id h]; exact hs.V1 id
    · obtain ⟨k, hk, rfl⟩ := hid
      rw [hget k hk] at ho
      obtain ⟨ob, hob⟩ := Option.isSome_iff_exists.1 hk
      rw [hob] at ho
      simp only [Option.map_some, Option.some.injEq] at ho
      subst ho
      have hoid := hho.ids k ob hob
      refine ⟨(hho.ob k ob hob).ren ρ (hV2 k hk) (hB2 k hk) (obIds_mono (fun j hj => hV2 j hj) hoid), ?_⟩
      cases ob with
      | box cs => simp only [Ob.ren, obIds]; rw [allL_ren]; exact allL_mono (fun j hj => hdef' j hj) hoid
      | fo e pre cs post => simp only [Ob.ren, obIds]; rw [allL_ren]; exact allL_mono (fun j hj => hdef' j hj) hoid
      | vw sz base off n => exact hdef' base hoid
      | _ => trivial
    · obtain ⟨k, hk, rfl⟩ := hid
      have h1 := howout hk hb
      refine ⟨hho.lt k b h1, hho.nF k b h1, ?_⟩
      rcases hon k b h1 with h2 | ⟨k', h2⟩
      · exact .inl h2
      · exact .inr ⟨ρ k', ⟨k', (hkeep k' (owns_def h2)).2, rfl⟩, howin h2⟩
    · obtain ⟨k, hk, rfl⟩ := hid
      obtain ⟨k', hk', rfl⟩ := hid'
      rw [hho.apart k k' b (howout hk hb) (howout hk' hb')]
   have hput := hst.putd hd (v := v) (r := r.ren ρ) (RepA.ren ρ r (A.all_mono (fun k hk => hV2 k hk) hrd) hrv) ((A.all_ren _ ρ r).2 (A.all_mono (fun k hk => hdef' k hk) hrd)) (σ.nx + (renH ρ hout).length)
   exact hK F' V2 B2 _ _ hput
theorem allL_app {D : Nat → Prop} : ∀ {l l' : List A}, allL D l → allL D l' → allL D (l ++ l')
 | [], _, _, h => h
 | a :: l, l', h, h' => by
   simp only [allL, List.cons_append] at *
   exact ⟨h.1, allL_app h.2 h'⟩
theorem val_callB {n : Nat} {o : Oper} (hd : ∀ d, o.dst = some d → d < n) {σ : St} {c : Call} {f : Operand} (ho : o.op = .call c) (hc : c.callee = .value f) {g : Nat} {caps as : List A} (hf : ev σ f = .fn g caps) {hout : Hp} {r : A} {nx : Nat} (hret : Ret P g as [] r hout)
 (hargs : leL (lent (get σ.hp)) id (c.args.toList.map (ev σ) ++ caps) as) (hfr : ffA r) (hfh : ffH hout) (hnw : newAll (get σ.hp) 0 nx hout) (has : allL (fun _ => False) as) :
 Val P n o σ (σ.upd o.dst (r.ren (renId [] nx)) (renH (renId [] nx) hout)) := by
 intro w0 L0 F0 F V B a w hs K Q hK
 have hρ : ∀ k, renId [] nx k = nx + k := fun k => by rw [renId_ge (by simp)]; simp
 generalize hρ0 : renId [] nx = ρ at *
 have hnone : ∀ k, Def hout k → get σ.hp (ρ k) = none := fun k hk => by
  obtain ⟨ok, hk⟩ := Option.isSome_iff_exists.1 hk
  rcases newAll_get hnw hk with h1 | h1
  · omega
  · rw [hρ]; exact h1
 have hinj : ∀ {j k}, ρ j = ρ k → j = k := fun {j k} e => by rw [hρ, hρ] at e; omega
 let F1 : Nat → Prop := fun b => F b ∨ ∃ id, owns σ.hp V B id b
 have hF1 : ∀ b, F b → F1 b := fun b hb => .inl hb
 have hF1lt : ∀ b, F1 b → b < w.heap.size := fun b hb => by
  rcases hb with hb | ⟨id, hb⟩
  · exact hs.F_lt b hb
  · exact hs.hp.lt id b hb
 have hlen : ∀ id e xs, lent (get σ.hp) id = some (.fz e xs) → RepC F1 w (V id) (.sl e xs) := fun id e xs hl => by
  unfold lent at hl
  have hrw : ∀ e xs, (get σ.hp id = some (.row e xs) ∨ get σ.hp id = some (.dp e xs)) → RepC F1 w (V id) (.sl e xs) := fun e xs hg => row_rep (hs.hp.ob id) hg hF1 fun b hb => .inr ⟨id, hb⟩
  split at hl
  · rename_i e' xs' hg; cases hl; exact hrw _ _ (.inl hg)
  · rename_i e' xs' hg; cases hl; exact hrw _ _ (.inr hg)
  · have hob := hs.hp.ob id _ hl
    cases hob with | fz _ _ h => exact h.move hF1 (fun _ _ => rfl)
 have hls : ∀ k, Def σ.hp k → (lent (get σ.hp) k).isSome = true := fun k hk => by
  unfold lent
  split
  · rfl
  · rfl
  · exact hk
 have hrf := hs.rep f
 have hif := hs.repIds f
 rw [hf] at hrf hif
 generalize hfv : a.eval f = fv at hrf
 cases hrf with
 | fn _ hcaps =>
   rename_i cus
   have hall := (evs_rep hs c.args.toList).1.append hcaps
   have hids : allL (Def σ.hp) (c.args.toList.map (ev σ) ++ caps) := by
    simp only [A.all] at hif
    exact allL_app (evs_rep hs c.args.toList).2 hif
   have hrun := run_enter (P := P) hret.1 (n := n) ho hc hfv (w := w)
   have hall1 := leL_rep hlen as (hall.move hF1 (fun _ _ => rfl) (allL_mono (fun _ _ => rfl) hids)) (allL_mono hls hids) hargs
   have hVN1 : ∀ k, (VN (lent (get σ.hp)) V id k).oneCell' = true := fun k => by
    unfold VN
    split
    · rfl
    · exact hs.V1 _
   have hcall := hret.2 F1 (VN (lent (get σ.hp)) V id) B w _ hF1lt hVN1 ⟨fun id o hg => by simp [get] at hg, fun id o hg => by simp [get] at hg, fun id b hb => by simp [owns, get] at hb, fun id b hb => by simp [owns, get] at hb, fun id id' b hb => by simp [owns, get] at hb⟩ hall1 (allL_mono (fun _ h => h.elim) has)
   unfold Oper.wp
   rw [hrun]
   simp only [Oper.upon]
   have hargsv : (c.args.toList.map a.eval ++ cus).toArray = c.args.map a.eval ++ cus.toArray := by
    apply Array.toList_inj.1
    simp
   rw [hargsv] at hcall
   refine Calls.mono hcall fun e w'' he => ?_
   obtain ⟨v, F', V', B', rfl, hrv, hrd, hho, hv1, _, _, _, _, hon, hfw⟩ := he
   simp only
   classical
   let V2 : Nat → Value := fun id => if nx ≤ id ∧ Def hout (id - nx) then V' (id - nx) else V id
   let B2 : Nat → List Nat := fun id => if nx ≤ id ∧ Def hout (id - nx) then B' (id - nx) else B id
   have hV2 : ∀ k, Def hout k → V2 (ρ k) = V' k := fun k hk => by
    show (if _ then _ else _) = _
    rw [hρ, Nat.add_sub_cancel_left, if_pos ⟨by omega, hk⟩]
   have hB2 : ∀ k, Def hout k → B2 (ρ k) = B' k := fun k hk => by
    show (if _ then _ else _) = _
    rw [hρ, Nat.add_sub_cancel_left, if_pos ⟨by omega, hk⟩]
   have hV2n : ∀ id, Def σ.hp id → V2 id = V id := fun id hid => by
    show (if _ then _ else _) = _
    rw [if_neg]
    rintro ⟨h1, h2⟩
    have := hnone _ h2
    rw [hρ, Nat.add_sub_cancel' h1] at this
    unfold Def at hid; rw [this] at hid; cases hid
   have hget : ∀ k, Def hout k → get (renH ρ hout ++ σ.hp) (ρ k) = (get hout k).map (Ob.ren ρ) := fun k hk => by
    rw [get_append, renH_get (fun j hj e => hinj e)]
    obtain ⟨o, ho⟩ := Option.isSome_iff_exists.1 hk
    rw [ho]; rfl
   have hgetn : ∀ id, ¬ (nx ≤ id ∧ Def hout (id - nx)) → get (renH ρ hout ++ σ.hp) id = get σ.hp id := fun id h => by
    rw [get_append, renH_none (fun k hk e => h (by rw [hρ] at e; subst e; exact ⟨by omega, by rw [Nat.add_sub_cancel_left]; exact hk⟩))]
   have hdef' : ∀ k, Def hout k → Def (renH ρ hout ++ σ.hp) (ρ k) := fun k hk => by
    unfold Def; rw [hget k hk]
    obtain ⟨o, ho⟩ := Option.isSome_iff_exists.1 hk
    rw [ho]; rfl
   have hform : ∀ {id}, (nx ≤ id ∧ Def hout (id - nx)) → ∃ k, Def hout k ∧ id = ρ k := fun {id} h => ⟨id - nx, h.2, by rw [hρ, Nat.add_sub_cancel' h.1]⟩
   have howout : ∀ {k b}, Def hout k → owns (renH ρ hout ++ σ.hp) V2 B2 (ρ k) b → owns hout V' B' k b := fun {k b} hk h => by
    unfold owns at h ⊢
    rw [hget k hk, hV2 k hk, hB2 k hk] at h
    obtain ⟨ob, hob⟩ := Option.isSome_iff_exists.1 hk
    rw [hob] at h ⊢
    cases ob <;> simp only [Option.map_some, Ob.ren] at h <;> exact h
   have hst : Sim n w0 L0 F0 F V2 B2 { σ with hp := renH ρ hout ++ σ.hp } a w'' := by
    refine hs.step (fun id => nx ≤ id ∧ Def hout (id - nx)) hfw.os hfw.tape hfw.output (fun b hb _ => hfw.old b hb (fun ⟨k, hk⟩ => by simp [owns, get] at hk)) hfw.size hV2n (fun id h _ => if_neg h) (fun _ h => h) (fun b hb => .inl hb) (fun b hb => Nat.lt_of_lt_of_le (hs.F_lt b hb) hfw.size) (fun id => ?_) hgetn (fun id hid => ?_) (fun id o hid ho => ?_) (fun id b hid hb => ?_) (fun id id' b hid hid' hb hb' => ?_)
    · show (if _ then _ else _ : Value).oneCell' = true
      split
      · exact hv1 _
      · exact hs.V1 _
    · by_cases h : nx ≤ id ∧ Def hout (id - nx)
      · obtain ⟨k, hk, rfl⟩ := hform h; exact hdef' k hk
      · unfold Def; rw [hgetn id h]; exact hid
    · obtain ⟨k, hk, rfl⟩ := hform hid
      rw [hget k hk] at ho
      obtain ⟨ob, hob⟩ := Option.isSome_iff_exists.1 hk
      rw [hob] at ho
      simp only [Option.map_some, Option.some.injEq] at ho
      subst ho
      have h1 := hho.ob k ob hob
      rcases ffH_get hfh hob with ⟨e, xs, rfl⟩ | rfl | ⟨e, xs, rfl, hfl⟩
      · cases h1 with | dp _ _ h2 => exact ⟨.dp e xs (by rw [hV2 k hk, hB2 k hk]; exact h2), trivial⟩
      · exact ⟨.gone, trivial⟩
      · cases h1 with | row _ _ us ho hr hb => exact ⟨.row e xs us (by rw [hV2 k hk]; exact ho) ((own_flats hfl hr).rep fun b hb => by simp at hb) hb, trivial⟩
    · obtain ⟨k, hk, rfl⟩ := hform hid
      have h1 := howout hk hb
      have h3 : w.heap.size ≤ b := by
       rcases hon k b h1 with h2 | ⟨k', h2⟩
       · exact h2
       · simp [owns, get] at h2
      exact ⟨hho.lt k b h1, fun hF => absurd (hs.F_lt b hF) (by omega), .inl h3⟩
    · obtain ⟨k, hk, rfl⟩ := hform hid
      obtain ⟨k', hk', rfl⟩ := hform hid'
      rw [hho.apart k k' b (howout hk hb) (howout hk' hb')]
   have hput := hst.putd hd (v := v) (r := r.ren ρ) (RepA.ren ρ r (A.all_mono (fun k hk => hV2 k hk) hrd) (ff_rep r hfr hrv)) ((A.all_ren _ ρ r).2 (A.all_mono (fun k hk => hdef' k hk) hrd)) (σ.nx + (renH ρ hout).length)
   exact hK F V2 B2 _ _ hput
end Go.Proofs.YthbpdhppelaihaaGreat
/- ONE OPERATION: what its condition says holds in every state that agrees where the operation looks. Conditions: none. -/
namespace Go.Proofs.YthbpdhppelaihaaGreat
open Go.RowKit
variable {P : Program} {T : List (Nat × TI)}
theorem pickA_pin {c a b : A} {K : A → Prop} (h : pickA c a b K) : ∃ r, K r ∧ pickA c a b (fun x => x = r) := by
 unfold pickA at h
 split at h
 · exact ⟨_, h, rfl⟩
 · exact ⟨_, h, rfl⟩
 · rename_i t
   cases ha : bOf a with
   | none => simp [ha] at h
   | some p =>
     cases hb : bOf b with
     | none => simp [ha, hb] at h
     | some q =>
       simp only [ha, hb] at h
       exact ⟨_, h, by simp [pickA, ha, hb]⟩
 · exact h.elim
theorem binI_pin {op : BinOp} {k : IntKind} {x y : Int} {K : A → Prop} (h : binI op k x y K) : ∃ r, K r ∧ binI op k x y (fun z => z = r) := by
 cases op <;> simp only [binI] at h <;> first | exact h.elim | exact ⟨_, h, rfl⟩ | exact ⟨_, h.2, h.1, rfl⟩
theorem binS_pin {op : BinOp} {x y : List UInt8} {K : A → Prop} (h : binS op x y K) : ∃ r, K r ∧ binS op x y (fun z => z = r) := by
 cases op <;> simp only [binS] at h <;> first | exact h.elim | exact ⟨_, h, rfl⟩ | exact ⟨_, h.2, h.1, rfl⟩
theorem binA_pin {op : BinOp} {tb : Bool} {a b : A} {K : A → Prop} (h : binA op tb a b K) : ∃ r, K r ∧ binA op tb a b (fun z => z = r) := by
 unfold binA at h
 split at h
 · rename_i k x k' y
   split at h
   · exact ⟨_, h.2, h.1, rfl⟩
   · exact ⟨_, h.2, h.1, rfl⟩
   · rename_i h1 h2
     split at h
     · rename_i hk
       obtain ⟨r, h3, h4⟩ := binI_pin h
       refine ⟨r, h3, ?_⟩
       cases op <;> simp only [binA, hk] <;> first | exact h4 | exact (h1 rfl).elim | exact (h2 rfl).elim
     · exact h.elim
 · exact binS_pin h
 · rename_i h1 h2
   split at h
   · rename_i p q hp hq
     refine ⟨_, h, ?_⟩
     unfold binA
     split
     · rename_i k x k' y; exact (h1 _ _ _ _ rfl rfl).elim
     · rename_i s t; exact (h2 _ _ rfl rfl).elim
     · simp [hp, hq]
   · rename_i p q hp hq
     refine ⟨_, h, ?_⟩
     unfold binA
     split
     · rename_i k x k' y; exact (h1 _ _ _ _ rfl rfl).elim
     · rename_i s t; exact (h2 _ _ rfl rfl).elim
     · simp [hp, hq]
   · exact h.elim
theorem unA_pin {op : UnOp} {a : A} {K : A → Prop} (h : unA op a K) : ∃ r, K r ∧ unA op a (fun z => z = r) := by
 unfold unA at h
 split at h <;> first | exact ⟨_, h, rfl⟩ | exact h.elim
theorem loadA_pin {hh : Nat → Option Ob} {p : A} {n : Nat} {agg : Bool} {K : A → Prop} (h : loadA hh p n agg K) : ∃ r, K r ∧ loadA hh p n agg (fun z => z = r) := by
 unfold loadA at h
 split at h
 · split at h
   · rename_i hg
     split at h
     · rename_i hc; exact ⟨_, h, by simp only [loadA, hg, hc]⟩
     · exact h.elim
   · exact h.elim
 · split at h
   · rename_i hc; exact ⟨_, h, by simp only [loadA, hc]⟩
   · exact h.elim
 · split at h
   · rename_i hg
     split at h
     · rename_i hb
       obtain ⟨h1, h⟩ := h
       split at h
       · rename_i hc; exact ⟨_, h, by simp only [loadA, hg, hb, hc]; exact ⟨h1, trivial⟩⟩
       · exact h.elim
     · exact h.elim
   · rename_i hg
     split at h
     · rename_i hb
       obtain ⟨h1, h⟩ := h
       split at h
       · rename_i hc; exact ⟨_, h, by simp only [loadA, hg, hb, hc]; exact ⟨h1, trivial⟩⟩
       · exact h.elim
     · exact h.elim
   · rename_i hg
     split at h
     · rename_i hb
       obtain ⟨h1, h⟩ := h
       split at h
       · rename_i hc; exact ⟨_, h, by simp only [loadA, hg, hb, hc]; exact ⟨h1, trivial⟩⟩
       · exact h.elim
     · exact h.elim
   · exact h.elim
 · exact h.elim
theorem fieldA_pin {p : A} {off : Nat} {K : A → Prop} (h : fieldA p off K) : ∃ r, K r ∧ fieldA p off (fun z => z = r) := by
 unfold fieldA at h
 split at h <;> first | exact ⟨_, h, rfl⟩ | exact h.elim
theorem indexS_pin {x i : A} {K : A → Prop} (h : indexS x i K) : ∃ r, K r ∧ indexS x i (fun z => z = r) := by
 unfold indexS at h
 split at h <;> first | exact ⟨_, h.2, h.1, rfl⟩ | exact h.elim
theorem fresh_ok {h : Nat → Option Ob} {nx : Nat} {K : Prop} (hf : fresh h nx K) : h nx = none ∧ K := by
 unfold fresh at hf
 split at hf
 · rename_i he; exact ⟨he, hf⟩
 · exact hf.elim
theorem lookAll_congr {h h' : Nat → Option Ob} {ρ : Nat → Nat} : ∀ {l : Hp}, (∀ id ∈ keys (renH ρ l), h id = h' id) → lookAll h' ρ l → lookAll h ρ l
 | [], _, _ => trivial
 | (k, ob) :: l, hh, hl => by
   simp only [lookAll, renH, keys, List.mem_cons] at *
   exact ⟨by rw [hh _ (.inl rfl)]; exact hl.1, lookAll_congr (fun id hid => hh id (.inr hid)) hl.2⟩
theorem newAll_congr {h h' : Nat → Option Ob} {ids : List Nat} {nx : Nat} : ∀ {l : Hp}, (∀ id ∈ keys (renH (renId ids nx) l), h id = h' id) → newAll h' ids.length nx l → newAll h ids.length nx l
 | [], _, _ => trivial
 | (k, ob) :: l, hh, hl => by
   simp only [newAll, renH, keys, List.mem_cons] at *
   refine ⟨?_, newAll_congr (fun id hid => hh id (.inr hid)) hl.2⟩
   rcases Nat.lt_or_ge k ids.length with h1 | h1
   · exact .inl h1
   · rcases hl.1 with h2 | h2
     · exact .inl h2
     · rw [hh _ (.inl (renId_ge h1).symm)]
       exact .inr h2
def Agr (σ σ0 : St) (o : Op) (rd : List Nat) (dh : Hp) : Prop := (∀ x ∈ o.operands.toList, ev σ x = ev σ0 x) ∧ ∀ id, id ∈ rd ∨ id ∈ keys dh → get σ.hp id = get σ0.hp id
def Snd (P : Program) (n : Nat) (o : Oper) (σ0 : St) (r : A) (dh : Hp) (rd : List Nat) : Prop := ∀ σ, Agr σ σ0 o.op rd dh → Val P n o σ (σ.upd o.dst r dh)
theorem snd_of {n : Nat} {o : Oper} {σ0 : St} {r : A} {rd : List Nat} (h : ∀ σ, (∀ x ∈ o.op.operands.toList, ev σ x = ev σ0 x) → (∀ id ∈ rd, get σ.hp id = get σ0.hp id) → Val P n o σ (σ.upd o.dst r [])) : Snd P n o σ0 r [] rd :=
 fun σ hs => h σ hs.1 (fun id hid => hs.2 id (.inl hid))
theorem pin_eq {n : Nat} {o : Oper} {σ : St} {r : A} (h : ∃ x, x = r ∧ Val P n o σ (σ.upd o.dst x [])) : Val P n o σ (σ.upd o.dst r []) := by
 obtain ⟨x, rfl, h⟩ := h
 exact h
variable (hT : ∀ t i, get T t = some i → TOk P t i)
section
variable {n : Nat} {o : Oper} (hd : ∀ d, o.dst = some d → d < n) {σ0 : St} {K : A → Hp → List Nat → Prop}
include hd
theorem snd_move {x : Operand} (ho : o.op = .move x ∨ o.op = .assign x) (hv : K (ev σ0 x) [] []) : ∃ r dh rd, K r dh rd ∧ Snd P n o σ0 r dh rd :=
 ⟨_, _, _, hv, snd_of fun σ h1 _ => by
   have : ev σ x = ev σ0 x := by rcases ho with ho | ho <;> (rw [ho] at h1; exact h1 x (by simp [Op.operands]))
   have h2 : Val P n o σ (σ.upd o.dst (ev σ x) []) := val_move hd ho
   rw [this] at h2
   exact h2⟩
theorem snd_pick {c x y : Operand} (ho : o.op = .pick c x y) (hv : pickA (ev σ0 c) (ev σ0 x) (ev σ0 y) fun r => K r [] []) : ∃ r dh rd, K r dh rd ∧ Snd P n o σ0 r dh rd := by
 obtain ⟨r, h1, h2⟩ := pickA_pin hv
 refine ⟨_, _, _, h1, snd_of fun σ h3 _ => ?_⟩
 rw [ho] at h3
 simp only [Op.operands, List.mem_cons, List.not_mem_nil, or_false, forall_eq_or_imp, forall_eq] at h3
 exact pin_eq (val_pick hd ho (K := fun x => x = r) (by rw [h3.1, h3.2.1, h3.2.2]; exact h2))
include hT
theorem snd_bin {op : BinOp} {t t' : TypeId} {x y : Operand} (ho : o.op = .binOp op t x y t') (hv : binA op (isBoolT T t) (ev σ0 x) (ev σ0 y) fun r => K r [] []) : ∃ r dh rd, K r dh rd ∧ Snd P n o σ0 r dh rd := by
 obtain ⟨r, h1, h2⟩ := binA_pin hv
 refine ⟨_, _, _, h1, snd_of fun σ h3 _ => ?_⟩
 rw [ho] at h3
 simp only [Op.operands, List.mem_cons, List.not_mem_nil, or_false, forall_eq_or_imp, forall_eq] at h3
 exact pin_eq (val_bin hT hd ho (K := fun x => x = r) (by rw [h3.1, h3.2]; exact h2))
omit hT in
theorem snd_un {op : UnOp} {t : TypeId} {x : Operand} (ho : o.op = .unOp op t x) (hv : unA op (ev σ0 x) fun r => K r [] []) : ∃ r dh rd, K r dh rd ∧ Snd P n o σ0 r dh rd := by
 obtain ⟨r, h1, h2⟩ := unA_pin hv
 refine ⟨_, _, _, h1, snd_of fun σ h3 _ => ?_⟩
 rw [ho] at h3
 simp only [Op.operands, List.mem_cons, List.not_mem_nil, or_false, forall_eq_or_imp, forall_eq] at h3
 exact pin_eq (val_un hd ho (K := fun x => x = r) (by rw [h3]; exact h2))
omit hT in
theorem snd_nil {x : Operand} (ho : o.op = .nilCheck x) (hv : match ev σ0 x with
 | .pt id o => K (.pt id o) [] []
 | .el e y o => K (.el e y o) [] []
 | .re sz id i o => K (.re sz id i o) [] []
 | .fn f l => K (.fn f l) [] []
 | _ => False) : ∃ r dh rd, K r dh rd ∧ Snd P n o σ0 r dh rd := by
 have key : ((∃ id o', ev σ0 x = .pt id o') ∨ (∃ e y o', ev σ0 x = .el e y o') ∨ (∃ s i j o', ev σ0 x = .re s i j o') ∨ ∃ f l, ev σ0 x = .fn f l) ∧ K (ev σ0 x) [] [] := by
  split at hv <;> rename_i hx <;> first | exact hv.elim | (rw [hx]; simp; exact hv)
 refine ⟨_, _, _, key.2, snd_of fun σ h3 _ => ?_⟩
 rw [ho] at h3
 simp only [Op.operands, List.mem_cons, List.not_mem_nil, or_false, forall_eq_or_imp, forall_eq] at h3
 have h4 : Val P n o σ (σ.upd o.dst (ev σ x) []) := val_nil (P := P) hd ho (σ := σ) (by rw [h3]; exact key.1)
 rw [h3] at h4
 exact h4
theorem snd_load {t : TypeId} {p : Operand} {i : TI} (hi : get T t = some i) (ho : o.op = .load t p) (hv : loadA (get σ0.hp) (ev σ0 p) i.sz i.k.agg fun r => K r [] (rdOf (ev σ0 p))) : ∃ r dh rd, K r dh rd ∧ Snd P n o σ0 r dh rd := by
 obtain ⟨r, h1, h2⟩ := loadA_pin hv
 refine ⟨_, _, _, h1, snd_of fun σ h3 h4 => ?_⟩
 rw [ho] at h3
 simp only [Op.operands, List.mem_cons, List.not_mem_nil, or_false, forall_eq_or_imp, forall_eq] at h3
 exact pin_eq (val_load hT hd hi ho (K := fun x => x = r) (h := get σ0.hp) (by rw [h3]; exact h4) (by rw [h3]; exact h2))
theorem snd_fieldAddr {t f off ft : Nat} {x : Operand} {i fi : TI} {fs : List (Nat × Nat)} (hi : get T t = some i) (hk : i.k = .st fs) (hf : fs[f]? = some (off, ft)) (hfi : get T ft = some fi) (hz : Nat.beq fi.sz 0 = false) (ho : o.op = .fieldAddr t x f) (hv : fieldA (ev σ0 x) off fun r => K r [] []) : ∃ r dh rd, K r dh rd ∧ Snd P n o σ0 r dh rd := by
 obtain ⟨r, h1, h2⟩ := fieldA_pin hv
 refine ⟨_, _, _, h1, snd_of fun σ h3 _ => ?_⟩
 rw [ho] at h3
 simp only [Op.operands, List.mem_cons, List.not_mem_nil, or_false, forall_eq_or_imp, forall_eq] at h3
 exact pin_eq (val_fieldAddr hT hd hi hk hf hfi hz ho (K := fun x => x = r) (by rw [h3]; exact h2))
theorem snd_index {t : Nat} {x j : Operand} {i : TI} (hi : get T t = some i) (hk : i.k = .str) (ho : o.op = .index t x j) (hv : indexS (ev σ0 x) (ev σ0 j) fun r => K r [] []) : ∃ r dh rd, K r dh rd ∧ Snd P n o σ0 r dh rd := by
 obtain ⟨r, h1, h2⟩ := indexS_pin hv
 refine ⟨_, _, _, h1, snd_of fun σ h3 _ => ?_⟩
 rw [ho] at h3
 simp only [Op.operands, List.mem_cons, List.not_mem_nil, or_false, forall_eq_or_imp, forall_eq] at h3
 exact pin_eq (val_index hT hd hi hk ho (K := fun x => x = r) (by rw [h3.1, h3.2]; exact h2))
end
end Go.Proofs.YthbpdhppelaihaaGreat