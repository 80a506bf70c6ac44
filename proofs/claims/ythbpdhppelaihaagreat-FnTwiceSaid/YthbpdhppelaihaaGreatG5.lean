/- ONE OPERATION, on: what makes memory, reads rows, stores, calls; then all of them. Conditions: none. -/
import Derived.Test.YthbpdhppelaihaaGreatTB
set_option linter.unusedVariables false
set_option linter.unusedSimpArgs false
namespace Go.Proofs.YthbpdhppelaihaaGreat
open Go.RowKit
variable {P : Program} {T : List (Nat × TI)}
theorem isRow_congr {h h' : Nat → Option Ob} {a : A} (hh : ∀ id ∈ rdOf a, h id = h' id) : isRow h a = isRow h' a := by
 unfold isRow
 split
 · rfl
 · rename_i id
   rw [hh id (by simp [rdOf])]
 · rfl
theorem isRowD_congr {h h' : Nat → Option Ob} {a : A} (hh : ∀ id ∈ rdOf a, h id = h' id) : isRowD h a = isRowD h' a := by
 unfold isRowD
 split
 · rfl
 · rename_i id
   rw [hh id (by simp [rdOf])]
 · rfl
theorem okD_congr {h h' : Nat → Option Ob} {a : A} (hh : ∀ id ∈ idsL [a], h id = h' id) : okD h a = okD h' a := by
 cases a <;> try rfl
 case c c => cases c <;> rfl
 case rw id => simp only [okD]; rw [hh id (by simp [idsL])]
theorem okDs_congr {h h' : Nat → Option Ob} : ∀ {l : List A}, (∀ id ∈ idsL l, h id = h' id) → okDs h l = okDs h' l
 | [], _ => rfl
 | a :: l, hh => by
   simp only [okDs]
   rw [okD_congr (fun id hid => hh id (by rw [idsL_cons]; exact List.mem_append_left _ hid)), okDs_congr (fun id hid => hh id (by rw [idsL_cons]; exact List.mem_append_right _ hid))]
variable (hT : ∀ t i, get T t = some i → TOk P t i)
section
variable {n : Nat} {o : Oper} (hd : ∀ d, o.dst = some d → d < n) {σ0 : St} {K : A → Hp → List Nat → Prop}
include hd hT
theorem snd_alloc {t : Nat} {i : TI} (hi : get T t = some i) (ho : o.op = .alloc t) (hv : fresh (get σ0.hp) σ0.nx (K (.pt σ0.nx 0) [(σ0.nx, .box i.z)] [])) : ∃ r dh rd, K r dh rd ∧ Snd P n o σ0 r dh rd := by
 obtain ⟨h1, h2⟩ := fresh_ok hv
 refine ⟨_, _, _, h2, fun σ hs => ?_⟩
 have hz : allL (fun _ => False) i.z := by obtain ⟨y, z, _, _, _, _, h, _⟩ := (hT t i hi).inf; exact zok_all h
 exact val_alloc hT hd (by rw [hs.2 _ (.inr (by simp [keys]))]; exact h1) hi ho hz
omit hT in
theorem snd_box {t : Nat} {x : Operand} (ho : o.op = .box t x) {l : List A} (hl : cellsA (ev σ0 x) = some l) (hv : fresh (get σ0.hp) σ0.nx (K (.pt σ0.nx 0) [(σ0.nx, .box l)] [])) : ∃ r dh rd, K r dh rd ∧ Snd P n o σ0 r dh rd := by
 obtain ⟨h1, h2⟩ := fresh_ok hv
 refine ⟨_, _, _, h2, fun σ hs => ?_⟩
 have h3 := hs.1
 rw [ho] at h3
 simp only [Op.operands, List.mem_cons, List.not_mem_nil, or_false, forall_eq_or_imp, forall_eq] at h3
 exact val_boxop hd (by rw [hs.2 _ (.inr (by simp [keys]))]; exact h1) ho (by rw [h3]; exact hl)
omit hT hd in
theorem parts_ev {σ : St} {parts : Array (Nat × Operand)} (h : ∀ x ∈ (parts.toList.map (·.2)).toArray.toList, ev σ x = ev σ0 x) : (parts.toList.map fun p => (p.1, ev σ p.2)) = parts.toList.map fun p => (p.1, ev σ0 p.2) := by
 apply List.map_congr_left
 intro p hp
 rw [h p.2 (by simp; exact ⟨p.1, by simpa using hp⟩)]
theorem snd_build {t : Nat} {i : TI} {fs : List (Nat × Nat)} (hi : get T t = some i) (hk : i.k = .st fs) {parts : Array (Nat × Operand)} (ho : o.op = .build t parts) {l : List A} (hall : (fs.all fun p => (get T p.2).isSome) = true) (hl : fillA (placeS T fs) i.z (parts.toList.map fun p => (p.1, ev σ0 p.2)) = some l) (hv : K (.ag l) [] []) : ∃ r dh rd, K r dh rd ∧ Snd P n o σ0 r dh rd := by
 refine ⟨_, _, _, hv, fun σ hs => ?_⟩
 have h3 := hs.1
 rw [ho] at h3
 simp only [Op.operands] at h3
 exact val_build hT hd hi hk ho (by rw [parts_ev h3]; exact hl) hall
theorem snd_lit {t et m : Nat} {i ie : TI} {e : Ty} (hi : get T t = some i) (hk : i.k = .sl e et) (hie : get T et = some ie) (hsz : ie.sz = szE e) (het : et = etOf e) {parts : Array (Nat × Operand)} (ho : o.op = .buildSlice t m parts) (hv : litA (get σ0.hp) e ie.z m (parts.toList.map fun p => (p.1, ev σ0 p.2)) σ0.nx K) : ∃ r dh rd, K r dh rd ∧ Snd P n o σ0 r dh rd := by
 unfold litA at hv
 split at hv
 · rename_i l hsm hfl
   split at hv
   · rename_i cs hcs
     split at hv
     rotate_left
     · split at hv
       · rename_i hok hnd
         obtain ⟨hch, hv⟩ := hv
         obtain ⟨h1, h2⟩ := fresh_ok hv
         refine ⟨_, _, _, h2, fun σ hs => ?_⟩
         have h3 := hs.1
         rw [ho] at h3
         simp only [Op.operands] at h3
         have hfz : ∀ id ∈ idsL l, get σ.hp id = get σ0.hp id := fun id hid => hs.2 id (.inl hid)
         exact val_litD hT hd (σ := σ) (und_sl (hT t i hi) hk) (hT et ie hie) hsz het (by rw [hs.2 σ0.nx (.inr (by simp [keys]))]; exact h1) ho (Nat.le_of_ble_eq_true hsm) (by rw [parts_ev h3]; exact hfl) (ds := rep m (cells e (dflt e))) (by rw [toCs_congr hfz (fun a ha => ha)]; exact hcs) hch (by rw [okDs_congr hfz]; exact hok) hnd
       · exact hv.elim
     obtain ⟨hch, hv⟩ := hv
     obtain ⟨h1, h2⟩ := fresh_ok hv
     refine ⟨_, _, _, h2, fun σ hs => ?_⟩
     have h3 := hs.1
     rw [ho] at h3
     simp only [Op.operands] at h3
     have hfz : ∀ id ∈ idsL l, get σ.hp id = get σ0.hp id := fun id hid => hs.2 id (.inl hid)
     have := val_lit hT hd (σ := σ) (und_sl (hT t i hi) hk) (hT et ie hie) hsz het (by rw [hs.2 σ0.nx (.inr (by simp [keys]))]; exact h1) ho (Nat.le_of_ble_eq_true hsm) (by rw [parts_ev h3]; exact hfl) (ds := rep m (cells e (dflt e))) (by rw [toCs_congr hfz (fun a ha => ha)]; exact hcs) hch
     rwa [frz_congr hfz] at this
   · exact hv.elim
 · exact hv.elim
theorem snd_store {t : Nat} {i : TI} (hi : get T t = some i) {p v : Operand} (ho : o.op = .store t p v) (hv : storeA (get σ0.hp) (ev σ0 p) (ev σ0 v) i.sz fun dh rd => K .un dh rd) : ∃ r dh rd, K r dh rd ∧ Snd P n o σ0 r dh rd := by
 unfold storeA at hv
 split at hv
 · rename_i l hl
   split at hv
   · rename_i hn
     split at hv
     · rename_i id o1 hp
       split at hv
       · rename_i cs hb
         split at hv
         · rename_i hle
           refine ⟨_, _, _, hv, fun σ hs => ?_⟩
           have h3 := hs.1
           rw [ho] at h3
           simp only [Op.operands, List.mem_cons, List.not_mem_nil, or_false, forall_eq_or_imp, forall_eq] at h3
           exact val_store_box hT hd hi ho (by rw [h3.1]; exact hp) (by rw [hs.2 _ (.inr (by simp [keys]))]; exact hb) (by rw [h3.2]; exact hl) (Nat.eq_of_beq_eq_true hn) (Nat.le_of_ble_eq_true hle)
         · exact hv.elim
       · exact hv.elim
     · rename_i sz id j o1 hp
       split at hv
       · rename_i e xs hb
         split at hv
         · rename_i hsz hle hno
           split at hv
           · rename_i cs hcs
             obtain ⟨hj, hy, hv⟩ := hv
             refine ⟨_, _, _, hv, fun σ hs => ?_⟩
             have h3 := hs.1
             rw [ho] at h3
             simp only [Op.operands, List.mem_cons, List.not_mem_nil, or_false, forall_eq_or_imp, forall_eq] at h3
             have hfz : ∀ id ∈ idsL l, get σ.hp id = get σ0.hp id := fun id hid => hs.2 id (.inl hid)
             have hsz' := Nat.eq_of_beq_eq_true hsz
             subst hsz'
             have := val_store_re hT hd (σ := σ) hi ho (by rw [h3.1]; exact hp) (by rw [hs.2 _ (.inr (by simp [keys]))]; exact hb) (by rw [h3.2]; exact hl) (Nat.eq_of_beq_eq_true hn) (Nat.le_of_ble_eq_true hle) (by rw [frz_congr hfz]; simpa using hno) (by rw [toCs_congr hfz (fun a ha => ha)]; exact hcs) hj hy
             rwa [frz_congr hfz] at this
           · exact hv.elim
         · exact hv.elim
       · rename_i e xs hb
         split at hv
         · rename_i hsz hle hok hnd
           split at hv
           · rename_i cs hcs
             obtain ⟨hj, hy, hv⟩ := hv
             refine ⟨_, _, _, hv, fun σ hs => ?_⟩
             have h3 := hs.1
             rw [ho] at h3
             simp only [Op.operands, List.mem_cons, List.not_mem_nil, or_false, forall_eq_or_imp, forall_eq] at h3
             have hfz : ∀ id ∈ idsL l, get σ.hp id = get σ0.hp id := fun id hid => hs.2 id (.inl hid)
             have hsz' := Nat.eq_of_beq_eq_true hsz
             subst hsz'
             exact val_store_dp hT hd (σ := σ) hi ho (by rw [h3.1]; exact hp) (by rw [hs.2 _ (.inr (by simp [keys]))]; exact hb) (by rw [h3.2]; exact hl) (Nat.eq_of_beq_eq_true hn) (Nat.le_of_ble_eq_true hle) (by rw [okDs_congr hfz]; exact hok) hnd (by rw [toCs_congr hfz (fun a ha => ha)]; exact hcs) hj hy
           · exact hv.elim
         · exact hv.elim
       · rename_i e pre cs post hb
         split at hv
         · rename_i hsz hle
           obtain ⟨hj, hv⟩ := hv
           subst hj
           refine ⟨_, _, _, hv, fun σ hs => ?_⟩
           have h3 := hs.1
           rw [ho] at h3
           simp only [Op.operands, List.mem_cons, List.not_mem_nil, or_false, forall_eq_or_imp, forall_eq] at h3
           have hsz' := Nat.eq_of_beq_eq_true hsz
           subst hsz'
           exact val_store_fo hT hd (σ := σ) hi ho (by rw [h3.1]; exact hp) (by rw [hs.2 _ (.inr (by simp [keys]))]; exact hb) (by rw [h3.2]; exact hl) (Nat.eq_of_beq_eq_true hn) (Nat.le_of_ble_eq_true hle)
         · exact hv.elim
       · exact hv.elim
     · exact hv.elim
   · exact hv.elim
 · exact hv.elim
theorem snd_conv {s d : Nat} {is id : TI} (his : get T s = some is) (hid : get T d = some id) {x : Operand} (ho : o.op = .convert s d x) (hb : u8ok T is.k = true) (hv : convA (get σ0.hp) is.k id.k (ev σ0 x) fun r rd => K r [] rd) : ∃ r dh rd, K r dh rd ∧ Snd P n o σ0 r dh rd := by
 have hx3 : ∀ σ, Agr σ σ0 o.op [] [] → ev σ x = ev σ0 x := fun σ hs => by
  have h3 := hs.1
  rw [ho] at h3
  exact h3 x (by simp [Op.operands])
 unfold convA at hv
 split at hv
 · rename_i k hk
   split at hv
   · rename_i k' m hx
     refine ⟨_, _, _, hv, fun σ hs => val_conv_int hT hd his hid ho hk (k' := k') (by rw [hx3 σ ⟨hs.1, by simp [keys]⟩]; exact hx)⟩
   · exact hv.elim
 · rename_i hk
   split at hv
   · rename_i k' m hx
     refine ⟨_, _, _, hv, fun σ hs => val_conv_rune hT hd his hid ho hk (k' := k') (by rw [hx3 σ ⟨hs.1, by simp [keys]⟩]; exact hx)⟩
   · split at hv
     · rename_i et hks
       split at hv
       · rename_i xs hr
         obtain ⟨ie, hie, hu8⟩ : ∃ ie, get T et = some ie ∧ ie.k = .int .u8 := by
          rw [hks] at hb
          simp only [u8ok] at hb
          split at hb
          · rename_i ie h1
            refine ⟨ie, h1, ?_⟩
            split at hb
            · assumption
            · cases hb
          · cases hb
         refine ⟨_, _, _, hv, fun σ hs => ?_⟩
         have hx4 := hx3 σ ⟨hs.1, by simp [keys]⟩
         exact val_conv_bytes hT hd his hid ho hk hks hie hu8 (h := get σ0.hp) (by rw [hx4]; exact fun id hid => hs.2 id (.inl hid)) (by rw [hx4]; exact hr)
       · exact hv.elim
     · exact hv.elim
 · exact hv.elim
theorem snd_convB {s d : Nat} {is id : TI} (his : get T s = some is) (hid : get T d = some id) {x : Operand} (ho : o.op = .convert s d x) {other : Prop} (hoth : other → ∃ r dh rd, K r dh rd ∧ Snd P n o σ0 r dh rd) (hv : convB T (get σ0.hp) σ0.nx is.k id.k (ev σ0 x) K other) : ∃ r dh rd, K r dh rd ∧ Snd P n o σ0 r dh rd := by
 unfold convB at hv
 split at hv
 · rename_i et hk
   split at hv
   · rename_i bs hks hx hu het
     obtain ⟨hb, hv⟩ := hv
     obtain ⟨h1, h2⟩ := fresh_ok hv
     refine ⟨_, _, _, h2, fun σ hs => ?_⟩
     have h3 := hs.1
     rw [ho] at h3
     exact val_conv_sb hT hd his hid ho hks hk hu (by rw [h3 x (by simp [Op.operands])]; exact hx) hb (by rw [hs.2 σ0.nx (.inr (by simp [keys]))]; exact h1)
   · exact hv.elim
 · exact hoth hv
omit hT in
theorem snd_makeFunc {f : Nat} {first caps : Array Operand} (hf : first.toList = []) (ho : o.op = .makeFunc (.func f) first caps) (hv : K (.fn f (caps.toList.map (ev σ0))) [] []) : ∃ r dh rd, K r dh rd ∧ Snd P n o σ0 r dh rd := by
 refine ⟨_, _, _, hv, fun σ hs => ?_⟩
 have h3 := hs.1
 rw [ho] at h3
 have : caps.toList.map (ev σ0) = caps.toList.map (ev σ) := List.map_congr_left fun x hx => (h3 x (by simp [Op.operands]; exact .inr (by simpa using hx))).symm
 rw [this]
 exact val_makeFunc hd hf ho
theorem snd_make {t et : Nat} {i ie : TI} {e : Ty} (hi : get T t = some i) (hk : i.k = .sl e et) (hie : get T et = some ie) (hsz : ie.sz = szE e) (hby : ie.by_ = byE e) (het : et = etOf e) {x y : Operand} (ho : o.op = .makeSlice t x y) {cs : List C} (hz : toCs (fun _ => none) (cells e (dflt e)) ie.z = some cs) (hcs : cs = cells e (dflt e)) (hv : makeA (get σ0.hp) e (ev σ0 x) (ev σ0 y) σ0.nx fun r dh => K r dh []) : ∃ r dh rd, K r dh rd ∧ Snd P n o σ0 r dh rd := by
 unfold makeA at hv
 split at hv
 · rename_i m m' hx hy
   obtain ⟨rfl, ⟨h0, h1⟩, hv⟩ := hv
   obtain ⟨h2, hv⟩ := fresh_ok hv
   obtain ⟨ob, hob, hv⟩ : ∃ ob, (ob = .row e (List.replicate m.toNat (dflt e)) ∨ ob = .dp e (List.replicate m.toNat (dflt e))) ∧ K (.rw σ0.nx) [(σ0.nx, ob)] [] := by
    split at hv
    · exact ⟨_, .inl rfl, hv⟩
    · exact ⟨_, .inr rfl, hv⟩
   refine ⟨_, _, _, hv, fun σ hs => ?_⟩
   have h3 := hs.1
   rw [ho] at h3
   simp only [Op.operands, List.mem_cons, List.not_mem_nil, or_false, forall_eq_or_imp, forall_eq] at h3
   subst hcs
   exact val_make hT hd (und_sl (hT t i hi) hk) (hT et ie hie) hsz hby het (by rw [hs.2 _ (.inr (by simp [keys]))]; exact h2) ho hz (by rw [h3.1]; exact hx) (by rw [h3.2]; exact hy) h0 h1 hob
 · exact hv.elim
theorem snd_field {t f off ft : Nat} {x : Operand} {i fi : TI} {fs : List (Nat × Nat)} (hi : get T t = some i) (hk : i.k = .st fs) (hf : fs[f]? = some (off, ft)) (hfi : get T ft = some fi) (ho : o.op = .field t x f) {l : List A} (hx : ev σ0 x = .ag l) {a : A} (ha : cellsOf l off fi.sz fi.k.agg = some a) (hv : K a [] []) : ∃ r dh rd, K r dh rd ∧ Snd P n o σ0 r dh rd := by
 refine ⟨_, _, _, hv, fun σ hs => ?_⟩
 have h3 := hs.1
 rw [ho] at h3
 exact val_field hT hd hi hk hf hfi ho (by rw [h3 x (by simp [Op.operands])]; exact hx) ha
omit hT in
theorem snd_extract {x : Operand} {j : Nat} (ho : o.op = .extract x j) {l : List A} (hx : ev σ0 x = .tp l) {a : A} (ha : l[j]? = some a) (hv : K a [] []) : ∃ r dh rd, K r dh rd ∧ Snd P n o σ0 r dh rd := by
 refine ⟨_, _, _, hv, fun σ hs => ?_⟩
 have h3 := hs.1
 rw [ho] at h3
 exact val_extract hd ho (by rw [h3 x (by simp [Op.operands])]; exact hx) ha
theorem snd_slice_row {t et : Nat} {i ie : TI} {e e' : Ty} (hi : get T t = some i) (hk : i.k = .sl e' et) (hie : get T et = some ie) (hsz : ie.sz = szE e) {x : Operand} {lo hi' : Option Operand} (ho : o.op = .slice t x lo hi' none) {xs : List (El e)} (hx : isRow (get σ0.hp) (ev σ0 x) = some ⟨e, xs⟩) {l r : Int} (hl : iOf 0 (lo.map (ev σ0)) = some l) (hr : iOf xs.length (hi'.map (ev σ0)) = some r)
 (hb : 0 ≤ l ∧ l ≤ r ∧ r ≤ xs.length) (hv : K (.c (.sl e ((xs.take r.toNat).drop l.toNat))) (frz (get σ0.hp) [ev σ0 x]) (rdOf (ev σ0 x))) : ∃ r dh rd, K r dh rd ∧ Snd P n o σ0 r dh rd := by
 refine ⟨_, _, _, hv, fun σ hs => ?_⟩
 have h3 := hs.1
 rw [ho] at h3
 have hx3 : ev σ x = ev σ0 x := h3 x (by simp [Op.operands])
 have hl3 : lo.map (ev σ) = lo.map (ev σ0) := by cases lo <;> simp; exact h3 _ (by simp [Op.operands])
 have hr3 : hi'.map (ev σ) = hi'.map (ev σ0) := by cases hi' <;> simp; exact h3 _ (by simp [Op.operands])
 have hag : ∀ id ∈ rdOf (ev σ0 x), get σ.hp id = get σ0.hp id := fun id hid => hs.2 id (.inl hid)
 have h4 := val_slice_row hT hd (σ := σ) (und_sl (hT t i hi) hk) (hT et ie hie) hsz ho (xs := xs) (by rw [hx3, isRow_congr hag]; exact hx) (by rw [hl3]; exact hl) (by rw [hr3]; exact hr) hb.1 hb.2.1 hb.2.2
 rw [hx3] at h4
 rwa [frz_congr (l := [ev σ0 x]) (fun id hid => hag id (by cases hev : ev σ0 x <;> rw [hev] at hid <;> simp [idsL, rdOf] at hid ⊢; exact hid))] at h4
theorem snd_slice_str {t : Nat} {i : TI} (hi : get T t = some i) (hk : i.k = .str) {x : Operand} {lo hi' : Option Operand} (ho : o.op = .slice t x lo hi' none) {s : List UInt8} (hx : ev σ0 x = .c (.str s)) {l r : Int} (hl : iOf 0 (lo.map (ev σ0)) = some l) (hr : iOf s.length (hi'.map (ev σ0)) = some r)
 (hb : 0 ≤ l ∧ l ≤ r ∧ r ≤ s.length) {rd : List Nat} (hv : K (.c (.str ((s.take r.toNat).drop l.toNat))) [] rd) : ∃ r dh rd, K r dh rd ∧ Snd P n o σ0 r dh rd := by
 refine ⟨_, _, _, hv, fun σ hs => ?_⟩
 have h3 := hs.1
 rw [ho] at h3
 have hx3 : ev σ x = ev σ0 x := h3 x (by simp [Op.operands])
 have hl3 : lo.map (ev σ) = lo.map (ev σ0) := by cases lo <;> simp; exact h3 _ (by simp [Op.operands])
 have hr3 : hi'.map (ev σ) = hi'.map (ev σ0) := by cases hi' <;> simp; exact h3 _ (by simp [Op.operands])
 have hu : P.underlying t = some .string := by have := (hT t i hi).desc; rw [hk] at this; exact this
 exact val_slice_str hT hd hu ho (by rw [hx3]; exact hx) (by rw [hl3]; exact hl) (by rw [hr3]; exact hr) hb.1 hb.2.1 hb.2.2
theorem snd_indexAddr (hR : Real n σ0) {t et : Nat} {i ie : TI} {e' : Ty} (hi : get T t = some i) (hk : i.k = .sl e' et) (hie : get T et = some ie) {x j : Operand} (ho : o.op = .indexAddr t x j) (hv : indexA (get σ0.hp) (ev σ0 x) (ev σ0 j) ie.sz fun r => K r [] (rdOf (ev σ0 x))) : ∃ r dh rd, K r dh rd ∧ Snd P n o σ0 r dh rd := by
 have hops : ∀ σ rd dh, Agr σ σ0 o.op rd dh → ev σ x = ev σ0 x ∧ ev σ j = ev σ0 j := fun σ rd dh hs => by
  have h3 := hs.1
  rw [ho] at h3
  exact ⟨h3 x (by simp [Op.operands]), h3 j (by simp [Op.operands])⟩
 have hu := und_sl (hT t i hi) hk
 unfold indexA at hv
 split at hv
 · rename_i k m hj
   split at hv
   · rename_i e xs hx
     unfold indexE at hv
     split at hv
     · rename_i hsz
       obtain ⟨hb, hv⟩ := hv
       have hv := hv.h (real_bound hR (x := x) (by rw [hx]; rfl))
       refine ⟨_, _, _, hv, fun σ hs => ?_⟩
       obtain ⟨h1, h2⟩ := hops σ _ _ hs
       exact val_indexE hd hu (hT et ie hie) ho (Nat.eq_of_beq_eq_true hsz) (h2.trans hj) hb.1 hb.2 (fun hs' => c_rep hs' (h1.trans hx))
     · exact hv.elim
   · rename_i id hx
     split at hv
     · rename_i e xs hg
       split at hv
       · rename_i hsz
         obtain ⟨hb, hv⟩ := hv
         have hv := hv.h (real_bound hR (x := x) (by rw [hx]; simp [isRow, hg]))
         refine ⟨_, _, _, hv, fun σ hs => ?_⟩
         obtain ⟨h1, h2⟩ := hops σ _ _ hs
         exact val_indexR hd hu (hT et ie hie) ho (Nat.eq_of_beq_eq_true hsz) (h2.trans hj) hb.1 hb.2 (h1.trans hx) (.inl (by rw [hs.2 id (.inl (by simp [hx, rdOf]))]; exact hg))
       · exact hv.elim
     · rename_i e xs hg
       split at hv
       · rename_i hsz
         obtain ⟨hb, hv⟩ := hv
         have hv := hv.h (real_boundD hR (x := x) (by rw [hx]; simp [isRowD, hg]))
         refine ⟨_, _, _, hv, fun σ hs => ?_⟩
         obtain ⟨h1, h2⟩ := hops σ _ _ hs
         exact val_indexR hd hu (hT et ie hie) ho (Nat.eq_of_beq_eq_true hsz) (h2.trans hj) hb.1 hb.2 (h1.trans hx) (.inr (by rw [hs.2 id (.inl (by simp [hx, rdOf]))]; exact hg))
       · exact hv.elim
     · rename_i e pre cs post hg
       split at hv
       · rename_i hsz
         obtain ⟨hb, hv⟩ := hv
         refine ⟨_, _, _, hv, fun σ hs => ?_⟩
         obtain ⟨h1, h2⟩ := hops σ _ _ hs
         exact val_indexF hd hu (hT et ie hie) ho (Nat.eq_of_beq_eq_true hsz) (h2.trans hj) hb (h1.trans hx) (by rw [hs.2 id (.inl (by simp [hx, rdOf]))]; exact hg)
       · exact hv.elim
     · rename_i e xs hg
       unfold indexE at hv
       split at hv
       · rename_i hsz
         obtain ⟨hb, hv⟩ := hv
         have hv := hv.h (real_bound hR (x := x) (by rw [hx]; simp [isRow, hg]))
         refine ⟨_, _, _, hv, fun σ hs => ?_⟩
         obtain ⟨h1, h2⟩ := hops σ _ _ hs
         exact val_indexE hd hu (hT et ie hie) ho (Nat.eq_of_beq_eq_true hsz) (h2.trans hj) hb.1 hb.2 (fun hs' => frz_rep hs' (h1.trans hx) (by rw [hs.2 id (.inl (by simp [hx, rdOf]))]; exact hg))
       · exact hv.elim
     · exact hv.elim
   · exact hv.elim
 · exact hv.elim
theorem snd_len (hR : Real n σ0) {t et : Nat} {x : Operand} {c : Call} {i : TI} {e' : Ty} (hi : get T t = some i) (hk : i.k = .sl e' et) (hc : c.callee = .builtin .len) (hca : c.args.toList = [x]) (hct : c.argTypes.toList = [t]) (ho : o.op = .call c) (hv : lenA (get σ0.hp) (ev σ0 x) fun r => K r [] (rdOf (ev σ0 x))) : ∃ r dh rd, K r dh rd ∧ Snd P n o σ0 r dh rd := by
 have hops : ∀ σ rd dh, Agr σ σ0 o.op rd dh → ev σ x = ev σ0 x := fun σ rd dh hs => by
  have h3 := hs.1
  rw [ho] at h3
  refine h3 x ?_
  simp [Op.operands, Call.operands, hc]
  rw [← Array.mem_toList_iff, hca]; simp
 have hu := und_sl (hT t i hi) hk
 unfold lenA at hv
 split at hv
 · rename_i hx
   refine ⟨_, _, _, hv, fun σ hs => val_len_nl hd hc hca hct hu ho ((hops σ _ _ hs).trans hx)⟩
 · split at hv
   · rename_i e xs hr
     have hv := hv.h (real_boundD hR hr)
     refine ⟨_, _, _, hv, fun σ hs => ?_⟩
     have h1 := hops σ _ _ hs
     exact val_len_row hd hc hca hct hu ho (h := get σ0.hp) (by rw [h1]; exact fun id hid => hs.2 id (.inl hid)) (by rw [h1]; exact hr)
   · split at hv
     · rename_i i z b off m hw
       refine ⟨_, _, _, hv, fun σ hs => ?_⟩
       have h1 := hops σ _ _ hs
       obtain ⟨hxi, hgi⟩ := isVw_some hw
       refine val_pure hd fun hs' => ?_
       obtain ⟨g, p, N, C, h3, _⟩ := vw_rep hs' (i := i) (by rw [hs.2 i (.inl (by simp [hxi, rdOf]))]; exact hgi)
       exact ⟨⟨_, run_len (n := n) hc hca hct hu ho ((rw_rep hs' (h1.trans hxi)).trans h3), .c (.int _ _)⟩, by simp [A.all]⟩
     · exact hv.elim
theorem snd_len_str (hR : Real n σ0) {t : Nat} {x : Operand} {c : Call} {i : TI} (hi : get T t = some i) (hk : i.k = .str) (hc : c.callee = .builtin .len) (hca : c.args.toList = [x]) (hct : c.argTypes.toList = [t]) (ho : o.op = .call c) {s : List UInt8} (hx : ev σ0 x = .c (.str s)) (hv : lenS (.c (.str s)) fun r => K r [] []) : ∃ r dh rd, K r dh rd ∧ Snd P n o σ0 r dh rd := by
 have hu : P.underlying t = some .string := by have := (hT t i hi).desc; rw [hk] at this; exact this
 simp only [lenS] at hv
 have hv := hv.h (real_str hR hx)
 refine ⟨_, _, _, hv, fun σ hs => ?_⟩
 have h3 := hs.1
 rw [ho] at h3
 exact val_len_str hd hc hca hct hu ho ((h3 x (by
  simp [Op.operands, Call.operands, hc]
  rw [← Array.mem_toList_iff, hca]; simp)).trans hx)
end
end Go.Proofs.YthbpdhppelaihaaGreat