/- The types' table, and what one operation of the machine does, each in the frame and the world that it finds. Conditions: none. -/
import Derived.Test.YthbpdhppelaihaaGreatF2
import Derived.WalkKit
set_option linter.unusedVariables false
set_option linter.unusedSimpArgs false
namespace Go.Proofs.YthbpdhppelaihaaGreat
open Go.RowKit
inductive TK where
 | int (k : IntKind)
 | bool
 | str
 | ptr
 | fn
 | sl (e : Ty) (et : Nat)
 | st (fs : List (Nat × Nat))
structure TI where
 k : TK
 sz : Nat
 by_ : Nat
 z : List A
def TK.desc (P : Program) (t : Nat) : TK → Prop
 | .int k => P.underlying t = some (.int k)
 | .bool => P.underlying t = some .bool
 | .str => P.underlying t = some .string
 | .ptr => ∃ e, P.underlying t = some (.pointer e)
 | .fn => ∃ p r v, P.underlying t = some (.func p r v)
 | .sl _ et => P.underlying t = some (.slice et)
 | .st fs => ∃ fields : Array Field, P.underlying t = some (.struct fields) ∧ fields.toList.map (fun f => (f.offset, f.type)) = fs
def TK.agg : TK → Bool
 | .st _ => true
 | _ => false
inductive ZOk : List Value → List A → Prop
 | nil : ZOk [] []
 | int (k : IntKind) (n : Int) {us : List Value} {l : List A} (t : ZOk us l) : ZOk (.int k n :: us) (.c (.int k n) :: l)
 | bool (b : Bool) {us : List Value} {l : List A} (t : ZOk us l) : ZOk (.bool b :: us) (.kb b :: l)
 | str {us : List Value} {l : List A} (t : ZOk us l) : ZOk (.string ⟨#[]⟩ :: us) (.c (.str []) :: l)
 | nl {us : List Value} {l : List A} (t : ZOk us l) : ZOk (.slice none 0 0 :: us) (.nl :: l)
 | oth (v : Value) (h : v.oneCell' = true) {us : List Value} {l : List A} (t : ZOk us l) : ZOk (v :: us) (.un :: l)
structure TOk (P : Program) (t : Nat) (i : TI) : Prop where
 desc : i.k.desc P t
 inf : ∃ y z, P.info? t = some y ∧ y.size = i.sz ∧ y.bytes = i.by_ ∧ y.zero = some z ∧ ZOk z.cells.toList i.z ∧ z.cells.size = i.sz
variable {P : Program} {F : Nat → Prop} {V : Nat → Value} {w : World}
theorem ZOk.reps : ∀ {us : List Value} {l : List A}, ZOk us l → RepAs F V w us l
 | _, _, .nil => .nil
 | _, _, .int k n t => .cons (.c (.int k n)) t.reps
 | _, _, .bool b t => .cons (.kb b) t.reps
 | _, _, .str t => .cons (.c (.str _ (by decide))) t.reps
 | _, _, .nl t => .cons .nl t.reps
 | _, _, .oth v _ t => .cons (.un v) t.reps
theorem ZOk.one : ∀ {us : List Value} {l : List A}, ZOk us l → ∀ u ∈ us, u.oneCell' = true
 | _, _, .nil, u, h => by simp at h
 | _, _, .int k n t, u, h => by rcases List.mem_cons.1 h with rfl | h; · rfl
                                · exact t.one u h
 | _, _, .bool b t, u, h => by rcases List.mem_cons.1 h with rfl | h; · rfl
                               · exact t.one u h
 | _, _, .str t, u, h => by rcases List.mem_cons.1 h with rfl | h; · rfl
                            · exact t.one u h
 | _, _, .nl t, u, h => by rcases List.mem_cons.1 h with rfl | h; · rfl
                           · exact t.one u h
 | _, _, .oth v hv t, u, h => by rcases List.mem_cons.1 h with rfl | h; · exact hv
                                 · exact t.one u h
theorem agg_of (P : Program) {t : Nat} {k : TK} (h : k.desc P t) (w : World) : (isAgg t).run P w = .ok k.agg w := by
 cases k <;> simp only [TK.desc] at h
 case ptr => obtain ⟨e, h⟩ := h; simp [isAgg, run_underlying h, TK.agg]
 case fn => obtain ⟨p, r, v, h⟩ := h; simp [isAgg, run_underlying h, TK.agg]
 case st fs => obtain ⟨f, h, _⟩ := h; simp [isAgg, run_underlying h, TK.agg]
 all_goals simp [isAgg, run_underlying h, TK.agg]
theorem size_of {t : Nat} {i : TI} (h : TOk P t i) (w : World) : (sizeOf t).run P w = .ok i.sz w := by
 obtain ⟨y, z, hi, hs, _⟩ := h.inf
 simp [sizeOf, typeInfo, hi, hs]
theorem zero_of {t : Nat} {i : TI} (h : TOk P t i) (w : World) : ∃ z, (zeroValue t).run P w = .ok z w ∧ ZOk z.cells.toList i.z ∧ z.cells.size = i.sz := by
 obtain ⟨y, z, hi, hs, _, hz, h1, h2⟩ := h.inf
 exact ⟨z, by simp [zeroValue, typeInfo, hi, hz], h1, h2⟩
theorem run_load1 {t : Nat} {i : TI} (h : TOk P t i) (hk : i.k.agg = false) {a : Addr} {v : Value} (hc : w.cell? a = some v) : (Instr.loadAt t (.pointer (some a))).run P w = .ok v w := by
 simp [Instr.loadAt, Instr.sureAddr, loadVar, agg_of P h.desc w, hk, hc]
theorem run_loadn {t : Nat} {i : TI} (h : TOk P t i) (hk : i.k.agg = true) {a : Addr} {us : List Value} (hl : us.length = i.sz) (hc : CellsAt w a us) : (Instr.loadAt t (.pointer (some a))).run P w = .ok (.agg us.toArray) w := by
 have h1 := run_loadCells_list (P := P) (w := w) a us hc
 rw [hl] at h1
 simp [Instr.loadAt, Instr.sureAddr, loadVar, agg_of P h.desc w, hk, size_of h, h1]
theorem run_fieldAt_ {t f o ft : Nat} {fs : List (Nat × Nat)} {i fi : TI} (h : TOk P t i) (hk : i.k = .st fs) (hf : fs[f]? = some (o, ft)) (hfi : TOk P ft fi) (hz : fi.sz ≠ 0) (a : Addr) :
 (Instr.fieldAt t (.pointer (some a)) f).run P w = .ok (.pointer (some (a.add o))) w := by
 have hd := h.desc
 rw [hk] at hd
 obtain ⟨fields, hu, hm⟩ := hd
 rw [← hm] at hf
 rw [List.getElem?_map, Array.getElem?_toList] at hf
 cases hfe : fields[f]? with
 | none => rw [hfe] at hf; simp at hf
 | some fe =>
   rw [hfe] at hf
   simp at hf
   obtain ⟨rfl, rfl⟩ := hf
   simp [Instr.fieldAt, run_underlying hu, hfe, Instr.sureAddr, fieldPlace, size_of hfi, hz]
theorem run_part {ft : Nat} {fi : TI} (hfi : TOk P ft fi) {us : List Value} {o : Nat} (ho : o + fi.sz ≤ us.length) (h1 : fi.k.agg = false → ∃ u, us[o]? = some u) :
 (part ft us.toArray o).run P w = .ok (if fi.k.agg then .agg ((us.drop o).take fi.sz).toArray else (us[o]?).getD undef) w := by
 cases hk : fi.k.agg
 · obtain ⟨u, hu⟩ := h1 hk
   simp [part, agg_of P hfi.desc w, hk, hu]
 · simp [part, agg_of P hfi.desc w, hk, size_of hfi]
/-! Stores -/
def spl {α : Type} : List α → Nat → List α → List α
 | [], _, _ => []
 | c :: cs, 0, [] => c :: cs
 | _ :: cs, 0, x :: l => x :: spl cs 0 l
 | c :: cs, o + 1, l => c :: spl cs o l
theorem spl_nil {α : Type} : ∀ (cs : List α) (o : Nat), spl cs o [] = cs
 | [], _ => rfl
 | _ :: _, 0 => rfl
 | c :: cs, o + 1 => by simp only [spl]; rw [spl_nil cs o]
theorem spl_cons {α : Type} : ∀ (cs : List α) (o : Nat) (x : α) (l : List α), spl cs o (x :: l) = spl (cs.set o x) (o + 1) l
 | [], _, _, _ => rfl
 | _ :: _, 0, _, _ => by simp only [List.set_cons_zero, spl]
 | c :: cs, o + 1, x, l => by simp only [List.set_cons_succ, spl]; rw [spl_cons cs o x l]
theorem spl_length {α : Type} : ∀ (l : List α) (cs : List α) (o : Nat), (spl cs o l).length = cs.length
 | [], _, _ => by rw [spl_nil]
 | x :: l, cs, o => by rw [spl_cons, spl_length l]; simp
theorem RepAs.set {us : List Value} {l : List A} {u : Value} {x : A} (h : RepAs F V w us l) (hx : RepA F V w u x) : ∀ o, RepAs F V w (us.set o u) (l.set o x) := by
 intro o
 induction l generalizing us o with
 | nil => cases h; exact .nil
 | cons a l ih =>
   cases h with
   | cons h t => cases o with
     | zero => exact .cons hx t
     | succ o => exact .cons h (ih t o)
theorem RepAs.spl : ∀ {l' : List A} {us' : List Value} {us : List Value} {l : List A}, RepAs F V w us l → RepAs F V w us' l' → ∀ o, RepAs F V w (spl us o us') (spl l o l')
 | [], _, _, _, h, h', o => by cases h'; rw [spl_nil, spl_nil]; exact h
 | x :: l', _, _, _, h, h', o => by
   cases h' with
   | cons hx t => rw [spl_cons, spl_cons]; exact RepAs.spl (h.set hx o) t (o + 1)
theorem RepL.set {us : List Value} {l : List C} {u : Value} {x : C} (h : RepL F w us l) (hx : RepC F w u x) : ∀ o, RepL F w (us.set o u) (l.set o x) := by
 intro o
 induction l generalizing us o with
 | nil => cases h; exact .nil
 | cons a l ih =>
   cases h with
   | cons h t => cases o with
     | zero => exact .cons hx t
     | succ o => exact .cons h (ih t o)
theorem RepL.spl : ∀ {l' : List C} {us' : List Value} {us : List Value} {l : List C}, RepL F w us l → RepL F w us' l' → ∀ o, RepL F w (spl us o us') (spl l o l')
 | [], _, _, _, h, h', o => by cases h'; rw [spl_nil, spl_nil]; exact h
 | x :: l', _, _, _, h, h', o => by
   cases h' with
   | cons hx t => rw [spl_cons, spl_cons]; exact RepL.spl (h.set hx o) t (o + 1)
theorem one_set {us : List Value} {u : Value} (h : ∀ x ∈ us, x.oneCell' = true) (hu : u.oneCell' = true) (o : Nat) : ∀ x ∈ us.set o u, x.oneCell' = true := by
 intro x hx
 rcases List.mem_or_eq_of_mem_set hx with h1 | rfl
 · exact h x h1
 · exact hu
theorem one_spl : ∀ {us' us : List Value}, (∀ x ∈ us, x.oneCell' = true) → (∀ x ∈ us', x.oneCell' = true) → ∀ o, ∀ x ∈ spl us o us', x.oneCell' = true
 | [], _, h, _, o => by rw [spl_nil]; exact h
 | u :: us', us, h, h', o => by rw [spl_cons]; exact one_spl (us' := us') (one_set h (h' u (by simp)) o) (fun x hx => h' x (by simp [hx])) (o + 1)
theorem add_at' (g o j : Nat) : (⟨g, o, none⟩ : Addr).add j = ⟨g, o + j, none⟩ := by unfold Addr.add; split <;> simp_all
theorem run_storeCells_ (g : Nat) (t : TypeId) : ∀ (vs : List Value) (i o : Nat) (w : World) (cur : List Value), w.heap[g]? = some (.cells cur.toArray t (0, 0)) → (∀ v ∈ vs, v.oneCell' = true) → o + i + vs.length ≤ cur.length →
 ∃ w', (storeCells ⟨g, o, none⟩ vs i).run P w = .ok () w' ∧ w'.heap[g]? = some (.cells (spl cur (o + i) vs).toArray t (0, 0)) ∧ (∀ k, k ≠ g → w'.heap[k]? = w.heap[k]?) ∧ w'.heap.size = w.heap.size ∧ w'.os = w.os ∧ w'.tape = w.tape ∧ w'.output = w.output
 | [], i, o, w, cur, hg, _, _ => ⟨w, by simp [storeCells], by simpa [spl_nil] using hg, fun _ _ => rfl, rfl, rfl, rfl, rfl⟩
 | v :: vs, i, o, w, cur, hg, h1, hl => by
   have hl' : o + i < cur.length := by simp at hl; omega
   have hc : w.cell? ⟨g, o + i, none⟩ = some (cur[o + i]'hl') := by simp [World.cell?, hg, hl']
   have hf : w.frozen? ⟨g, o + i, none⟩ = false := by simp [World.frozen?, hg]
   have hg' : (w.setCell ⟨g, o + i, none⟩ v).heap[g]? = some (.cells (cur.set (o + i) v).toArray t (0, 0)) := by
    simp [World.setCell, Array.getElem?_modify, hg]
   obtain ⟨w', hr, h2, h3, h4, h5, h6, h7⟩ := run_storeCells_ g t vs (i + 1) o (w.setCell ⟨g, o + i, none⟩ v) (cur.set (o + i) v) hg' (fun x hx => h1 x (by simp [hx])) (by simp at hl ⊢; omega)
   refine ⟨w', ?_, by rw [h2, spl_cons, Nat.add_assoc], fun k hk => ?_, by rw [h4]; simp [World.setCell], by rw [h5]; rfl, by rw [h6]; rfl, by rw [h7]; rfl⟩
   · simp only [storeCells, add_at']
     have hs := run_store P w ⟨g, o + i, none⟩ v .plain (h1 v (by simp))
     simp only [hc, hf] at hs
     simp [hs, hr]
   · rw [h3 k hk]
     exact Below.heap_setCell _ _ _ _ (by simpa using hk)
theorem run_storeAt_ {t : Nat} {i : TI} (h : TOk P t i) {v : Value} (hs : v.cells.size = i.sz) (g o : Nat) (bt : TypeId) (cur : List Value) (hg : w.heap[g]? = some (.cells cur.toArray bt (0, 0))) (h1 : ∀ u ∈ v.cells.toList, u.oneCell' = true) (hl : o + i.sz ≤ cur.length) :
 ∃ w', (Instr.storeAt t (.pointer (some ⟨g, o, none⟩)) v).run P w = .ok () w' ∧ w'.heap[g]? = some (.cells (spl cur o v.cells.toList).toArray bt (0, 0)) ∧ (∀ k, k ≠ g → w'.heap[k]? = w.heap[k]?) ∧ w'.heap.size = w.heap.size ∧ w'.os = w.os ∧ w'.tape = w.tape ∧ w'.output = w.output := by
 obtain ⟨w', hr, h2⟩ := run_storeCells_ (P := P) g bt v.cells.toList 0 o w cur hg h1 (by simpa [hs] using hl)
 refine ⟨w', ?_, by simpa using h2⟩
 simp [Instr.storeAt, Instr.sureAddr, storeVar, size_of h, hs, hr]
/-! Literals -/
def cellsA : A → Option (List A)
 | .ag l => some l
 | .un => none
 | .tp _ => none
 | a => some [a]
theorem cellsA_rep {v : Value} {a : A} {l : List A} (h : RepA F V w v a) (hl : cellsA a = some l) (hV : ∀ id, a = .rw id → (V id).oneCell' = true) : RepAs F V w v.cells.toList l ∧ ∀ u ∈ v.cells.toList, u.oneCell' = true := by
 have key : ∀ (a : A), cellsA a = some [a] → RepA F V w v a → v.oneCell' = true → RepAs F V w v.cells.toList [a] ∧ ∀ u ∈ v.cells.toList, u.oneCell' = true := by
  intro a _ ha h1
  have hc : v.cells = #[v] := by cases v <;> first | rfl | simp [Value.oneCell'] at h1
  rw [hc]
  exact ⟨.cons ha .nil, by simpa using h1⟩
 cases a with
 | ag l' => cases h with | ag h h1 => simp [cellsA] at hl; subst hl; exact ⟨by simpa [Value.cells] using h, by simpa [Value.cells] using h1⟩
 | un => simp [cellsA] at hl
 | tp _ => simp [cellsA] at hl
 | rw id => simp [cellsA] at hl; subst hl; cases h; exact key (.rw id) rfl (.rw id) (hV id rfl)
 | c c => simp [cellsA] at hl; subst hl; exact key _ rfl h (by cases h with | c h => exact h.one)
 | nl => simp [cellsA] at hl; subst hl; exact key _ rfl h (by cases h; rfl)
 | kb b => simp [cellsA] at hl; subst hl; exact key _ rfl h (by cases h; rfl)
 | pt i o => simp [cellsA] at hl; subst hl; exact key _ rfl h (by cases h; rfl)
 | el e y o => simp [cellsA] at hl; subst hl; exact key _ rfl h (by cases h; rfl)
 | re e i j o => simp [cellsA] at hl; subst hl; exact key _ rfl h (by cases h; rfl)
 | fn f l => simp [cellsA] at hl; subst hl; exact key _ rfl h (by cases h; rfl)
def fillA (place : Nat → Option (Nat × Nat)) : List A → List (Nat × A) → Option (List A)
 | z, [] => some z
 | z, (i, a) :: r => match place i, cellsA a with
   | some (off, size), some l => match Nat.beq l.length size, Nat.ble (off + size) z.length with
     | true, true => fillA place (spl z off l) r
     | _, _ => none
   | _, _ => none
theorem fold_spl : ∀ (vs : List Value) (cs : Array Value) (off k : Nat), (vs.zipIdx k).foldl (fun cs (x : Value × Nat) => cs.setIfInBounds (off + x.2) x.1) cs = (spl cs.toList (off + k) vs).toArray
 | [], cs, off, k => by simp [spl_nil]
 | v :: vs, cs, off, k => by
   simp only [List.zipIdx_cons, List.foldl_cons]
   rw [fold_spl vs _ off (k + 1)]
   simp [spl_cons, Nat.add_assoc]
theorem fillA_ok (place : Nat → Option (Nat × Nat)) : ∀ (parts : List (Nat × A)) (ps : List (Nat × Value)) (z : List A) (zc : Array Value) (r : List A), fillA place z parts = some r → RepAs F V w zc.toList z → (∀ u ∈ zc.toList, u.oneCell' = true) → ps.map (·.1) = parts.map (·.1) → (∀ (j i : Nat) (v : Value) (a : A), ps[j]? = some (i, v) → parts[j]? = some (i, a) → RepA F V w v a) →
 (∀ id, (V id).oneCell' = true) → ∃ cs, Instr.fill place zc ps = some cs ∧ RepAs F V w cs.toList r ∧ (∀ u ∈ cs.toList, u.oneCell' = true) ∧ cs.size = zc.size
 | [], ps, z, zc, r, h, hz, h1, hp, _, _ => by
   have : ps = [] := by simpa using hp
   subst this
   simp [fillA] at h
   subst h
   exact ⟨zc, rfl, hz, h1, rfl⟩
 | (i, a) :: parts, [], z, zc, r, h, hz, h1, hp, _, _ => by simp at hp
 | (i, a) :: parts, (i', v) :: ps, z, zc, r, h, hz, h1, hp, hr, hV => by
   simp at hp
   obtain ⟨rfl, hp⟩ := hp
   have hva := hr 0 _ v a rfl rfl
   simp only [fillA] at h
   cases hpl : place i' with
   | none => simp [hpl] at h
   | some os =>
     obtain ⟨off, size⟩ := os
     cases hca : cellsA a with
     | none => simp [hpl, hca] at h
     | some l =>
       simp only [hpl, hca] at h
       cases hb1 : Nat.beq l.length size with
       | false => simp [hb1] at h
       | true =>
         cases hb2 : Nat.ble (off + size) z.length with
         | false => simp [hb1, hb2] at h
         | true =>
           simp only [hb1, hb2] at h
           obtain ⟨hrep, hone⟩ := cellsA_rep hva hca (fun id _ => hV id)
           have hlen : ∀ {us : List Value} {l : List A}, RepAs F V w us l → us.length = l.length := by
            intro us l
            induction l generalizing us with
            | nil => intro h; cases h; rfl
            | cons a l ih => intro h; cases h with | cons _ t => simp [ih t]
           have e1 : v.cells.size = size := by rw [← Array.length_toList, hlen hrep]; exact Nat.eq_of_beq_eq_true hb1
           have e2 : off + size ≤ zc.size := by rw [← Array.length_toList, hlen hz]; exact Nat.le_of_ble_eq_true hb2
           have hfold := fold_spl v.cells.toList zc off 0
           obtain ⟨cs, hf, h2, h3, h4⟩ := fillA_ok place parts ps (spl z off l) (spl zc.toList off v.cells.toList).toArray r h (by simpa using hz.spl hrep off) (by simpa using one_spl h1 hone off) hp (fun j i v a h1 h2 => hr (j + 1) i v a (by simpa using h1) (by simpa using h2)) hV
           refine ⟨cs, ?_, h2, h3, by rw [h4]; simp [spl_length]⟩
           simp only [Instr.fill, hpl]
           rw [if_neg (by simp [e1]; omega)]
           have : v.cells.zipIdx.foldl (fun cs (x : Value × Nat) => cs.setIfInBounds (off + x.2) x.1) zc = (spl zc.toList off v.cells.toList).toArray := by
            rw [← Array.foldl_toList, Array.toList_zipIdx]
            simpa using hfold
           rw [this]
           exact hf
end Go.Proofs.YthbpdhppelaihaaGreat