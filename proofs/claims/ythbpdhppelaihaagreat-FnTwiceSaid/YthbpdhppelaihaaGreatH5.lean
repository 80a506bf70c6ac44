/- WHAT COMES IN from outside, read as data: whatever the type, out of what the statement's form says of an argument. Conditions: none. -/
import Derived.Test.YthbpdhppelaihaaGreatHF
import Derived.ChangeArms
import Derived.DataReads
import Derived.WideShapes
set_option linter.unusedVariables false
set_option linter.unusedSimpArgs false
namespace Go.Proofs.YthbpdhppelaihaaGreat
open Go.RowKit
inductive CK where
 | int (k : IntKind)
 | bool
 | str
 | sl (e : Ty)
def ckMs : List CK := [.int .i64, .int .i64, .int .i64]
def ckTr : List CK := [.bool, .sl .pr, .sl .int, .sl .tr, .sl .ms]
def ckMc : List CK := [.bool, .sl .pr, .sl .int, .sl .tr, .sl .ms, .sl .dn]
def ckE : Ty → List CK
 | .int => [.int .i64]
 | .bool => [.bool]
 | .u8 => [.int .u8]
 | .str => [.str]
 | .pr => [.int .i64, .int .i64]
 | .ms => ckMs
 | .tr => ckTr
 | .cm => [.int .i64, .int .i64, .int .i64, .int .i64, .int .i64]
 | .dn => [.int .i64, .int .i64, .int .i64, .bool]
 | .en => [.int .i64, .int .i64, .int .i64, .int .i64, .int .i64, .int .i64]
 | .nd => [.int .i64, .int .i64, .int .i64, .int .i64, .int .i64, .sl .en, .bool, .sl .pr, .sl .int, .sl .tr, .sl .ms, .sl .dn, .int .i64, .sl .bool, .sl .int, .sl .int, .int .i64, .bool, .sl .pr, .sl .int, .sl .tr, .sl .ms, .sl .dn]
 | .rp => [.int .i64, .int .i64, .int .i64, .int .i64, .int .i64, .int .i64, .int .i64, .bool, .sl .en, .bool, .sl .pr, .sl .int, .sl .tr, .sl .ms, .sl .dn]
 | .ld => [.int .i64, .int .i64]
 | .su => [.int .i64, .int .i64]
 | .wr => [.int .i64, .str, .int .i64, .int .i64]
 | .lint => [.sl .int]
 | .lms => [.sl .ms]
 | .ltr => [.sl .tr]
mutual
inductive GoodC : CK → C → Prop
 | int (k : IntKind) (n : Int) (h : (Lit.int k n).wf = true) : GoodC (.int k) (.int k n)
 | bool (b : Bool) : GoodC .bool (.bool b)
 | str (s : List UInt8) : GoodC .str (.str s)
 | sl (e : Ty) (xs : List (El e)) (h : ∀ x ∈ xs, GoodL (ckE e) (cells e x)) : GoodC (.sl e) (.sl e xs)
inductive GoodL : List CK → List C → Prop
 | nil : GoodL [] []
 | cons {k : CK} {ks : List CK} {c : C} {cs : List C} (h : GoodC k c) (t : GoodL ks cs) : GoodL (k :: ks) (c :: cs)
end
theorem GoodL.append : ∀ {ks : List CK} {cs : List C}, GoodL ks cs → ∀ {ks' : List CK} {cs' : List C}, GoodL ks' cs' → GoodL (ks ++ ks') (cs ++ cs')
 | _, _, .nil, _, _, h => h
 | _, _, .cons h t, _, _, h' => .cons h (t.append h')
theorem GoodL.length : ∀ {ks : List CK} {cs : List C}, GoodL ks cs → cs.length = ks.length
 | _, _, .nil => rfl
 | _, _, .cons h t => by simp [t.length]
theorem GoodL.uncons {k : CK} {ks : List CK} {cs : List C} (h : GoodL (k :: ks) cs) : ∃ c cs', cs = c :: cs' ∧ GoodC k c ∧ GoodL ks cs' := by
 cases h with | cons h t => exact ⟨_, _, rfl, h, t⟩
theorem GoodL.none {cs : List C} (h : GoodL [] cs) : cs = [] := by cases h; rfl
theorem mk_cells : ∀ (e : Ty) {cs : List C}, GoodL (ckE e) cs → cells e (mkE e cs) = cs := by
 intro e cs h
 cases e <;> simp only [ckE, ckMs, ckTr, ckMc] at h
 case u8 =>
  cases h with | cons h t =>
  cases t
  cases h with | int _ n hw =>
  simp [Lit.wf, IntKind.min, IntKind.max, IntKind.signed, IntKind.bits] at hw
  show [C.int .u8 (((UInt8.ofNat n.toNat).toNat : Nat) : Int)] = [C.int .u8 n]
  congr 2
  rw [UInt8.toNat_ofNat']
  omega
 all_goals
  repeat (replace h := h.uncons; obtain ⟨c, cs', rfl, hc, h⟩ := h; cases hc)
  obtain rfl := h.none
  rfl
def ckFs (f : Nat → Option (List CK)) : List (Nat × Nat) → Nat → Option (List CK)
 | [], _ => some []
 | (o, ft) :: l, off => match Nat.beq o off, f ft with
   | true, some ks => match ckFs f l (off + ks.length) with
     | some r => some (ks ++ r)
     | none => none
   | _, _ => none
def ckT (T : List (Nat × TI)) : Nat → Nat → Option (List CK)
 | 0, _ => none
 | n + 1, t => match get T t with
   | some i => match (match i.k with
      | .int k => some [.int k]
      | .bool => some [.bool]
      | .str => some [.str]
      | .sl e _ => some [.sl e]
      | .st fs => ckFs (ckT T n) fs 0
      | _ => none : Option (List CK)) with
     | some ks => match Nat.beq ks.length i.sz with
       | true => some ks
       | false => none
     | none => none
   | none => none
def tyN : Ty → Nat
 | .int => 0 | .bool => 1 | .u8 => 2 | .str => 3 | .pr => 4 | .ms => 5 | .tr => 6 | .cm => 7 | .dn => 8 | .en => 9 | .nd => 10 | .rp => 11 | .ld => 12 | .su => 13 | .wr => 14 | .lint => 15 | .lms => 16 | .ltr => 17
theorem tyN_inj {a b : Ty} (h : Nat.beq (tyN a) (tyN b) = true) : a = b := by
 have := Nat.eq_of_beq_eq_true h
 cases a <;> cases b <;> first | rfl | (simp [tyN] at this)
def ckEq : List CK → List CK → Bool
 | [], [] => true
 | .int k :: l, .int k' :: l' => eqK k k' && ckEq l l'
 | .bool :: l, .bool :: l' => ckEq l l'
 | .str :: l, .str :: l' => ckEq l l'
 | .sl e :: l, .sl e' :: l' => Nat.beq (tyN e) (tyN e') && ckEq l l'
 | _, _ => false
theorem ckEq_eq : ∀ {l l' : List CK}, ckEq l l' = true → l = l'
 | [], [], _ => rfl
 | [], _ :: _, h => by simp [ckEq] at h
 | a :: l, [], h => by cases a <;> simp [ckEq] at h
 | a :: l, b :: l', h => by
   cases a <;> cases b <;> simp only [ckEq, Bool.and_eq_true] at h <;> try (cases h; done)
   · rw [eqK_eq h.1, ckEq_eq h.2]
   · rw [ckEq_eq h]
   · rw [ckEq_eq h]
   · rw [tyN_inj h.1, ckEq_eq h.2]
def chkS (T : List (Nat × TI)) : List (Nat × TI) → Bool
 | [] => true
 | (_, i) :: l => (match i.k with
   | .sl e et => (match ckT T 8 et, get T et with
     | some ks, some ie => ckEq ks (ckE e) && Nat.beq ie.by_ (byE e) && Nat.beq ie.sz (szE e)
     | _, _ => false)
   | _ => true) && chkS T l
theorem chkS_get {T : List (Nat × TI)} : ∀ {l : List (Nat × TI)}, chkS T l = true → ∀ {t : Nat} {i : TI}, get l t = some i → ∀ {e : Ty} {et : Nat}, i.k = .sl e et → ckT T 8 et = some (ckE e) ∧ ∃ ie, get T et = some ie ∧ ie.by_ = byE e ∧ ie.sz = szE e
 | [], _, t, i, h, _, _, _ => by simp [get] at h
 | (t', i') :: l, hc, t, i, h, e, et, hk => by
   simp only [chkS, Bool.and_eq_true] at hc
   rw [get_cons] at h
   split at h
   · cases h
     have h1 := hc.1
     rw [hk] at h1
     simp only at h1
     split at h1
     · rename_i ks ie h2 h3
       simp only [Bool.and_eq_true] at h1
       exact ⟨by rw [h2, ckEq_eq h1.1.1], ie, h3, Nat.eq_of_beq_eq_true h1.1.2, Nat.eq_of_beq_eq_true h1.2⟩
     · cases h1
   · exact chkS_get hc.2 h hk
variable {P : Program} {T : List (Nat × TI)}
theorem TOk.cellsOf {t : Nat} {i : TI} (h : TOk P t i) : P.cellsOf t = i.sz := by
 obtain ⟨y, z, hy, hs, _⟩ := h.inf
 simp [Program.cellsOf, hy, hs]
theorem TOk.bytesOf {t : Nat} {i : TI} (h : TOk P t i) : P.bytesOf t = i.by_ := by
 obtain ⟨y, z, hy, _, hb, _⟩ := h.inf
 simp [Program.bytesOf, hy, hb]
theorem ckT_len {n t : Nat} {ks : List CK} (h : ckT T n t = some ks) : ∃ i, get T t = some i ∧ ks.length = i.sz := by
 cases n with
 | zero => simp [ckT] at h
 | succ n =>
   unfold ckT at h
   split at h
   · rename_i i hi
     split at h
     · split at h
       · rename_i hb; cases h; exact ⟨i, hi, Nat.eq_of_beq_eq_true hb⟩
       · cases h
     · cases h
   · cases h
theorem fields_read {F : Nat → Prop} {w : World} {g : Nat → Option (List CK)} {cs : List Value} : ∀ (fl : List (Nat × Nat)) (off : Nat) (ks : List CK), ckFs g fl off = some ks →
 (∀ (o ft : Nat) (kf : List CK), (o, ft) ∈ fl → g ft = some kf → ∃ data, RepL F w ((cs.drop o).take kf.length) data ∧ GoodL kf data) → ∃ data, RepL F w ((cs.drop off).take ks.length) data ∧ GoodL ks data
 | [], off, ks, h, _ => by simp [ckFs] at h; subst h; exact ⟨[], by simpa using RepL.nil, .nil⟩
 | (o, ft) :: fl, off, ks, h, hf => by
   simp only [ckFs] at h
   split at h
   · rename_i kf hb hg
     have ho := Nat.eq_of_beq_eq_true hb
     subst ho
     split at h
     · rename_i r hr
       cases h
       obtain ⟨d1, h1, h2⟩ := hf o ft kf (by simp) hg
       obtain ⟨d2, h3, h4⟩ := fields_read fl _ r hr (fun o' ft' kf' hm hg' => hf o' ft' kf' (by simp [hm]) hg')
       refine ⟨d1 ++ d2, ?_, h2.append h4⟩
       have hlen : ((cs.drop o).take kf.length).length = kf.length := by rw [h1.length, h2.length]
       have e : (cs.drop o).take (kf ++ r).length = (cs.drop o).take kf.length ++ (cs.drop (o + kf.length)).take r.length := by
        rw [List.length_append, List.take_add, List.drop_drop]
       rw [e]
       exact h1.append h3
     · cases h
   · cases h
theorem all_append {α : Type} {p : α → Bool} {l l' : List α} : (l ++ l').all p = true ↔ l.all p = true ∧ l'.all p = true := by simp [List.all_append]
theorem weightsAll_get {H : Type} {e : TypeId} : ∀ {l : List (DataW H)}, (DataW.weightsAll P e l).all (· ≤ reachBytes) = true → ∀ {i : Nat} {d : DataW H}, l[i]? = some d → (d.weights P e).all (· ≤ reachBytes) = true
 | [], _, i, d, h => by simp at h
 | x :: l, hw, i, d, h => by
   simp only [DataW.weightsAll] at hw
   rw [all_append] at hw
   cases i with
   | zero => simp at h; subst h; exact hw.1
   | succ i => exact weightsAll_get hw.2 (by simpa using h)
theorem weightsEach_get {H : Type} : ∀ {ts : List TypeId} {l : List (DataW H)}, (DataW.weightsEach P ts l).all (· ≤ reachBytes) = true → ∀ {i : Nat} {t : TypeId} {d : DataW H}, ts[i]? = some t → l[i]? = some d → (d.weights P t).all (· ≤ reachBytes) = true
 | [], l, _, i, t, d, h, _ => by simp at h
 | _ :: _, [], _, i, t, d, _, h => by simp at h
 | t' :: ts, x :: l, hw, i, t, d, h, h' => by
   simp only [DataW.weightsEach] at hw
   rw [all_append] at hw
   cases i with
   | zero => simp at h h'; subst h; subst h'; exact hw.1
   | succ i => exact weightsEach_get hw.2 (by simpa using h) (by simpa using h')
theorem read_trod {H : Type} {enc : TypeId × Value → H} {w : World} {base : Nat} {spare : Nat → Bool} {held : Bool} (hT : ∀ t i, get T t = some i → TOk P t i) (hS : chkS T T = true) : ∀ (fuel : Nat) (t : TypeId) (cs : List Value) (x : DataW H × List MemPlace), DataW.trod enc P w base spare held fuel t cs = some x →
 ∀ (n : Nat) (ks : List CK), ckT T n t = some ks → (x.1.weights P t).all (· ≤ reachBytes) = true → ∃ data, RepL (fun b => b < w.heap.size) w cs data ∧ GoodL ks data := by
 intro fuel
 induction fuel with
 | zero => intro t cs x h; simp [DataW.trod] at h
 | succ fuel ih =>
   intro t cs x h n ks hk hw
   cases n with
   | zero => simp [ckT] at hk
   | succ n =>
   unfold ckT at hk
   split at hk
   · rename_i i hi
     have hti := hT t i hi
     have hd := hti.desc
     split at hk
     · rename_i ks0 hks0
       split at hk
       · rename_i hlen
         cases hk
         have hlen := Nat.eq_of_beq_eq_true hlen
         split at hks0
         · rename_i k hk
           cases hks0
           rw [hk] at hd
           obtain ⟨m, rfl, rfl, hwf⟩ := DataW.trod_int hd h
           exact ⟨[.int k m], .cons (.int k m) .nil, .cons (.int k m hwf) .nil⟩
         · rename_i hk
           cases hks0
           rw [hk] at hd
           obtain ⟨b, rfl, rfl⟩ := DataW.trod_bool hd h
           exact ⟨[.bool b], .cons (.bool b) .nil, .cons (.bool b) .nil⟩
         · rename_i hk
           cases hks0
           rw [hk] at hd
           obtain ⟨s, rfl, rfl, hs⟩ := DataW.trod_string hd h
           refine ⟨[.str s.data.toList], .cons (.str s (by simp only [maxLen] at hs; omega)) .nil, .cons (.str _) .nil⟩
         · rename_i e et hk
           cases hks0
           rw [hk] at hd
           obtain ⟨hck, ie, hie, hby, hsz⟩ := chkS_get hS hi hk
           have hce : P.cellsOf et = szE e := by rw [(hT et ie hie).cellsOf, hsz]
           rcases DataW.trod_slice hd h with ⟨rfl, rfl⟩ | ⟨a, len, cap, elems, rest, n', hn', rfl, rfl, hb, hlc, hcm, hel, hat, _, _⟩
           · exact ⟨[.sl e []], .cons (.sl e [] none 0 [] (Nat.le_refl _) (by simp) (fun hp => by simp at hp) .nil) .nil, .cons (.sl e [] (fun x hx => by simp at hx)) .nil⟩
           · have hn2 : n' = fuel := by omega
             subst hn2
             simp only [DataW.weights] at hw
             rw [show P.underlying t = some (.slice et) from hd] at hw
             simp only [List.all_cons, Bool.and_eq_true, decide_eq_true_eq] at hw
             obtain ⟨hwb, hwa⟩ := hw
             rw [all_append] at hwa
             rw [hce] at hat
             have build : ∀ i, i ≤ len → ∃ (xs : List (El e)) (us : List Value), xs.length = i ∧ CellsAt w a us ∧ RepL (fun b => b < w.heap.size) w us (xs.flatMap (cells e)) ∧ ∀ x ∈ xs, GoodL (ckE e) (cells e x) := by
              intro i
              induction i with
              | zero => intro _; exact ⟨[], [], rfl, fun j u hj => by simp at hj, .nil, fun x hx => by simp at hx⟩
              | succ i ihi =>
                intro hle
                obtain ⟨xs, us, hxl, hca, hrp, hgd⟩ := ihi (by omega)
                have h1 := hat i (by omega)
                obtain ⟨y, hy⟩ : ∃ y, elems[i]? = some y := ⟨elems[i]'(by omega), List.getElem?_eq_getElem _⟩
                rw [hy] at h1
                obtain ⟨cs', hcs, htr⟩ := Option.bind_eq_some_iff.1 h1
                obtain ⟨_, hcl, hcat⟩ := World.cells?_some hcs
                obtain ⟨data, hr, hg⟩ := ih et cs' y htr 8 (ckE e) hck (weightsAll_get hwa.1 (i := i) (by simp [hy]))
                have hmk := mk_cells e hg
                refine ⟨xs ++ [mkE e data], us ++ cs', by simp [hxl], ?_, ?_, ?_⟩
                · intro j u hj
                  have hul : us.length = i * szE e := by rw [hrp.length, flat_len, hxl]
                  rw [List.getElem?_append] at hj
                  split at hj
                  · exact hca j u hj
                  · rename_i hge
                    have hlt : j - us.length < szE e := by
                     rcases Nat.lt_or_ge (j - us.length) cs'.length with h | h
                     · omega
                     · rw [List.getElem?_eq_none h] at hj; cases hj
                    have h2 := hcat (j - us.length) hlt
                    rw [addr_add, hj] at h2
                    rw [show j = i * szE e + (j - us.length) from by omega]
                    exact h2
                · rw [List.flatMap_append]
                  refine hrp.append ?_
                  simp only [List.flatMap_cons, List.flatMap_nil, List.append_nil]
                  rw [hmk]
                  exact hr
                · intro x hx
                  rcases List.mem_append.1 hx with hx | hx
                  · exact hgd x hx
                  · simp at hx; subst hx; rw [hmk]; exact hg
             obtain ⟨xs, us, hxl, hca, hrp, hgd⟩ := build len (Nat.le_refl _)
             refine ⟨[.sl e xs], .cons ?_ .nil, .cons (.sl e xs hgd) .nil⟩
             have hbb : xs.length * byE e ≤ 140737488355328 := by
              rw [(hT et ie hie).bytesOf, hby] at hwb
              simp only [List.length_map, hel] at hwb
              have h3 : len * byE e ≤ (len + rest.length) * byE e := Nat.mul_le_mul_right _ (by omega)
              simp only [reachBytes] at hwb
              rw [hxl]; omega
             have key := RepC.sl (F := fun b => b < w.heap.size) (w := w) e xs (some a) cap us (by omega) hbb (fun hp => by
              refine ⟨a, rfl, ?_, hca⟩
              have hul : us.length = xs.length * szE e := by rw [hrp.length, flat_len]
              have hpos : 0 < us.length := by rw [hul]; exact Nat.mul_pos hp (szE_pos e)
              have h4 := hca 0 _ (List.getElem?_eq_getElem hpos)
              have h5 := World.block_lt_of_cell? w _ h4
              rwa [addr_block] at h5) hrp
             rwa [hxl] at key
         · rename_i fs hk
           rw [hk] at hd
           obtain ⟨fields, hu, hm⟩ := hd
           obtain ⟨ys, n', hn', rfl, hcl, hyl, hfl⟩ := DataW.trod_struct hu h
           have hn2 : n' = fuel := by omega
           subst hn2
           simp only [DataW.weights] at hw
           rw [hu] at hw
           simp only at hw
           have := fields_read (F := fun b => b < w.heap.size) (w := w) (cs := cs) fs 0 ks hks0 (fun o ft kf hmem hg => by
            rw [← hm] at hmem
            obtain ⟨f, hf, hfe⟩ := List.mem_map.1 hmem
            simp only [Prod.mk.injEq] at hfe
            obtain ⟨rfl, rfl⟩ := hfe
            obtain ⟨j, hj⟩ := List.getElem?_of_mem hf
            have hj' : fields[j]? = some f := by simpa using hj
            have h1 := hfl j f hj'
            obtain ⟨fi, hfi, hfl'⟩ := ckT_len hg
            rw [(hT _ fi hfi).cellsOf, ← hfl'] at h1
            have hjl : j < ys.length := by
             rw [hyl]
             rcases Nat.lt_or_ge j fields.size with h | h
             · exact h
             · rw [Array.getElem?_eq_none h] at hj'; cases hj'
            rw [List.getElem?_eq_getElem hjl] at h1
            exact ih _ _ _ h1 n kf hg (weightsEach_get hw (i := j) (by simp [hj]) (by simp [hjl])))
           obtain ⟨data, h1, h2⟩ := this
           refine ⟨data, ?_, h2⟩
           rw [List.drop_zero, List.take_of_length_le (by rw [hcl, hti.cellsOf, hlen]; exact Nat.le_refl _)] at h1
           exact h1
         · cases hks0
       · cases hk
     · cases hk
   · cases hk
theorem law_calls {f : Nat} {l : List A} (hr : Ret P f l [] (.c (.bool true)) []) {W : World} {args : List Value} (ha : RepAs (fun b => b < W.heap.size) (fun _ => .bool false) W args l) (hi : allL (Def []) l) : Calls P f args.toArray W fun e W' => e = .returned (.bool true) ∧ Below W.heap.size W W' := by
 refine (hr.2 (fun b => b < W.heap.size) (fun _ => .bool false) (fun _ => []) W args (fun _ h => h) (fun _ => rfl) ⟨fun id o h => by simp [get] at h, fun id o h => by simp [get] at h, fun id b h => h.elim, fun id b h => h.elim, fun id id' b h => h.elim⟩ ha hi).mono fun e W' h => ?_
 obtain ⟨v, F', V', B', rfl, hv, _, _, _, _, _, _, _, _, hfr⟩ := h
 have hb := rep_bool hv rfl
 subst hb
 exact ⟨rfl, hfr.os, hfr.tape, hfr.output, hfr.size, fun b hb => hfr.old b hb (fun ⟨id, h⟩ => h.elim)⟩
theorem GoodC.slOf {e : Ty} {c : C} (h : GoodC (.sl e) c) : ∃ xs : List (El e), c = .sl e xs ∧ ∀ x ∈ xs, GoodL (ckE e) (cells e x) := by
 cases h with | sl _ xs h => exact ⟨xs, rfl, h⟩
end Go.Proofs.YthbpdhppelaihaaGreat