/- The abstract states: what each temporary holds, what the variables in memory and the rows of the call's own hold; how a state reads in a machine's frame and world. Conditions: none. -/
import Derived.Test.YthbpdhppelaihaaGreatF1
import Derived.Test.YthbpdhppelaihaaGreatE
set_option linter.unusedVariables false
namespace Go.Proofs.YthbpdhppelaihaaGreat
open Go.RowKit
inductive A where
 | un
 | nl
 | kb (b : Bool)
 | c (c : C)
 | ag (l : List A)
 | tp (l : List A)
 | pt (id off : Nat)
 | el (e : Ty) (x : El e) (off : Nat)
 | rw (id : Nat)
 | re (sz id i off : Nat)
 | fn (f : Nat) (caps : List A)
inductive Ob where
 | box (cs : List A)
 | row (e : Ty) (xs : List (El e))
 | fz (e : Ty) (xs : List (El e))
 | dp (e : Ty) (xs : List (El e))
 | fo (e : Ty) (pre : List (El e)) (cs : List A) (post : List (El e))
 | vw (sz id off n : Nat)
 | mb (c : Bool)
 | gone
abbrev Hp := List (Nat × Ob)
def get {α : Type} : List (Nat × α) → Nat → Option α
 | [], _ => none
 | (k, v) :: r, n => match Nat.beq k n with | true => some v | false => get r n
structure St where
 env : List (Nat × A)
 hp : Hp
 nx : Nat
def orX : Option A → A
 | some a => a
 | none => .un
def St.tmp (σ : St) (t : Nat) : A := orX (get σ.env t)
theorem get_cons {α : Type} (k : Nat) (v : α) (r : List (Nat × α)) (n : Nat) : get ((k, v) :: r) n = if k = n then some v else get r n := by
 simp only [get]
 by_cases h : k = n
 · simp [h]
 · rw [if_neg h]
   have : Nat.beq k n = false := by
    cases hb : Nat.beq k n
    · rfl
    · exact absurd (Nat.eq_of_beq_eq_true hb) h
   rw [this]
mutual
def A.all (D : Nat → Prop) : A → Prop
 | .ag l => allL D l
 | .tp l => allL D l
 | .pt id _ => D id
 | .rw id => D id
 | .re _ id _ _ => D id
 | .fn _ l => allL D l
 | .un => True
 | .nl => True
 | .kb _ => True
 | .c _ => True
 | .el _ _ _ => True
def allL (D : Nat → Prop) : List A → Prop
 | [] => True
 | a :: l => a.all D ∧ allL D l
end
mutual
inductive RepA (F : Nat → Prop) (V : Nat → Value) (w : World) : Value → A → Prop
 | un (v : Value) : RepA F V w v .un
 | nl : RepA F V w (.slice none 0 0) .nl
 | kb (b : Bool) : RepA F V w (.bool b) (.kb b)
 | c {v : Value} {c : C} (h : RepC F w v c) : RepA F V w v (.c c)
 | ag {us : List Value} {l : List A} (h : RepAs F V w us l) (h1 : ∀ u ∈ us, u.oneCell' = true) : RepA F V w (.agg us.toArray) (.ag l)
 | tp {us : List Value} {l : List A} (h : RepAs F V w us l) : RepA F V w (.tuple us.toArray) (.tp l)
 | pt (id off g : Nat) (hV : V id = .pointer (some ⟨g, 0, none⟩)) : RepA F V w (.pointer (some ⟨g, off, none⟩)) (.pt id off)
 | el (e : Ty) (x : El e) (off : Nat) (ad : Addr) (us : List Value) (hF : F ad.block) (hc : CellsAt w ad us) (hr : RepL F w us (cells e x)) : RepA F V w (.pointer (some (ad.add off))) (.el e x off)
 | rw (id : Nat) : RepA F V w (V id) (.rw id)
 | re (sz id i off g n cap : Nat) (hV : V id = .slice (some ⟨g, 0, none⟩) n cap) : RepA F V w (.pointer (some ⟨g, i * sz + off, none⟩)) (.re sz id i off)
 | fn (f : Nat) {us : List Value} {l : List A} (h : RepAs F V w us l) : RepA F V w (.func (.func f) #[] us.toArray) (.fn f l)
inductive RepAs (F : Nat → Prop) (V : Nat → Value) (w : World) : List Value → List A → Prop
 | nil : RepAs F V w [] []
 | cons {u : Value} {us : List Value} {a : A} {l : List A} (h : RepA F V w u a) (t : RepAs F V w us l) : RepAs F V w (u :: us) (a :: l)
end
mutual
theorem RepA.move' {F F' : Nat → Prop} {V V' : Nat → Value} {w w' : World} (hF : ∀ b, F b → F' b) (hm : ∀ b, F b → w'.heap[b]? = w.heap[b]?) : ∀ (a : A) {v : Value}, a.all (fun id => V' id = V id) → RepA F V w v a → RepA F' V' w' v a
 | .un, v, _, _ => .un v
 | .nl, _, _, h => by cases h; exact .nl
 | .kb b, _, _, h => by cases h; exact .kb b
 | .c _, _, _, h => by cases h with | c h => exact .c (h.move hF hm)
 | .ag l, _, hV, h => by cases h with | ag h h1 => exact .ag (RepAs.move' hF hm l (by simpa [A.all] using hV) h) h1
 | .tp l, _, hV, h => by cases h with | tp h => exact .tp (RepAs.move' hF hm l (by simpa [A.all] using hV) h)
 | .pt id off, _, hV, h => by
   cases h with
   | pt _ _ g hg => simp only [A.all] at hV; exact .pt id off g (by rw [hV]; exact hg)
 | .el e x off, _, _, h => by cases h with | el _ _ _ ad us hf hc hr => exact .el e x off ad us (hF _ hf) (hc.move hm hf) (hr.move hF hm)
 | .rw id, _, hV, h => by cases h; simp only [A.all] at hV; rw [← hV]; exact .rw id
 | .re e id i off, _, hV, h => by
   cases h with
   | re _ _ _ _ g n cap hg => simp only [A.all] at hV; exact .re e id i off g n cap (by rw [hV]; exact hg)
 | .fn f l, _, hV, h => by cases h with | fn _ h => exact .fn f (RepAs.move' hF hm l (by simpa [A.all] using hV) h)
theorem RepAs.move' {F F' : Nat → Prop} {V V' : Nat → Value} {w w' : World} (hF : ∀ b, F b → F' b) (hm : ∀ b, F b → w'.heap[b]? = w.heap[b]?) : ∀ (l : List A) {us : List Value}, allL (fun id => V' id = V id) l → RepAs F V w us l → RepAs F' V' w' us l
 | [], _, _, h => by cases h; exact .nil
 | a :: l, _, hV, h => by
   cases h with
   | cons h t => simp only [allL] at hV; exact .cons (RepA.move' hF hm a hV.1 h) (RepAs.move' hF hm l hV.2 t)
end
theorem RepA.move {F F' : Nat → Prop} {V V' : Nat → Value} {w w' : World} (hF : ∀ b, F b → F' b) (hm : ∀ b, F b → w'.heap[b]? = w.heap[b]?) {v : Value} {a : A} (hV : a.all (fun id => V' id = V id)) (h : RepA F V w v a) : RepA F' V' w' v a := RepA.move' hF hm a hV h
theorem RepAs.move {F F' : Nat → Prop} {V V' : Nat → Value} {w w' : World} (hF : ∀ b, F b → F' b) (hm : ∀ b, F b → w'.heap[b]? = w.heap[b]?) {us : List Value} {l : List A} (hV : allL (fun id => V' id = V id) l) (h : RepAs F V w us l) : RepAs F' V' w' us l := RepAs.move' hF hm l hV h
mutual
theorem A.all_mono {D D' : Nat → Prop} (h : ∀ id, D id → D' id) : ∀ {a : A}, a.all D → a.all D'
 | .ag l, ha => by simp only [A.all] at *; exact allL_mono h ha
 | .tp l, ha => by simp only [A.all] at *; exact allL_mono h ha
 | .pt id _, ha => by simp only [A.all] at *; exact h _ ha
 | .rw id, ha => by simp only [A.all] at *; exact h _ ha
 | .re _ id _ _, ha => by simp only [A.all] at *; exact h _ ha
 | .fn _ l, ha => by simp only [A.all] at *; exact allL_mono h ha
 | .un, _ => by simp [A.all]
 | .nl, _ => by simp [A.all]
 | .kb _, _ => by simp [A.all]
 | .c _, _ => by simp [A.all]
 | .el _ _ _, _ => by simp [A.all]
theorem allL_mono {D D' : Nat → Prop} (h : ∀ id, D id → D' id) : ∀ {l : List A}, allL D l → allL D' l
 | [], _ => by simp [allL]
 | a :: l, ha => by simp only [allL] at *; exact ⟨A.all_mono h ha.1, allL_mono h ha.2⟩
end
def blk : Value → Option Nat
 | .slice (some a) _ (_ + 1) => some a.block
 | .pointer (some a) => some a.block
 | _ => none
def rowR (w : World) (e : Ty) (v : Value) (n : Nat) (us : List Value) : Prop :=
 us.length = n * szE e ∧ ((∃ a, v = .slice a 0 0 ∧ n = 0) ∨
  ∃ g cap cur, v = .slice (some ⟨g, 0, none⟩) n (cap + 1) ∧ w.heap[g]? = some (.cells cur (etOf e) (0, 0)) ∧ n ≤ cap + 1 ∧ cap + 1 ≤ maxLen ∧ cur.size = (cap + 1) * szE e ∧ cur.toList.take (n * szE e) = us)
theorem rowR_of {w : World} {e : Ty} {v : Value} {n : Nat} {us : List Value} (h : w.ownsRow 0 (etOf e) (szE e) v n us) : rowR w e v n us := by
 refine ⟨h.1, ?_⟩
 rcases h.2 with ⟨h1, h2⟩ | ⟨g, cap, cur, h1, _, h3, h4, h5, h6, h7⟩
 · exact .inl ⟨none, h1, h2⟩
 · cases cap with
   | zero => obtain rfl : n = 0 := by omega
             exact .inl ⟨_, h1, rfl⟩
   | succ cap => exact .inr ⟨g, cap, cur, h1, h3, h4, h5, h6, h7⟩
theorem rowR_own {w : World} {e : Ty} {v : Value} {n : Nat} {us : List Value} (h : rowR w e v n us) (hn : ∀ a, v ≠ .slice (some a) 0 0) : w.ownsRow 0 (etOf e) (szE e) v n us := by
 refine ⟨h.1, ?_⟩
 rcases h.2 with ⟨a, h1, h2⟩ | ⟨g, cap, cur, h1, h3, h4⟩
 · cases a with
   | none => exact .inl ⟨h1, h2⟩
   | some a => exact (hn a h1).elim
 · exact .inr ⟨g, cap + 1, cur, h1, Nat.zero_le _, h3, h4⟩
theorem rowR.move {w w' : World} {e : Ty} {v : Value} {n : Nat} {us : List Value} (h : rowR w e v n us) (hb : ∀ b, blk v = some b → w'.heap[b]? = w.heap[b]?) : rowR w' e v n us := by
 refine ⟨h.1, ?_⟩
 rcases h.2 with h2 | ⟨g, cap, cur, hv, hh, r⟩
 · exact .inl h2
 · exact .inr ⟨g, cap, cur, hv, by rw [hb g (by rw [hv]; rfl)]; exact hh, r⟩
theorem rowR.one {w : World} {e : Ty} {v : Value} {n : Nat} {us : List Value} (h : rowR w e v n us) : v.oneCell' = true := by
 rcases h.2 with ⟨a, h1, h2⟩ | ⟨g, cap, cur, hv, hh, r⟩
 · subst h1; rfl
 · subst hv; rfl
theorem rowR.lt {w : World} {e : Ty} {v : Value} {n : Nat} {us : List Value} (h : rowR w e v n us) : ∀ b, blk v = some b → b < w.heap.size := by
 intro b hb
 rcases h.2 with ⟨a, h1, h2⟩ | ⟨g, cap, cur, hv, hh, r⟩
 · subst h1; cases a <;> cases hb
 · subst hv; cases hb; exact (Array.getElem?_eq_some_iff.1 hh).1
theorem rowR.cells {w : World} {e : Ty} {v : Value} {n : Nat} {us : List Value} (h : rowR w e v n us) : ∃ (A0 : Option Addr) (c : Nat), v = .slice A0 n c ∧ n ≤ c ∧ (0 < n → ∃ g, A0 = some ⟨g, 0, none⟩ ∧ blk v = some g ∧ CellsAt w ⟨g, 0, none⟩ us) := by
 rcases h.2 with ⟨a, h1, h2⟩ | ⟨g, cap, cur, hv, hh, hle, hm, hcs, htk⟩
 · subst h2; exact ⟨a, 0, h1, Nat.le_refl _, fun hp => by omega⟩
 · refine ⟨_, _, hv, hle, fun _ => ⟨g, rfl, by rw [hv]; rfl, fun j u hj => ?_⟩⟩
   have hadd : (⟨g, 0, none⟩ : Addr).add j = ⟨g, j, none⟩ := by unfold Addr.add; split <;> simp_all
   rw [hadd]
   rw [← htk, List.getElem?_take] at hj
   split at hj
   · simp [World.cell?, hh]; simpa using hj
   · cases hj
theorem blk_sl {a : Addr} {n c b : Nat} (h : blk (.slice (some a) n c) = some b) : b = a.block := by cases c <;> simp [blk] at h; exact h.symm
def bkl (v : Value) : List Nat := match blk v with
 | some b => [b]
 | none => []
theorem bkl_mem {v : Value} {b : Nat} : b ∈ bkl v ↔ blk v = some b := by
 unfold bkl
 cases blk v with
 | none => simp
 | some c => simp; exact eq_comm
mutual
inductive Own (w : World) : Value → C → List Nat → Prop
 | int (k : IntKind) (n : Int) : Own w (.int k n) (.int k n) []
 | bool (b : Bool) : Own w (.bool b) (.bool b) []
 | str (s : ByteArray) (hs : s.size ≤ 9223372036854775807) : Own w (.string s) (.str s.data.toList) []
 | sl (e : Ty) (xs : List (El e)) (v : Value) (us : List Value) (bs : List Nat) (hb : xs.length * byE e ≤ 140737488355328) (ho : rowR w e v xs.length us) (hr : OwnL w us (xs.flatMap (cells e)) bs) (hn : (bkl v ++ bs).Nodup) : Own w v (.sl e xs) (bkl v ++ bs)
inductive OwnL (w : World) : List Value → List C → List Nat → Prop
 | nil : OwnL w [] [] []
 | cons {u : Value} {us : List Value} {c : C} {cs : List C} {b bs : List Nat} (h : Own w u c b) (t : OwnL w us cs bs) (hd : ∀ x ∈ b, x ∉ bs) : OwnL w (u :: us) (c :: cs) (b ++ bs)
end
mutual
theorem Own.move {w w' : World} : ∀ {v : Value} {c : C} {bs : List Nat}, Own w v c bs → (∀ b ∈ bs, w'.heap[b]? = w.heap[b]?) → Own w' v c bs
 | _, _, _, .int k n, _ => .int k n
 | _, _, _, .bool b, _ => .bool b
 | _, _, _, .str s hs, _ => .str s hs
 | _, _, _, .sl e xs v us bs hb ho hr hn, h => .sl e xs v us bs hb (ho.move fun b hb' => h b (List.mem_append_left _ (bkl_mem.2 hb'))) (OwnL.move hr fun b hb' => h b (List.mem_append_right _ hb')) hn
theorem OwnL.move {w w' : World} : ∀ {us : List Value} {cs : List C} {bs : List Nat}, OwnL w us cs bs → (∀ b ∈ bs, w'.heap[b]? = w.heap[b]?) → OwnL w' us cs bs
 | _, _, _, .nil, _ => .nil
 | _, _, _, .cons h t hd, hb => .cons (Own.move h fun b h' => hb b (List.mem_append_left _ h')) (OwnL.move t fun b h' => hb b (List.mem_append_right _ h')) hd
end
mutual
theorem Own.rep {F : Nat → Prop} {w : World} : ∀ {v : Value} {c : C} {bs : List Nat}, Own w v c bs → (∀ b ∈ bs, F b) → RepC F w v c
 | _, _, _, .int k n, _ => .int k n
 | _, _, _, .bool b, _ => .bool b
 | _, _, _, .str s hs, _ => .str s hs
 | _, _, _, .sl e xs v us bs hb ho hr hn, h => by
   obtain ⟨A0, c, rfl, hc, hA⟩ := ho.cells
   exact .sl e xs A0 c us hc hb (fun hp => by
    obtain ⟨g, h1, h2, h3⟩ := hA hp
    exact ⟨_, h1, h g (List.mem_append_left _ (bkl_mem.2 h2)), h3⟩) (OwnL.rep hr fun b hb' => h b (List.mem_append_right _ hb'))
theorem OwnL.rep {F : Nat → Prop} {w : World} : ∀ {us : List Value} {cs : List C} {bs : List Nat}, OwnL w us cs bs → (∀ b ∈ bs, F b) → RepL F w us cs
 | _, _, _, .nil, _ => .nil
 | _, _, _, .cons h t hd, hb => .cons (Own.rep h fun b h' => hb b (List.mem_append_left _ h')) (OwnL.rep t fun b h' => hb b (List.mem_append_right _ h'))
end
mutual
theorem Own.lt {w : World} : ∀ {v : Value} {c : C} {bs : List Nat}, Own w v c bs → ∀ b ∈ bs, b < w.heap.size
 | _, _, _, .int k n, b, hb => by simp at hb
 | _, _, _, .bool b, _, hb => by simp at hb
 | _, _, _, .str s hs, _, hb => by simp at hb
 | _, _, _, .sl e xs v us bs _ ho hr hn, b, h => by
   rcases List.mem_append.1 h with h | h
   · exact ho.lt b (bkl_mem.1 h)
   · exact OwnL.lt hr b h
theorem OwnL.lt {w : World} : ∀ {us : List Value} {cs : List C} {bs : List Nat}, OwnL w us cs bs → ∀ b ∈ bs, b < w.heap.size
 | _, _, _, .nil, b, hb => by simp at hb
 | _, _, _, .cons h t hd, b, hb => by
   rcases List.mem_append.1 hb with hb | hb
   · exact Own.lt h b hb
   · exact OwnL.lt t b hb
end
theorem Own.one {w : World} {v : Value} {c : C} {bs : List Nat} (h : Own w v c bs) : v.oneCell' = true := by
 cases h with
 | sl e xs v us bs hb ho hr hn => exact ho.one
 | _ => rfl
theorem Own.inv {w : World} {v : Value} {e : Ty} {xs : List (El e)} {bs : List Nat} (h : Own w v (.sl e xs) bs) : ∃ us b0, xs.length * byE e ≤ 140737488355328 ∧ rowR w e v xs.length us ∧ OwnL w us (xs.flatMap (cells e)) b0 ∧ (bkl v ++ b0).Nodup ∧ bs = bkl v ++ b0 := by
 cases h with
 | sl _ _ _ us b0 hb ho hr hn => exact ⟨us, b0, hb, ho, hr, hn, rfl⟩
theorem OwnL.length {w : World} : ∀ {us : List Value} {cs : List C} {bs : List Nat}, OwnL w us cs bs → us.length = cs.length
 | _, _, _, .nil => rfl
 | _, _, _, .cons h t hd => by simp [OwnL.length t]
theorem OwnL.one {w : World} : ∀ {us : List Value} {cs : List C} {bs : List Nat}, OwnL w us cs bs → ∀ u ∈ us, u.oneCell' = true
 | _, _, _, .nil, u, hu => by simp at hu
 | _, _, _, .cons h t hd, u, hu => by
   rcases List.mem_cons.1 hu with rfl | hu
   · exact h.one
   · exact OwnL.one t u hu
theorem OwnL.append {w : World} : ∀ {us : List Value} {cs : List C} {bs : List Nat}, OwnL w us cs bs → ∀ {us' : List Value} {cs' : List C} {bs' : List Nat}, OwnL w us' cs' bs' → (∀ x ∈ bs, x ∉ bs') → OwnL w (us ++ us') (cs ++ cs') (bs ++ bs')
 | _, _, _, .nil, _, _, _, h', _ => h'
 | _, _, _, .cons h t hd, _, _, _, h', hx => by
   rw [List.cons_append, List.cons_append, List.append_assoc]
   refine .cons h (OwnL.append t h' fun x hxt => hx x (List.mem_append_right _ hxt)) fun x hxb hxm => ?_
   rcases List.mem_append.1 hxm with h1 | h1
   · exact hd x hxb h1
   · exact hx x (List.mem_append_left _ hxb) h1
theorem OwnL.split {w : World} : ∀ (cs1 : List C) {us : List Value} {cs2 : List C} {bs : List Nat}, OwnL w us (cs1 ++ cs2) bs → ∃ us1 us2 b1 b2, us = us1 ++ us2 ∧ bs = b1 ++ b2 ∧ OwnL w us1 cs1 b1 ∧ OwnL w us2 cs2 b2 ∧ ∀ x ∈ b1, x ∉ b2
 | [], us, cs2, bs, h => ⟨[], us, [], bs, rfl, rfl, .nil, h, fun x hx => by simp at hx⟩
 | c :: cs1, us, cs2, bs, h => by
   rw [List.cons_append] at h
   generalize hcs : c :: (cs1 ++ cs2) = cs at h
   cases h with
   | nil => cases hcs
   | cons h t hd =>
     injection hcs with e1 e2
     subst e1
     subst e2
     obtain ⟨us1, us2, b1, b2, rfl, rfl, h1, h2, h3⟩ := OwnL.split cs1 t
     refine ⟨_ :: us1, us2, _ ++ b1, b2, rfl, by rw [List.append_assoc], .cons h h1 fun x hx hx1 => hd x hx (List.mem_append_left _ hx1), h2, fun x hx hx2 => ?_⟩
     rcases List.mem_append.1 hx with h4 | h4
     · exact hd x h4 (List.mem_append_right _ hx2)
     · exact h3 x h4 hx2
theorem OwnL.nodup {w : World} : ∀ {us : List Value} {cs : List C} {bs : List Nat}, OwnL w us cs bs → bs.Nodup
 | _, _, _, .nil => List.nodup_nil
 | _, _, _, .cons h t hd => by
   rw [List.nodup_append]
   refine ⟨?_, OwnL.nodup t, fun a ha b hb e => hd a ha (e ▸ hb)⟩
   cases h with
   | sl e xs v us bs _ ho hr hn => exact hn
   | _ => exact List.nodup_nil
inductive ObR (F : Nat → Prop) (V : Nat → Value) (B : Nat → List Nat) (w : World) (id : Nat) : Ob → Prop
 | box (cs : List A) (g : Nat) (vs : List Value) (t : TypeId) (hV : V id = .pointer (some ⟨g, 0, none⟩)) (hg : w.heap[g]? = some (.cells vs.toArray t (0, 0))) (hr : RepAs F V w vs cs) (h1 : ∀ u ∈ vs, u.oneCell' = true) : ObR F V B w id (.box cs)
 | row (e : Ty) (xs : List (El e)) (us : List Value) (ho : rowR w e (V id) xs.length us) (hr : RepL F w us (xs.flatMap (cells e))) (hb : xs.length * byE e ≤ 140737488355328) : ObR F V B w id (.row e xs)
 | fz (e : Ty) (xs : List (El e)) (h : RepC F w (V id) (.sl e xs)) : ObR F V B w id (.fz e xs)
 | dp (e : Ty) (xs : List (El e)) (h : Own w (V id) (.sl e xs) (B id)) : ObR F V B w id (.dp e xs)
 | fo (e : Ty) (pre : List (El e)) (cs : List A) (post : List (El e)) (us1 vs us2 : List Value) (b1 b2 : List Nat) (hb : (pre.length + (1 + post.length)) * byE e ≤ 140737488355328) (hc : cs.length = szE e) (ho : rowR w e (V id) (pre.length + (1 + post.length)) (us1 ++ (vs ++ us2))) (hr1 : OwnL w us1 (pre.flatMap (cells e)) b1) (hr2 : OwnL w us2 (post.flatMap (cells e)) b2)
    (hv : RepAs F V w vs cs) (h1 : ∀ u ∈ vs, u.oneCell' = true) (hB : B id = bkl (V id) ++ (b1 ++ b2)) (hn : (B id).Nodup) : ObR F V B w id (.fo e pre cs post)
 | vw (sz base off n g p N C : Nat) (hV : V id = .slice (some ⟨g, p, none⟩) n (C - off)) (hp : off < C → p = off * sz) (hb : V base = .slice (some ⟨g, 0, none⟩) N C) (hn : off + n ≤ C) : ObR F V B w id (.vw sz base off n)
 | mb (c b : Bool) (hV : V id = .bool b) (hc : b = true → c = true) : ObR F V B w id (.mb c)
 | gone : ObR F V B w id .gone
def owns (hp : Hp) (V : Nat → Value) (B : Nat → List Nat) (id b : Nat) : Prop :=
 match get hp id with
 | some (.box _) => blk (V id) = some b
 | some (.row _ _) => blk (V id) = some b
 | some (.dp _ _) => b ∈ B id
 | some (.fo _ _ _ _) => b ∈ B id
 | _ => False
def obIds (D : Nat → Prop) : Ob → Prop
 | .box cs => allL D cs
 | .fo _ _ cs _ => allL D cs
 | .vw _ base _ _ => D base
 | _ => True
def Def (hp : Hp) (id : Nat) : Prop := (get hp id).isSome = true
structure HeapOk (F : Nat → Prop) (V : Nat → Value) (B : Nat → List Nat) (w : World) (hp : Hp) : Prop where
 ob : ∀ id o, get hp id = some o → ObR F V B w id o
 ids : ∀ id o, get hp id = some o → obIds (Def hp) o
 lt : ∀ id b, owns hp V B id b → b < w.heap.size
 nF : ∀ id b, owns hp V B id b → ¬ F b
 apart : ∀ id id' b, owns hp V B id b → owns hp V B id' b → id = id'
structure Fr (L0 : Nat → Prop) (w0 w : World) : Prop where
 os : w.os = w0.os
 tape : w.tape = w0.tape
 output : w.output = w0.output
 size : w0.heap.size ≤ w.heap.size
 old : ∀ b, b < w0.heap.size → ¬ L0 b → w.heap[b]? = w0.heap[b]?
structure Old where
 L : Nat → Prop
 m : Nat
 V : Nat → Value
structure Sim (n : Nat) (w0 : World) (L0 : Old) (F0 : Nat → Prop) (F : Nat → Prop) (V : Nat → Value) (B : Nat → List Nat) (σ : St) (a : Act) (w : World) : Prop where
 fr : Fr L0.L w0 w
 df : a.defers = []
 tsz : a.tmps.size = n
 V1 : ∀ id, (V id).oneCell' = true
 F_lt : ∀ b, F b → b < w.heap.size
 F_new : ∀ b, F b → F0 b ∨ w0.heap.size ≤ b ∨ L0.L b
 F0_F : ∀ b, F0 b → F b
 hp : HeapOk F V B w σ.hp
 own : ∀ id b, owns σ.hp V B id b → w0.heap.size ≤ b ∨ L0.L b
 env : ∀ t, RepA F V w (a.tmps.getD t undef) (σ.tmp t)
 ids : ∀ t, (σ.tmp t).all (Def σ.hp)
 keep : ∀ id, id < L0.m → V id = L0.V id ∧ Def σ.hp id
theorem Fr.refl (L0 : Nat → Prop) (w : World) : Fr L0 w w := ⟨rfl, rfl, rfl, Nat.le_refl _, fun _ _ _ => rfl⟩
theorem owns_same {hp hp' : Hp} {V V' : Nat → Value} {B B' : Nat → List Nat} {id b : Nat} (h : get hp' id = get hp id) (hV : V' id = V id) (hB : B' id = B id) : owns hp' V' B' id b ↔ owns hp V B id b := by
 unfold owns
 rw [h, hV, hB]
theorem owns_def {hp : Hp} {V : Nat → Value} {B : Nat → List Nat} {id b : Nat} (h : owns hp V B id b) : Def hp id := by
 unfold owns at h
 unfold Def
 split at h <;> simp_all
theorem not_owned_of_F {F : Nat → Prop} {V : Nat → Value} {B : Nat → List Nat} {w : World} {hp : Hp} (h : HeapOk F V B w hp) {b : Nat} (hb : F b) (id : Nat) : ¬ owns hp V B id b := fun ho => h.nF id b ho hb
theorem HeapOk.step {F F' : Nat → Prop} {V V' : Nat → Value} {B B' : Nat → List Nat} {w w' : World} {hp hp' : Hp} (h : HeapOk F V B w hp) (hFlt0 : ∀ b, F b → b < w.heap.size) (T : Nat → Prop)
 (hblk : ∀ b, b < w.heap.size → (∀ id, T id → ¬ owns hp V B id b) → w'.heap[b]? = w.heap[b]?) (hsz : w.heap.size ≤ w'.heap.size)
 (hV : ∀ id, Def hp id → V' id = V id) (hB : ∀ id, ¬ T id → Def hp id → B' id = B id) (hF : ∀ b, F b → F' b) (hF' : ∀ b, F' b → F b ∨ w.heap.size ≤ b ∨ ∃ id, T id ∧ owns hp V B id b)
 (hsame : ∀ id, ¬ T id → get hp' id = get hp id) (hdef : ∀ id, Def hp id → Def hp' id)
 (hT : ∀ id o, T id → get hp' id = some o → ObR F' V' B' w' id o ∧ obIds (Def hp') o)
 (hTown : ∀ id b, T id → owns hp' V' B' id b → b < w'.heap.size ∧ ¬ F' b ∧ (w.heap.size ≤ b ∨ ∃ id', T id' ∧ owns hp V B id' b))
 (hTap : ∀ id id' b, T id → T id' → owns hp' V' B' id b → owns hp' V' B' id' b → id = id') : HeapOk F' V' B' w' hp' := by
 have hmF : ∀ b, F b → w'.heap[b]? = w.heap[b]? := fun b hb => hblk b (hFlt0 b hb) (fun id _ => not_owned_of_F h hb id)
 have hsm : ∀ id b, ¬ T id → owns hp' V' B' id b → owns hp V B id b := by
  intro id b hT' ho
  have hd : Def hp id := by
   have := owns_def ho
   unfold Def at *
   rwa [hsame id hT'] at this
  exact (owns_same (hsame id hT') (hV id hd) (hB id hT' hd)).1 ho
 have hvs : ∀ D : A, D.all (Def hp) → D.all (fun id => V' id = V id) := fun D hD => A.all_mono (fun id hd => hV id hd) hD
 refine ⟨fun id o ho => ?_, fun id o ho => ?_, fun id b ho => ?_, fun id b ho => ?_, fun id id' b ho ho' => ?_⟩
 · by_cases hid : T id
   · exact (hT id o hid ho).1
   · rw [hsame id hid] at ho
     have hd : Def hp id := by unfold Def; rw [ho]; rfl
     have hVid := hV id hd
     have h0 := h.ob id o ho
     have hids := h.ids id o ho
     cases h0 with
     | box cs g vs t hVg hg hr h1 =>
       have howns : owns hp V B id g := by unfold owns; rw [ho]; simp [hVg, blk]
       refine .box cs g vs t (by rw [hVid]; exact hVg) ?_ (hr.move hF hmF (allL_mono (fun id hd => hV id hd) hids)) h1
       rw [hblk g (h.lt id g howns) (fun id' hid' ho' => hid (by rw [h.apart id id' g howns ho']; exact hid'))]
       exact hg
     | row e xs us hown hr hb =>
       refine .row e xs us ?_ (hr.move hF hmF) hb
       rw [hVid]
       refine hown.move fun g hg => ?_
       have howns : owns hp V B id g := by unfold owns; rw [ho]; exact hg
       exact hblk g (h.lt id g howns) (fun id' hid' ho' => hid (by rw [h.apart id id' g howns ho']; exact hid'))
     | dp e xs h0 =>
       refine .dp e xs ?_
       rw [hVid, hB id hid hd]
       refine h0.move fun g hg => ?_
       have howns : owns hp V B id g := by unfold owns; rw [ho]; exact hg
       exact hblk g (h.lt id g howns) (fun id' hid' ho' => hid (by rw [h.apart id id' g howns ho']; exact hid'))
     | fz e xs h0 => exact .fz e xs (by rw [hVid]; exact h0.move hF hmF)
     | fo e pre cs post us1 vs us2 b1 b2 hb hc hro hr1 hr2 hv h1 hB0 hn =>
       have hkeep : ∀ g, g ∈ B id → w'.heap[g]? = w.heap[g]? := fun g hg => by
        have howns : owns hp V B id g := by unfold owns; rw [ho]; exact hg
        exact hblk g (h.lt id g howns) (fun id' hid' ho' => hid (by rw [h.apart id id' g howns ho']; exact hid'))
       refine .fo e pre cs post us1 vs us2 b1 b2 hb hc ?_ (hr1.move fun g hg => hkeep g (by rw [hB0]; simp [hg])) (hr2.move fun g hg => hkeep g (by rw [hB0]; simp [hg])) (hv.move hF hmF (allL_mono (fun id hd => hV id hd) hids)) h1 (by rw [hVid, hB id hid hd]; exact hB0) (by rw [hB id hid hd]; exact hn)
       rw [hVid]
       exact hro.move fun g hg => hkeep g (by rw [hB0]; simp [bkl_mem.2 hg])
     | vw sz base off n g p N C hVv hp hb hn => exact .vw sz base off n g p N C (by rw [hVid]; exact hVv) hp (by rw [hV base hids]; exact hb) hn
     | mb c b hVv hc => exact .mb c b (by rw [hVid]; exact hVv) hc
     | gone => exact .gone
 · by_cases hid : T id
   · exact (hT id o hid ho).2
   · rw [hsame id hid] at ho
     have := h.ids id o ho
     cases o with
     | box cs => exact allL_mono hdef this
     | fo _ _ cs _ => exact allL_mono hdef this
     | vw _ base _ _ => exact hdef base this
     | _ => trivial
 · by_cases hid : T id
   · exact (hTown id b hid ho).1
   · exact Nat.lt_of_lt_of_le (h.lt id b (hsm id b hid ho)) hsz
 · by_cases hid : T id
   · exact (hTown id b hid ho).2.1
   · intro hFb
     have ho1 := hsm id b hid ho
     rcases hF' b hFb with h1 | h1 | ⟨id', hid', h1⟩
     · exact h.nF id b ho1 h1
     · exact absurd (h.lt id b ho1) (by omega)
     · exact hid (by rw [h.apart id id' b ho1 h1]; exact hid')
 · have key : ∀ id id', T id → ¬ T id' → owns hp' V' B' id b → owns hp' V' B' id' b → False := by
    intro id id' hid hid' ho ho'
    have ho1 := hsm id' b hid' ho'
    rcases (hTown id b hid ho).2.2 with h1 | ⟨id2, hid2, h1⟩
    · exact absurd (h.lt id' b ho1) (by omega)
    · exact hid' (by rw [h.apart id' id2 b ho1 h1]; exact hid2)
   by_cases hid : T id <;> by_cases hid' : T id'
   · exact hTap id id' b hid hid' ho ho'
   · exact (key id id' hid hid' ho ho').elim
   · exact (key id' id hid' hid ho' ho).elim
   · exact h.apart id id' b (hsm id b hid ho) (hsm id' b hid' ho')
theorem Sim.step {n : Nat} {w0 : World} {L0 : Old} {F0 F F' : Nat → Prop} {V V' : Nat → Value} {B B' : Nat → List Nat} {σ : St} {a : Act} {w w' : World} (h : Sim n w0 L0 F0 F V B σ a w) {hp' : Hp} (T : Nat → Prop) (hos : w'.os = w.os) (htape : w'.tape = w.tape) (hout : w'.output = w.output)
 (hblk : ∀ b, b < w.heap.size → (∀ id, T id → ¬ owns σ.hp V B id b) → w'.heap[b]? = w.heap[b]?) (hsz : w.heap.size ≤ w'.heap.size)
 (hV : ∀ id, Def σ.hp id → V' id = V id) (hB : ∀ id, ¬ T id → Def σ.hp id → B' id = B id) (hF : ∀ b, F b → F' b) (hF' : ∀ b, F' b → F b ∨ w.heap.size ≤ b ∨ ∃ id, T id ∧ owns σ.hp V B id b) (hFlt : ∀ b, F' b → b < w'.heap.size) (hV1 : ∀ id, (V' id).oneCell' = true)
 (hsame : ∀ id, ¬ T id → get hp' id = get σ.hp id) (hdef : ∀ id, Def σ.hp id → Def hp' id)
 (hT : ∀ id o, T id → get hp' id = some o → ObR F' V' B' w' id o ∧ obIds (Def hp') o)
 (hTown : ∀ id b, T id → owns hp' V' B' id b → b < w'.heap.size ∧ ¬ F' b ∧ (w.heap.size ≤ b ∨ ∃ id', T id' ∧ owns σ.hp V B id' b))
 (hTap : ∀ id id' b, T id → T id' → owns hp' V' B' id b → owns hp' V' B' id' b → id = id') : Sim n w0 L0 F0 F' V' B' { σ with hp := hp' } a w' := by
 have hH := h.hp.step h.F_lt T hblk hsz hV hB hF hF' hsame hdef hT hTown hTap
 have hmF : ∀ b, F b → w'.heap[b]? = w.heap[b]? := fun b hb => hblk b (h.F_lt b hb) (fun id _ => not_owned_of_F h.hp hb id)
 refine ⟨⟨hos.trans h.fr.os, htape.trans h.fr.tape, hout.trans h.fr.output, Nat.le_trans h.fr.size hsz, fun b hb hl => ?_⟩, h.df, h.tsz, hV1, hFlt, fun b hb => ?_, fun b hb => hF b (h.F0_F b hb), hH, fun id b ho => ?_, fun t => ?_, fun t => A.all_mono hdef (h.ids t), fun id hid => ⟨(hV id (h.keep id hid).2).trans (h.keep id hid).1, hdef id (h.keep id hid).2⟩⟩
 · rw [hblk b (Nat.lt_of_lt_of_le hb h.fr.size) (fun id _ ho => ?_)]
   · exact h.fr.old b hb hl
   · rcases h.own id b ho with h1 | h1
     · omega
     · exact hl h1
 · rcases hF' b hb with h1 | h1 | ⟨id, _, h1⟩
   · exact h.F_new b h1
   · exact .inr (.inl (Nat.le_trans h.fr.size h1))
   · exact .inr (h.own id b h1)
 · by_cases hid : T id
   · rcases (hTown id b hid ho).2.2 with h1 | ⟨id', _, h1⟩
     · exact .inl (Nat.le_trans h.fr.size h1)
     · exact h.own id' b h1
   · have hd : Def σ.hp id := by
      have := owns_def ho
      unfold Def at *
      rwa [hsame id hid] at this
     exact h.own id b ((owns_same (hsame id hid) (hV id hd) (hB id hid hd)).1 ho)
 · exact (h.env t).move hF hmF (A.all_mono (fun id hd => hV id hd) (h.ids t))
def St.put (σ : St) (d : Nat) (r : A) : St := { σ with env := (d, r) :: σ.env }
theorem St.tmp_put (σ : St) (d : Nat) (r : A) (t : Nat) : (σ.put d r).tmp t = if d = t then r else σ.tmp t := by
 unfold St.tmp St.put
 simp only [get_cons]
 by_cases h : d = t <;> simp [h, orX]
theorem Sim.put {n : Nat} {w0 : World} {L0 : Old} {F0 F : Nat → Prop} {V : Nat → Value} {B : Nat → List Nat} {σ : St} {a : Act} {w : World} (h : Sim n w0 L0 F0 F V B σ a w) {d : Nat} (hd : d < n) {v : Value} {r : A} (hv : RepA F V w v r) (hi : r.all (Def σ.hp)) : Sim n w0 L0 F0 F V B (σ.put d r) (a.put (some d) v) w := by
 refine ⟨h.fr, h.df, by simp [Act.put, h.tsz], h.V1, h.F_lt, h.F_new, h.F0_F, h.hp, h.own, fun t => ?_, fun t => ?_, h.keep⟩
 · rw [St.tmp_put]
   by_cases ht : d = t
   · subst ht
     rw [if_pos rfl]
     have : (a.put (some d) v).tmps.getD d undef = v := by
      have hlt : d < a.tmps.size := by rw [h.tsz]; exact hd
      simp [Act.put, Array.getD_eq_getD_getElem?, hlt]
     rw [this]
     exact hv
   · rw [if_neg ht]
     have : (a.put (some d) v).tmps.getD t undef = a.tmps.getD t undef := by
      simp [Act.put, Array.getD_eq_getD_getElem?, ht]
     rw [this]
     exact h.env t
 · rw [St.tmp_put]
   by_cases ht : d = t
   · rw [if_pos ht]; exact hi
   · rw [if_neg ht]; exact h.ids t
end Go.Proofs.YthbpdhppelaihaaGreat