/- Joined: F5 F6 F7 FD F8 F9. -/
import Derived.Test.YthbpdhppelaihaaGreatF4
import Derived.Great.BuildSlice
import Derived.Laws.MakeOwn
import Derived.Laws.Slices
/- The conditions of F4 are sound: operation by operation. Conditions: none. -/
set_option linter.unusedVariables false
set_option linter.unusedSimpArgs false
namespace Go.Proofs.YthbpdhppelaihaaGreat
open Go.RowKit
def St.upd (σ : St) (d : Option Nat) (r : A) (dh : Hp) : St :=
 { env := match d with | some d => (d, r) :: σ.env | none => σ.env, hp := dh ++ σ.hp, nx := σ.nx + dh.length }
theorem get_append {α : Type} (l l' : List (Nat × α)) (id : Nat) : get (l ++ l') id = match get l id with | some o => some o | none => get l' id := by
 induction l with
 | nil => rfl
 | cons p l ih =>
   obtain ⟨k, v⟩ := p
   rw [List.cons_append, get_cons, get_cons, ih]
   by_cases h : k = id <;> simp [h]
theorem get_none_of_keys {l : Hp} {id : Nat} (h : id ∉ keys l) : get l id = none := by
 induction l with
 | nil => rfl
 | cons p l ih =>
   obtain ⟨k, v⟩ := p
   simp [keys] at h
   rw [get_cons, if_neg (fun e => h.1 e.symm)]
   exact ih h.2
theorem keys_of_get {l : Hp} {id : Nat} {o : Ob} (h : get l id = some o) : id ∈ keys l := by
 apply Decidable.byContradiction
 intro hn
 rw [get_none_of_keys hn] at h
 cases h
def Val (P : Program) (n : Nat) (o : Oper) (σ σ' : St) : Prop :=
 ∀ ⦃w0 : World⦄ ⦃L0 : Old⦄ ⦃F0 F : Nat → Prop⦄ ⦃V : Nat → Value⦄ ⦃B : Nat → List Nat⦄ ⦃a : Act⦄ ⦃w : World⦄, Sim n w0 L0 F0 F V B σ a w → ∀ (K : Act → World → Prop) (Q : Exit → Act → World → Prop), (∀ F' V' B' a' w', Sim n w0 L0 F0 F' V' B' σ' a' w' → K a' w') → o.wp P a w K Q
variable {P : Program} {T : List (Nat × TI)}
theorem Sim.rep {n : Nat} {w0 : World} {L0 : Old} {F0 F : Nat → Prop} {V : Nat → Value} {B : Nat → List Nat} {σ : St} {a : Act} {w : World} (h : Sim n w0 L0 F0 F V B σ a w) (x : Operand) : RepA F V w (a.eval x) (ev σ x) := by
 cases x with
 | tmp t => exact h.env t
 | global g => exact .un _
 | func f => exact .fn f .nil
 | const v =>
   simp only [Act.eval, ev]
   cases v <;> try exact .un _
   case bool b => exact .kb b
   case int k n => exact .c (.int k n)
   case string s =>
    simp only [ofConst]
    split
    · rename_i hb; exact .c (.str s (Nat.le_of_ble_eq_true hb))
    · exact .un _
   case slice a len cap =>
    cases a with
    | some a => exact .un _
    | none => cases len with
      | zero => cases cap with
        | zero => exact .nl
        | succ c => exact .un _
      | succ l => exact .un _
theorem Sim.repIds {n : Nat} {w0 : World} {L0 : Old} {F0 F : Nat → Prop} {V : Nat → Value} {B : Nat → List Nat} {σ : St} {a : Act} {w : World} (h : Sim n w0 L0 F0 F V B σ a w) (x : Operand) : (ev σ x).all (Def σ.hp) := by
 cases x with
 | tmp t => exact h.ids t
 | global g => simp [ev, A.all]
 | func f => simp [ev, A.all, allL]
 | const v =>
   simp only [ev]
   unfold ofConst
   split <;> (try split) <;> simp [A.all]
theorem Sim.putd {n : Nat} {w0 : World} {L0 : Old} {F0 F : Nat → Prop} {V : Nat → Value} {B : Nat → List Nat} {σ : St} {a : Act} {w : World} (h : Sim n w0 L0 F0 F V B σ a w) {d : Option Nat} (hd : ∀ x, d = some x → x < n) {v : Value} {r : A} (hv : RepA F V w v r) (hi : r.all (Def σ.hp)) (m : Nat) : Sim n w0 L0 F0 F V B { (σ.upd d r []) with nx := m } (a.put d v) w := by
 cases d with
 | none => exact ⟨h.fr, h.df, h.tsz, h.V1, h.F_lt, h.F_new, h.F0_F, h.hp, h.own, h.env, h.ids, h.keep⟩
 | some d => exact let g := h.put (hd d rfl) hv hi; ⟨g.fr, g.df, g.tsz, g.V1, g.F_lt, g.F_new, g.F0_F, g.hp, g.own, g.env, g.ids, g.keep⟩
theorem val_pure {n : Nat} {o : Oper} (hd : ∀ d, o.dst = some d → d < n) {σ : St} {r : A} (h : ∀ {w0 : World} {L0 : Old} {F0 F : Nat → Prop} {V : Nat → Value} {B : Nat → List Nat} {a : Act} {w : World}, Sim n w0 L0 F0 F V B σ a w → (∃ v, (execOp a.eval o).run P w = .ok (.value v) w ∧ RepA F V w v r) ∧ r.all (Def σ.hp)) : Val P n o σ (σ.upd o.dst r []) := by
 intro w0 L0 F0 F V B a w hs K Q hK
 obtain ⟨⟨v, hr, hv⟩, hi⟩ := h hs
 unfold Oper.wp
 rw [hr]
 exact hK F V B _ _ (hs.putd hd hv hi _)
theorem obIds_mono {D D' : Nat → Prop} (h : ∀ id, D id → D' id) {o : Ob} (ho : obIds D o) : obIds D' o := by
 cases o with
 | box cs => exact allL_mono h ho
 | fo e pre cs post => exact allL_mono h ho
 | vw sz base off n => exact h base ho
 | _ => trivial
theorem Sim.congr {n : Nat} {w0 : World} {L0 : Old} {F0 F : Nat → Prop} {V : Nat → Value} {B : Nat → List Nat} {σ σ' : St} {a : Act} {w : World} (h : Sim n w0 L0 F0 F V B σ a w) (he : ∀ t, σ'.tmp t = σ.tmp t) (hh : ∀ id, get σ'.hp id = get σ.hp id) : Sim n w0 L0 F0 F V B σ' a w := by
 have hd : ∀ id, Def σ'.hp id ↔ Def σ.hp id := fun id => by unfold Def; rw [hh]
 have ho : ∀ id b, owns σ'.hp V B id b ↔ owns σ.hp V B id b := fun id b => owns_same (hh id) rfl rfl
 refine ⟨h.fr, h.df, h.tsz, h.V1, h.F_lt, h.F_new, h.F0_F, ⟨fun id o hg => h.hp.ob id o (by rw [← hh]; exact hg), fun id o hg => obIds_mono (fun k hk => (hd k).2 hk) (h.hp.ids id o (by rw [← hh]; exact hg)), fun id b hb => h.hp.lt id b ((ho id b).1 hb), fun id b hb => h.hp.nF id b ((ho id b).1 hb), fun id id' b hb hb' => h.hp.apart id id' b ((ho id b).1 hb) ((ho id' b).1 hb')⟩, fun id b hb => h.own id b ((ho id b).1 hb), fun t => by rw [he]; exact h.env t, fun t => by rw [he]; exact A.all_mono (fun k hk => (hd k).2 hk) (h.ids t), fun id hid => ⟨(h.keep id hid).1, (hd id).2 (h.keep id hid).2⟩⟩
theorem val_move {n : Nat} {o : Oper} (hd : ∀ d, o.dst = some d → d < n) {σ : St} {x : Operand} (ho : o.op = .move x ∨ o.op = .assign x) : Val P n o σ (σ.upd o.dst (ev σ x) []) :=
 val_pure hd fun hs => ⟨⟨_, by rcases ho with ho | ho <;> simp [execOp, ho], hs.rep x⟩, hs.repIds x⟩
theorem rep_bool {F : Nat → Prop} {V : Nat → Value} {w : World} {v : Value} {a : A} {b : Bool} (h : RepA F V w v a) (hb : bOf a = some b) : v = .bool b := by
 cases a <;> simp [bOf] at hb
 case kb b' => subst hb; cases h; rfl
 case c c =>
  cases c <;> simp [bOf] at hb
  subst hb
  cases h with | c h => cases h; rfl
theorem val_pick {n : Nat} {o : Oper} (hd : ∀ d, o.dst = some d → d < n) {σ : St} {c x y : Operand} (ho : o.op = .pick c x y) {K : A → Prop} (h : pickA (ev σ c) (ev σ x) (ev σ y) K) : ∃ r, K r ∧ Val P n o σ (σ.upd o.dst r []) := by
 unfold pickA at h
 split at h
 · rename_i hc
   exact ⟨_, h, val_pure hd fun hs => ⟨⟨_, by
    have := hs.rep c; rw [hc] at this; have hb := rep_bool this rfl
    simp [execOp, ho, hb, asBool], hs.rep x⟩, hs.repIds x⟩⟩
 · rename_i hc
   exact ⟨_, h, val_pure hd fun hs => ⟨⟨_, by
    have := hs.rep c; rw [hc] at this; have hb := rep_bool this rfl
    simp [execOp, ho, hb, asBool], hs.rep y⟩, hs.repIds y⟩⟩
 · rename_i t hc
   split at h
   · rename_i p q hp hq
     refine ⟨_, h, val_pure hd fun hs => ⟨⟨.bool (if t then p else q), ?_, .c (.bool _)⟩, by simp [A.all]⟩⟩
     have h0 := hs.rep c; rw [hc] at h0; have hb := rep_bool h0 rfl
     have h1 := rep_bool (hs.rep x) hp
     have h2 := rep_bool (hs.rep y) hq
     cases t <;> simp [execOp, ho, hb, h1, h2, asBool]
   · exact h.elim
 · exact h.elim
theorem rep_int {F : Nat → Prop} {V : Nat → Value} {w : World} {v : Value} {k : IntKind} {n : Int} (h : RepA F V w v (.c (.int k n))) : v = .int k n := by cases h with | c h => cases h; rfl
theorem rep_str {F : Nat → Prop} {V : Nat → Value} {w : World} {v : Value} {s : List UInt8} (h : RepA F V w v (.c (.str s))) : ∃ b : ByteArray, v = .string b ∧ b.data.toList = s ∧ b.size ≤ 9223372036854775807 := by
 cases h with | c h => cases h with | str b hs => exact ⟨b, rfl, rfl, hs⟩
theorem eqK_eq {k k' : IntKind} (h : eqK k k' = true) : k = k' := by cases k <;> cases k' <;> first | rfl | cases h
theorem str_toList (b : ByteArray) : b.toList = b.data.toList := ByteArray.toList_eq b
theorem beq_bool (hT : ∀ t i, get T t = some i → TOk P t i) {t : Nat} (h : isBoolT T t = true) (p q : Bool) (w : World) : (Op.equal t (.bool p) (.bool q)).run P w = .ok (p == q) w := by
 unfold isBoolT at h
 split at h
 · rename_i i hi
   have hd := (hT t i hi).desc
   split at h
   · rename_i hk
     rw [hk] at hd
     simp only [TK.desc] at hd
     show (Op.equalIn (9999 + 1) t (.bool p) (.bool q)).run P w = _
     unfold Op.equalIn
     simp [run_underlying hd]
   · cases h
 · cases h
theorem data_append' (a b : ByteArray) : (a ++ b).data.toList = a.data.toList ++ b.data.toList := by
 obtain ⟨a⟩ := a
 obtain ⟨b⟩ := b
 rw [ByteArray.mk_append_mk]
theorem val_bin (hT : ∀ t i, get T t = some i → TOk P t i) {n : Nat} {o : Oper} (hd : ∀ d, o.dst = some d → d < n) {σ : St} {op : BinOp} {t t' : TypeId} {x y : Operand} (ho : o.op = .binOp op t x y t') {K : A → Prop} (h : binA op (isBoolT T t) (ev σ x) (ev σ y) K) : ∃ r, K r ∧ Val P n o σ (σ.upd o.dst r []) := by
 have key : ∀ (r : A) (u : ∀ {w0 : World} {L0 : Old} {F0 F : Nat → Prop} {V : Nat → Value} {B : Nat → List Nat} {a : Act} {w : World}, Sim n w0 L0 F0 F V B σ a w → ∃ v, (do eqGuard op t x y (a.eval x) (a.eval y); binOp op t (a.eval x) (a.eval y) : Sem Value).run P w = .ok v w ∧ RepA F V w v r), r.all (fun _ => False) → Val P n o σ (σ.upd o.dst r []) := by
  intro r u hi
  refine val_pure hd fun hs => ⟨?_, A.all_mono (fun _ h => h.elim) hi⟩
  obtain ⟨v, hv, hr⟩ := u hs
  exact ⟨v, by simp only [execOp, ho]; simp only [Sem.run_bind] at hv ⊢; simp [hv], hr⟩
 unfold binA at h
 split at h
 · rename_i k a k' b hx hy
   have sh : ∀ (r : Value) (rc : C), (binOp op t (.int k a) (.int k' b)) = pure r → (∀ {F : Nat → Prop} {w : World}, RepC F w r rc) → Val P n o σ (σ.upd o.dst (.c rc) []) := by
    intro r rc hb hrc
    refine key _ (fun hs => ?_) (by simp [A.all])
    have h1 := rep_int (by rw [← hx]; exact hs.rep x)
    have h2 := rep_int (by rw [← hy]; exact hs.rep y)
    refine ⟨r, ?_, .c hrc⟩
    rw [h1, h2]
    have hg : eqGuard op t x y (.int k a) (.int k' b) = pure () := by unfold eqGuard; split <;> rfl
    rw [hg, hb]
    rfl
   split at h
   · obtain ⟨h0, h⟩ := h
     exact ⟨_, h, sh _ _ (by simp only [binOp, Op.shift]; rw [if_neg (by omega)]) (.int _ _)⟩
   · obtain ⟨h0, h⟩ := h
     exact ⟨_, h, sh _ _ (by simp only [binOp, Op.shift]; rw [if_neg (by omega)]) (.int _ _)⟩
   · rename_i hn1 hn2
     split at h
     · rename_i hk
       obtain rfl := eqK_eq hk
       unfold binI at h
       split at h
       · exact ⟨_, h, sh _ _ (by simp [binOp, Op.intArith]) (.int _ _)⟩
       · exact ⟨_, h, sh _ _ (by simp [binOp, Op.intArith]) (.int _ _)⟩
       · exact ⟨_, h, sh _ _ (by simp [binOp, Op.intArith]) (.int _ _)⟩
       · obtain ⟨h0, h⟩ := h
         exact ⟨_, h, sh _ _ (by simp [binOp, Op.intDiv, h0]) (.int _ _)⟩
       · obtain ⟨h0, h⟩ := h
         exact ⟨_, h, sh _ _ (by simp [binOp, Op.intDiv, h0]) (.int _ _)⟩
       · exact ⟨_, h, sh (.bool (decide (a = b))) _ (by simp only [binOp, Op.intCmp]; rw [show (a == b) = decide (a = b) from by rw [Bool.eq_iff_iff]; simp]; simp) (.bool _)⟩
       · exact ⟨_, h, sh (.bool (!decide (a = b))) _ (by simp only [binOp, Op.intCmp]; rw [show (a != b) = !decide (a = b) from by rw [Bool.eq_iff_iff]; simp]; simp) (.bool _)⟩
       · exact ⟨_, h, sh _ _ (by simp [binOp, Op.intCmp]) (.bool _)⟩
       · exact ⟨_, h, sh _ _ (by simp [binOp, Op.intCmp]) (.bool _)⟩
       · exact ⟨_, h, sh _ _ (by simp [binOp, Op.intCmp]) (.bool _)⟩
       · exact ⟨_, h, sh _ _ (by simp [binOp, Op.intCmp]) (.bool _)⟩
       · exact ⟨_, h, sh _ _ (by simp [binOp, Op.intBits]) (.int _ _)⟩
       · exact ⟨_, h, sh _ _ (by simp [binOp, Op.intBits]) (.int _ _)⟩
       · exact ⟨_, h, sh _ _ (by simp [binOp, Op.intBits]) (.int _ _)⟩
       · exact h.elim
     · exact h.elim
 · rename_i s s' hx hy
   have sh : ∀ (rc : C), (∀ (b b' : ByteArray), b.data.toList = s → b'.data.toList = s' → b.size ≤ 9223372036854775807 → b'.size ≤ 9223372036854775807 → ∃ r, Op.stringOp op b b' = pure r ∧ ∀ {F : Nat → Prop} {w : World}, RepC F w r rc) → Val P n o σ (σ.upd o.dst (.c rc) []) := by
    intro rc hb
    refine key _ (fun hs => ?_) (by simp [A.all])
    obtain ⟨b, h1, hb1, hb2⟩ := rep_str (by rw [← hx]; exact hs.rep x)
    obtain ⟨b', h2, hb1', hb2'⟩ := rep_str (by rw [← hy]; exact hs.rep y)
    obtain ⟨r, hr, hrc⟩ := hb b b' hb1 hb1' hb2 hb2'
    refine ⟨r, ?_, .c hrc⟩
    rw [h1, h2]
    have hg : eqGuard op t x y (.string b) (.string b') = pure () := by unfold eqGuard; split <;> rfl
    rw [hg]
    have : binOp op t (.string b) (.string b') = Op.stringOp op b b' := by cases op <;> rfl
    rw [this, hr]
    rfl
   have hsz : ∀ (b : ByteArray) (s : List UInt8), b.data.toList = s → b.size = s.length := by
    intro b s hb; rw [← hb, Array.length_toList]; rfl
   unfold binS at h
   split at h
   · obtain ⟨h0, h⟩ := h
     refine ⟨_, h, sh _ fun b b' h1 h2 _ _ => ⟨_, by simp only [Op.stringOp]; rw [if_neg (by rw [hsz b _ h1, hsz b' _ h2]; simp only [IntKind.max, IntKind.signed, IntKind.bits]; simp; omega)], ?_⟩⟩
     intro F w
     have := RepC.str (F := F) (w := w) (b ++ b') (by rw [ByteArray.size_append, hsz b _ h1, hsz b' _ h2]; exact h0)
     rwa [data_append', h1, h2] at this
   · refine ⟨_, h, sh _ fun b b' h1 h2 _ _ => ⟨.bool (decide (s = s')), ?_, .bool _⟩⟩
     simp only [Op.stringOp, str_toList, h1, h2]
     rw [show (s == s') = decide (s = s') from by rw [Bool.eq_iff_iff]; simp]
   · refine ⟨_, h, sh _ fun b b' h1 h2 _ _ => ⟨.bool (!decide (s = s')), ?_, .bool _⟩⟩
     simp only [Op.stringOp, str_toList, h1, h2]
     rw [show (s == s') = decide (s = s') from by rw [Bool.eq_iff_iff]; simp]
   · exact h.elim
 · split at h
   · rename_i p q htb hp hq
     refine ⟨_, h, key _ (fun hs => ?_) (by simp [A.all])⟩
     have h1 := rep_bool (hs.rep x) hp
     have h2 := rep_bool (hs.rep y) hq
     refine ⟨.bool (p == q), ?_, .c (.bool _)⟩
     rw [h1, h2]
     simp [eqGuard, binOp, beq_bool (hT := hT) htb]
   · rename_i p q htb hp hq
     refine ⟨_, h, key _ (fun hs => ?_) (by simp [A.all])⟩
     have h1 := rep_bool (hs.rep x) hp
     have h2 := rep_bool (hs.rep y) hq
     refine ⟨.bool (!(p == q)), ?_, .c (.bool _)⟩
     rw [h1, h2]
     simp [eqGuard, binOp, beq_bool (hT := hT) htb]
   · exact h.elim
theorem val_un {n : Nat} {o : Oper} (hd : ∀ d, o.dst = some d → d < n) {σ : St} {op : UnOp} {t : TypeId} {x : Operand} (ho : o.op = .unOp op t x) {K : A → Prop} (h : unA op (ev σ x) K) : ∃ r, K r ∧ Val P n o σ (σ.upd o.dst r []) := by
 unfold unA at h
 split at h
 · rename_i k a hx
   refine ⟨_, h, val_pure hd fun hs => ⟨⟨_, ?_, .c (.int _ _)⟩, by simp [A.all]⟩⟩
   have h1 := rep_int (by rw [← hx]; exact hs.rep x)
   simp [execOp, ho, h1, Op.unary, Op.intArith]
 · rename_i b hx
   refine ⟨_, h, val_pure hd fun hs => ⟨⟨_, ?_, .kb _⟩, by simp [A.all]⟩⟩
   have h1 := rep_bool (hs.rep x) (by rw [hx]; rfl)
   simp [execOp, ho, h1, Op.unary]
 · rename_i b hx
   refine ⟨_, h, val_pure hd fun hs => ⟨⟨_, ?_, .c (.bool _)⟩, by simp [A.all]⟩⟩
   have h1 := rep_bool (hs.rep x) (by rw [hx]; rfl)
   simp [execOp, ho, h1, Op.unary]
 · exact h.elim
theorem RepAs.get {F : Nat → Prop} {V : Nat → Value} {w : World} : ∀ {us : List Value} {l : List A}, RepAs F V w us l → ∀ {j : Nat} {a : A}, l[j]? = some a → ∃ u, us[j]? = some u ∧ RepA F V w u a
 | _, _, .nil, j, a, hj => by simp at hj
 | _, _, .cons h t, j, a, hj => by
   cases j with
   | zero => simp at hj; subst hj; exact ⟨_, by simp, h⟩
   | succ j => simp at hj; obtain ⟨u, hu, hr⟩ := RepAs.get t hj; exact ⟨u, by simpa using hu, hr⟩
theorem RepAs.length {F : Nat → Prop} {V : Nat → Value} {w : World} : ∀ {us : List Value} {l : List A}, RepAs F V w us l → us.length = l.length
 | _, _, .nil => rfl
 | _, _, .cons h t => by simp [RepAs.length t]
theorem RepAs.drop {F : Nat → Prop} {V : Nat → Value} {w : World} : ∀ {us : List Value} {l : List A}, RepAs F V w us l → ∀ n, RepAs F V w (us.drop n) (l.drop n)
 | _, _, .nil, n => by simpa using RepAs.nil
 | _, _, .cons h t, n => by
   cases n with
   | zero => exact .cons h t
   | succ n => exact RepAs.drop t n
theorem RepAs.take {F : Nat → Prop} {V : Nat → Value} {w : World} : ∀ {us : List Value} {l : List A}, RepAs F V w us l → ∀ n, RepAs F V w (us.take n) (l.take n)
 | _, _, .nil, n => by simpa using RepAs.nil
 | _, _, .cons h t, n => by
   cases n with
   | zero => exact .nil
   | succ n => exact .cons h (RepAs.take t n)
theorem RepAs.append {F : Nat → Prop} {V : Nat → Value} {w : World} : ∀ {us : List Value} {l : List A}, RepAs F V w us l → ∀ {us' : List Value} {l' : List A}, RepAs F V w us' l' → RepAs F V w (us ++ us') (l ++ l')
 | _, _, .nil, _, _, h' => h'
 | _, _, .cons h t, _, _, h' => .cons h (RepAs.append t h')
theorem RepL.toAs {F : Nat → Prop} {V : Nat → Value} {w : World} : ∀ {us : List Value} {l : List C}, RepL F w us l → RepAs F V w us (l.map .c)
 | _, _, .nil => .nil
 | _, _, .cons h t => .cons (.c h) (RepL.toAs t)
theorem allL_get {D : Nat → Prop} : ∀ {l : List A}, allL D l → ∀ {j : Nat} {a : A}, l[j]? = some a → a.all D
 | [], _, j, a, hj => by simp at hj
 | x :: l, h, j, a, hj => by
   simp only [allL] at h
   cases j with
   | zero => simp at hj; subst hj; exact h.1
   | succ j => simp at hj; exact allL_get h.2 hj
theorem allL_drop {D : Nat → Prop} : ∀ {l : List A}, allL D l → ∀ n, allL D (l.drop n)
 | [], h, n => by simpa using h
 | x :: l, h, n => by
   cases n with
   | zero => exact h
   | succ n => simp only [allL] at h; exact allL_drop h.2 n
theorem allL_take {D : Nat → Prop} : ∀ {l : List A}, allL D l → ∀ n, allL D (l.take n)
 | [], h, n => by simpa using h
 | x :: l, h, n => by
   cases n with
   | zero => simp [allL]
   | succ n => simp only [allL] at h; simp only [List.take_succ_cons, allL]; exact ⟨h.1, allL_take h.2 n⟩
theorem allL_c {D : Nat → Prop} : ∀ (l : List C), allL D (l.map .c)
 | [] => by simp [allL]
 | x :: l => by simp [allL, A.all, allL_c l]
theorem cellsOf_ok {F : Nat → Prop} {V : Nat → Value} {w : World} {l : List A} {us : List Value} (h : RepAs F V w us l) (h1 : ∀ u ∈ us, u.oneCell' = true) {o n : Nat} {agg : Bool} {a : A} (hc : cellsOf l o n agg = some a) : (agg = true ∧ RepA F V w (.agg ((us.drop o).take n).toArray) a ∧ o + n ≤ us.length) ∨ (agg = false ∧ ∃ u, us[o]? = some u ∧ RepA F V w u a) := by
 unfold cellsOf at hc
 cases agg with
 | false => simp at hc; exact .inr ⟨rfl, h.get hc⟩
 | true =>
   simp only at hc
   split at hc
   · rename_i hb
     cases hc
     exact .inl ⟨rfl, .ag ((h.drop o).take n) (fun u hu => h1 u (List.mem_of_mem_drop (List.mem_of_mem_take hu))), by rw [h.length]; exact Nat.le_of_ble_eq_true hb⟩
   · cases hc
theorem cellsOf_all {D : Nat → Prop} {l : List A} (h : allL D l) {o n : Nat} {agg : Bool} {a : A} (hc : cellsOf l o n agg = some a) : a.all D := by
 unfold cellsOf at hc
 cases agg with
 | false => simp at hc; exact allL_get h hc
 | true =>
   simp only at hc
   split at hc
   · cases hc; simp only [A.all]; exact allL_take (allL_drop h o) n
   · cases hc
theorem csOf_map {l : List C} {o n : Nat} {agg : Bool} : csOf l o n agg = cellsOf (l.map .c) o n agg := by
 unfold csOf cellsOf
 cases agg with
 | true => simp [List.map_drop, List.map_take]
 | false =>
   simp only [List.getElem?_map]
   cases l[o]? <;> rfl
theorem CellsAt.sub {w : World} {a : Addr} {us : List Value} (h : CellsAt w a us) (o n : Nat) : CellsAt w (a.add o) ((us.drop o).take n) := by
 intro j u hj
 rw [addr_add]
 have : us[o + j]? = some u := by
  rw [List.getElem?_take] at hj
  split at hj
  · simpa using hj
  · cases hj
 exact h _ _ this
theorem CellsAt.at_ {w : World} {a : Addr} {us : List Value} (h : CellsAt w a us) {o : Nat} {u : Value} (hu : us[o]? = some u) : w.cell? (a.add o) = some u := h o u hu
theorem run_load_cells {t : Nat} {i : TI} (hi : TOk P t i) {F : Nat → Prop} {V : Nat → Value} {w : World} {ad : Addr} {us : List Value} {l : List A} (hr : RepAs F V w us l) (h1 : ∀ u ∈ us, u.oneCell' = true) (hc : CellsAt w ad us) {o : Nat} {a : A} (ha : cellsOf l o i.sz i.k.agg = some a) :
 ∃ v, (Instr.loadAt t (.pointer (some (ad.add o)))).run P w = .ok v w ∧ RepA F V w v a := by
 rcases cellsOf_ok hr h1 ha with ⟨hk, hrep, hle⟩ | ⟨hk, u, hu, hrep⟩
 · exact ⟨_, run_loadn hi hk (by simp; omega) (hc.sub o i.sz), hrep⟩
 · exact ⟨_, run_load1 hi hk (hc.at_ hu), hrep⟩
theorem box_cells {w : World} {g : Nat} {vs : List Value} {t : TypeId} {fr : Nat × Nat} (hg : w.heap[g]? = some (.cells vs.toArray t fr)) : CellsAt w ⟨g, 0, none⟩ vs := by
 intro j u hj
 rw [add_at', Nat.zero_add]
 simp [World.cell?, hg, hj]
theorem flat_get (e : Ty) : ∀ (xs : List (El e)) (i : Nat) (x : El e), xs[i]? = some x → ((xs.flatMap (cells e)).drop (i * szE e)).take (szE e) = cells e x
 | [], i, x, h => by simp at h
 | y :: xs, i, x, h => by
   cases i with
   | zero =>
     simp at h
     subst h
     simp only [List.flatMap_cons, Nat.zero_mul, List.drop_zero]
     rw [List.take_append_of_le_length (by rw [cells_len]; exact Nat.le_refl _), List.take_of_length_le (by rw [cells_len]; exact Nat.le_refl _)]
   | succ i =>
     simp at h
     simp only [List.flatMap_cons]
     rw [Nat.succ_mul, Nat.add_comm, ← List.drop_drop]
     rw [List.drop_left' (cells_len e y)]
     exact flat_get e xs i x h
theorem flat_len (e : Ty) (xs : List (El e)) : (xs.flatMap (cells e)).length = xs.length * szE e := by
 induction xs with
 | nil => simp
 | cons x xs ih => simp [List.flatMap_cons, ih, cells_len, Nat.add_mul, Nat.add_comm]
theorem getD_some {α : Type} {xs : List α} {i : Nat} (h : i < xs.length) (d : α) : xs[i]? = some (xs.getD i d) := by
 rw [List.getD_eq_getElem?_getD, List.getElem?_eq_getElem h]; rfl
theorem unL_map (cs : List C) : unL cs = cs.map unC := by
 induction cs with
 | nil => rfl
 | cons c cs ih => simp [unL, ih]
theorem unL_rep {F : Nat → Prop} {V : Nat → Value} {w : World} : ∀ {us : List Value} {cs : List C} {bs : List Nat}, OwnL w us cs bs → RepAs F V w us (unL cs)
 | _, _, _, .nil => .nil
 | _, _, _, .cons h t hd => .cons (by
    cases h with
    | int k n => exact .c (.int k n)
    | bool b => exact .c (.bool b)
    | str s hs => exact .c (.str s hs)
    | sl e xs v us bs _ _ _ _ => exact .un _) (unL_rep t)
theorem allL_un {D : Nat → Prop} (cs : List C) : allL D (unL cs) := by
 induction cs with
 | nil => simp [unL, allL]
 | cons c cs ih => cases c <;> simp [unL, unC, allL, A.all, ih]
theorem val_load (hT : ∀ t i, get T t = some i → TOk P t i) {n : Nat} {o : Oper} (hd : ∀ d, o.dst = some d → d < n) {σ : St} {t : TypeId} {p : Operand} {i : TI} (hi : get T t = some i) (ho : o.op = .load t p) {h : Nat → Option Ob} (hag : ∀ id ∈ rdOf (ev σ p), get σ.hp id = h id) {K : A → Prop} (hv : loadA h (ev σ p) i.sz i.k.agg K) : ∃ r, K r ∧ Val P n o σ (σ.upd o.dst r []) := by
 have hi' := hT t i hi
 unfold loadA at hv
 split at hv
 · rename_i id o' hp
   have hag' := hag id (by rw [hp]; simp [rdOf])
   split at hv
   · rename_i cs hcs
     rw [← hag'] at hcs
     split at hv
     · rename_i a ha
       refine ⟨_, hv, val_pure hd fun hs => ?_⟩
       have hob := hs.hp.ob id _ hcs
       have hids := hs.hp.ids id _ hcs
       cases hob with
       | box _ g vs bt hV hg hr h1 =>
         obtain ⟨v, hv1, hv2⟩ := run_load_cells hi' hr h1 (box_cells hg) ha
         refine ⟨⟨v, ?_, hv2⟩, cellsOf_all hids ha⟩
         have hpe := hs.rep p
         rw [hp] at hpe
         generalize hpv : Act.eval _ p = pv at hpe
         cases hpe with
         | pt _ _ g' hV' =>
           rw [hV] at hV'
           cases hV'
           simp only [execOp, ho, hpv]
           rw [add_at', Nat.zero_add] at hv1
           simp [hv1]
     · exact hv.elim
   · exact hv.elim
 · rename_i e x o' hp
   split at hv
   · rename_i a ha
     refine ⟨_, hv, val_pure hd fun hs => ?_⟩
     rw [csOf_map] at ha
     refine ⟨?_, cellsOf_all (allL_c _) ha⟩
     have hpe := hs.rep p
     rw [hp] at hpe
     generalize hpv : Act.eval _ p = pv at hpe
     cases hpe with
     | el _ _ _ ad us hF hc hr =>
       obtain ⟨v, hv1, hv2⟩ := run_load_cells (V := by assumption) hi' hr.toAs hr.one hc ha
       exact ⟨v, by simp [execOp, ho, hpv, hv1], hv2⟩
   · exact hv.elim
 · rename_i sz id j o' hp
   have hag' := hag id (by rw [hp]; simp [rdOf])
   split at hv
   · rename_i e xs hcs
     rw [← hag'] at hcs
     split at hv
     · rename_i hsz
       have hsz := Nat.eq_of_beq_eq_true hsz
       obtain ⟨hj, hv⟩ := hv
       split at hv
       · rename_i a ha
         refine ⟨_, hv, val_pure hd fun hs => ?_⟩
         rw [csOf_map] at ha
         refine ⟨?_, cellsOf_all (allL_c _) ha⟩
         have hob := hs.hp.ob id _ hcs
         have hpe := hs.rep p
         rw [hp] at hpe
         generalize hpv : Act.eval _ p = pv at hpe
         cases hob with
         | row _ _ us hown hr hb =>
           cases hpe with
           | re _ _ _ _ g n' cap hV =>
             obtain ⟨A0, c, hVc, hle, hA⟩ := hown.cells
             obtain ⟨g1, rfl, _, hcell⟩ := hA (by omega)
             rw [hV] at hVc
             cases hVc
             have hsub := hcell.sub (j * szE e) (szE e)
             have hrs := (hr.drop (j * szE e)).take (szE e)
             rw [flat_get e xs j _ (getD_some hj (dflt e))] at hrs
             obtain ⟨v, hv1, hv2⟩ := run_load_cells (V := by assumption) hi' hrs.toAs hrs.one hsub ha
             refine ⟨v, ?_, hv2⟩
             rw [addr_add, add_at', Nat.zero_add] at hv1
             subst hsz
             simp [execOp, ho, hpv, hv1]
       · exact hv.elim
     · exact hv.elim
   · rename_i e xs hcs
     rw [← hag'] at hcs
     split at hv
     · rename_i hsz
       have hsz := Nat.eq_of_beq_eq_true hsz
       obtain ⟨hj, hv⟩ := hv
       split at hv
       · rename_i a ha
         refine ⟨_, hv, val_pure hd fun hs => ?_⟩
         refine ⟨?_, cellsOf_all (allL_un _) ha⟩
         have hob := hs.hp.ob id _ hcs
         have hpe := hs.rep p
         rw [hp] at hpe
         generalize hpv : Act.eval _ p = pv at hpe
         cases hob with
         | dp _ _ hown =>
           obtain ⟨us, b0, _, hro, hr, _, _⟩ := hown.inv
           cases hpe with
           | re _ _ _ _ g n' cap hV =>
             obtain ⟨A0, c, hVc, hle, hA⟩ := hro.cells
             obtain ⟨g1, rfl, _, hcell⟩ := hA (by omega)
             rw [hV] at hVc
             cases hVc
             have hsub := hcell.sub (j * szE e) (szE e)
             have hrs := ((unL_rep (F := by assumption) (V := by assumption) hr).drop (j * szE e)).take (szE e)
             rw [unL_map, ← List.map_drop, ← List.map_take, flat_get e xs j _ (getD_some hj (dflt e)), ← unL_map] at hrs
             have hone : ∀ u ∈ (us.drop (j * szE e)).take (szE e), u.oneCell' = true := fun u hu => hr.one u (List.mem_of_mem_drop (List.mem_of_mem_take hu))
             obtain ⟨v, hv1, hv2⟩ := run_load_cells (V := by assumption) hi' hrs hone hsub ha
             refine ⟨v, ?_, hv2⟩
             rw [addr_add, add_at', Nat.zero_add] at hv1
             subst hsz
             simp [execOp, ho, hpv, hv1]
       · exact hv.elim
     · exact hv.elim
   · rename_i e pre cs post hcs
     rw [← hag'] at hcs
     split at hv
     · rename_i hsz
       have hsz := Nat.eq_of_beq_eq_true hsz
       obtain ⟨hj, hv⟩ := hv
       subst hj
       split at hv
       · rename_i a ha
         refine ⟨_, hv, val_pure hd fun hs => ?_⟩
         have hob := hs.hp.ob id _ hcs
         have hids := hs.hp.ids id _ hcs
         refine ⟨?_, cellsOf_all hids ha⟩
         have hpe := hs.rep p
         rw [hp] at hpe
         generalize hpv : Act.eval _ p = pv at hpe
         cases hob with
         | fo _ _ _ _ us1 vs us2 b1 b2 _ hcl hro hr1 hr2 hv0 h1 _ _ =>
           cases hpe with
           | re _ _ _ _ g n' cap hV =>
             obtain ⟨A0, c, hVc, hle, hA⟩ := hro.cells
             obtain ⟨g1, rfl, _, hcell⟩ := hA (by omega)
             rw [hV] at hVc
             cases hVc
             have hsub := hcell.sub (pre.length * szE e) (szE e)
             have hl1 : us1.length = pre.length * szE e := by rw [hr1.length, flat_len]
             have hl2 : vs.length = szE e := by rw [hv0.length, hcl]
             rw [List.drop_left' hl1, List.take_left' hl2] at hsub
             obtain ⟨v, hv1, hv2⟩ := run_load_cells (V := by assumption) hi' hv0 h1 hsub ha
             refine ⟨v, ?_, hv2⟩
             rw [addr_add, add_at', Nat.zero_add] at hv1
             subst hsz
             simp [execOp, ho, hpv, hv1]
       · exact hv.elim
     · exact hv.elim
   · exact hv.elim
 · exact hv.elim
end Go.Proofs.YthbpdhppelaihaaGreat
/- The conditions of F4 are sound: addresses, indexes, lengths, conversions, literals of structs. Conditions: none. -/
namespace Go.Proofs.YthbpdhppelaihaaGreat
open Go.RowKit
variable {P : Program} {T : List (Nat × TI)}
theorem val_nil {n : Nat} {o : Oper} (hd : ∀ d, o.dst = some d → d < n) {σ : St} {x : Operand} (ho : o.op = .nilCheck x) (h : (∃ id o', ev σ x = .pt id o') ∨ (∃ e y o', ev σ x = .el e y o') ∨ (∃ s i j o', ev σ x = .re s i j o') ∨ ∃ f l, ev σ x = .fn f l) : Val P n o σ (σ.upd o.dst (ev σ x) []) := by
 refine val_pure hd fun hs => ⟨?_, hs.repIds x⟩
 have hr := hs.rep x
 generalize hpv : Act.eval _ x = pv at hr
 have hr' := hr
 rcases h with ⟨id, o', hx⟩ | ⟨e, y, o', hx⟩ | ⟨s, i, j, o', hx⟩ | ⟨f, l, hx⟩ <;> rw [hx] at hr <;> cases hr <;> exact ⟨_, by simp [execOp, ho, hpv], hr'⟩
theorem val_fieldAddr (hT : ∀ t i, get T t = some i → TOk P t i) {n : Nat} {o : Oper} (hd : ∀ d, o.dst = some d → d < n) {σ : St} {t f off ft : Nat} {x : Operand} {i fi : TI} {fs : List (Nat × Nat)} (hi : get T t = some i) (hk : i.k = .st fs) (hf : fs[f]? = some (off, ft)) (hfi : get T ft = some fi) (hz : Nat.beq fi.sz 0 = false) (ho : o.op = .fieldAddr t x f) {K : A → Prop} (h : fieldA (ev σ x) off K) : ∃ r, K r ∧ Val P n o σ (σ.upd o.dst r []) := by
 have hz' : fi.sz ≠ 0 := fun e => by rw [e] at hz; cases hz
 have run : ∀ (ad : Addr) (w : World), (Instr.fieldAt t (.pointer (some ad)) f).run P w = .ok (.pointer (some (ad.add off))) w := fun ad w => run_fieldAt_ (hT t i hi) hk hf (hT ft fi hfi) hz' ad
 unfold fieldA at h
 split at h
 · rename_i id o' hx
   refine ⟨_, h, val_pure hd fun hs => ?_⟩
   have hr := hs.rep x
   have hids := hs.repIds x
   rw [hx] at hr hids
   generalize hpv : Act.eval _ x = pv at hr
   cases hr with
   | pt _ _ g hV =>
     refine ⟨⟨_, by simp [execOp, ho, hpv, run]; rfl, ?_⟩, by simpa [A.all] using hids⟩
     rw [add_at']
     exact .pt _ _ g hV
 · rename_i e y o' hx
   refine ⟨_, h, val_pure hd fun hs => ?_⟩
   have hr := hs.rep x
   rw [hx] at hr
   generalize hpv : Act.eval _ x = pv at hr
   cases hr with
   | el _ _ _ ad us hF hc hrr =>
     refine ⟨⟨_, by simp [execOp, ho, hpv, run]; rfl, ?_⟩, by simp [A.all]⟩
     rw [addr_add]
     exact .el e y _ ad us hF hc hrr
 · rename_i s id j o' hx
   refine ⟨_, h, val_pure hd fun hs => ?_⟩
   have hr := hs.rep x
   have hids := hs.repIds x
   rw [hx] at hr hids
   generalize hpv : Act.eval _ x = pv at hr
   cases hr with
   | re _ _ _ _ g n' cap hV =>
     refine ⟨⟨_, by simp [execOp, ho, hpv, run]; rfl, ?_⟩, by simpa [A.all] using hids⟩
     rw [add_at', Nat.add_assoc]
     exact .re _ _ _ _ g n' cap hV
 · exact h.elim
theorem val_field (hT : ∀ t i, get T t = some i → TOk P t i) {n : Nat} {o : Oper} (hd : ∀ d, o.dst = some d → d < n) {σ : St} {t f off ft : Nat} {x : Operand} {i fi : TI} {fs : List (Nat × Nat)} (hi : get T t = some i) (hk : i.k = .st fs) (hf : fs[f]? = some (off, ft)) (hfi : get T ft = some fi) (ho : o.op = .field t x f) {l : List A} (hx : ev σ x = .ag l) {a : A} (ha : cellsOf l off fi.sz fi.k.agg = some a) : Val P n o σ (σ.upd o.dst a []) := by
 refine val_pure hd fun hs => ?_
 have hr := hs.rep x
 have hids := hs.repIds x
 rw [hx] at hr hids
 generalize hpv : Act.eval _ x = pv at hr
 refine ⟨?_, cellsOf_all (by simpa [A.all] using hids) ha⟩
 have hdsc := (hT t i hi).desc
 rw [hk] at hdsc
 obtain ⟨fields, hu, hm⟩ := hdsc
 rw [← hm, List.getElem?_map, Array.getElem?_toList] at hf
 cases hr with
 | ag hr h1 =>
   rename_i us
   cases hfe : fields[f]? with
   | none => rw [hfe] at hf; simp at hf
   | some fe =>
     rw [hfe] at hf
     simp at hf
     obtain ⟨rfl, rfl⟩ := hf
     rcases cellsOf_ok hr h1 ha with ⟨hka, hrep, hle⟩ | ⟨hka, u, hu', hrep⟩
     · have hp := fun w => run_part (P := P) (w := w) (hT _ fi hfi) (us := us) (o := fe.offset) (by omega) (fun h => by rw [hka] at h; cases h)
       rw [hka] at hp
       exact ⟨_, by simp [execOp, ho, hpv, Instr.field, run_underlying hu, hfe, asAgg, hp], hrep⟩
     · have hp := fun w => run_part (P := P) (w := w) (hT _ fi hfi) (us := us) (o := fe.offset) 
       have hsz : (part fe.type us.toArray fe.offset).run P = fun w => .ok u w := by
        funext w
        simp [part, agg_of P (hT _ fi hfi).desc w, hka, hu']
       exact ⟨_, by simp [execOp, ho, hpv, Instr.field, run_underlying hu, hfe, asAgg, hsz], hrep⟩
theorem val_extract {n : Nat} {o : Oper} (hd : ∀ d, o.dst = some d → d < n) {σ : St} {x : Operand} {j : Nat} (ho : o.op = .extract x j) {l : List A} (hx : ev σ x = .tp l) {a : A} (ha : l[j]? = some a) : Val P n o σ (σ.upd o.dst a []) := by
 refine val_pure hd fun hs => ?_
 have hr := hs.rep x
 have hids := hs.repIds x
 rw [hx] at hr hids
 generalize hpv : Act.eval _ x = pv at hr
 refine ⟨?_, allL_get (by simpa [A.all] using hids) ha⟩
 cases hr with
 | tp hr =>
   obtain ⟨u, hu, hrep⟩ := hr.get ha
   exact ⟨u, by simp [execOp, ho, hpv, Instr.extract, hu], hrep⟩
theorem evs_rep {n : Nat} {w0 : World} {L0 : Old} {F0 F : Nat → Prop} {V : Nat → Value} {B : Nat → List Nat} {σ : St} {a : Act} {w : World} (hs : Sim n w0 L0 F0 F V B σ a w) : ∀ (l : List Operand), RepAs F V w (l.map a.eval) (l.map (ev σ)) ∧ allL (Def σ.hp) (l.map (ev σ))
 | [] => ⟨.nil, by simp [allL]⟩
 | x :: l => ⟨.cons (hs.rep x) (evs_rep hs l).1, by simp only [List.map_cons, allL]; exact ⟨hs.repIds x, (evs_rep hs l).2⟩⟩
theorem val_makeFunc {n : Nat} {o : Oper} (hd : ∀ d, o.dst = some d → d < n) {σ : St} {f : Nat} {first caps : Array Operand} (hf : first.toList = []) (ho : o.op = .makeFunc (.func f) first caps) : Val P n o σ (σ.upd o.dst (.fn f (caps.toList.map (ev σ))) []) := by
 refine val_pure hd fun {w0 L0 F0 F V B a w} hs => ?_
 obtain ⟨h1, h2⟩ := evs_rep hs caps.toList
 have : first = #[] := by cases first; simp_all
 subst this
 have h3 := RepA.fn f h1
 refine ⟨⟨_, ?_, h3⟩, by simpa [A.all] using h2⟩
 obtain ⟨l⟩ := caps
 simp [execOp, ho, Instr.makeFunc]
theorem val_index (hT : ∀ t i, get T t = some i → TOk P t i) {n : Nat} {o : Oper} (hd : ∀ d, o.dst = some d → d < n) {σ : St} {t : Nat} {x j : Operand} {i : TI} (hi : get T t = some i) (hk : i.k = .str) (ho : o.op = .index t x j) {K : A → Prop} (h : indexS (ev σ x) (ev σ j) K) : ∃ r, K r ∧ Val P n o σ (σ.upd o.dst r []) := by
 unfold indexS at h
 split at h
 · rename_i s k m hx hj
   obtain ⟨⟨h0, h1⟩, h⟩ := h
   refine ⟨_, h, val_pure hd fun hs => ⟨?_, by simp [A.all]⟩⟩
   have hj' := rep_int (by rw [← hj]; exact hs.rep j)
   obtain ⟨b, hb, hbs, _⟩ := rep_str (by rw [← hx]; exact hs.rep x)
   have hdsc := (hT t i hi).desc
   rw [hk] at hdsc
   simp only [TK.desc] at hdsc
   have hsz : b.size = s.length := by rw [← hbs, Array.length_toList]; rfl
   have hlt : m.toNat < b.size := by rw [hsz]; omega
   have hget : b[m.toNat]? = some (s.getD m.toNat 0) := by
    have e1 : b[m.toNat]? = some (b[m.toNat]'hlt) := getElem?_pos b m.toNat hlt
    rw [e1]
    congr 1
    subst hbs
    have hlt' : m.toNat < b.data.toList.length := by rw [Array.length_toList]; exact hlt
    rw [List.getD_eq_getElem?_getD, List.getElem?_eq_getElem hlt']
    rfl
   refine ⟨_, ?_, .c (.int _ _)⟩
   simp only [execOp, ho, hj', hb]
   simp [Instr.index, asIntOf, run_underlying hdsc, h0, hget]
 · exact h.elim
theorem isRow_rep {n : Nat} {w0 : World} {L0 : Old} {F0 F : Nat → Prop} {V : Nat → Value} {B : Nat → List Nat} {σ : St} {a : Act} {w : World} (hs : Sim n w0 L0 F0 F V B σ a w) {x : Operand} {h : Nat → Option Ob} (hag : ∀ id ∈ rdOf (ev σ x), get σ.hp id = h id) {e : Ty} {xs : List (El e)} (hr : isRow h (ev σ x) = some ⟨e, xs⟩) :
 ∃ (A0 : Option Addr) (c : Nat) (us : List Value), a.eval x = .slice A0 xs.length c ∧ xs.length ≤ c ∧ xs.length * byE e ≤ 140737488355328 ∧ RepL F w us (xs.flatMap (cells e)) ∧ (0 < xs.length → ∃ ad, A0 = some ad ∧ CellsAt w ad us) := by
 have hrep := hs.rep x
 unfold isRow at hr
 split at hr
 · rename_i e' xs' hx
   cases hr
   rw [hx] at hrep
   generalize hpv : Act.eval _ x = pv at hrep
   cases hrep with
   | c h0 =>
     cases h0 with
     | sl _ _ A0 c us hc hb hA hr => exact ⟨A0, c, us, rfl, hc, hb, hr, fun hp => by obtain ⟨ad, h1, _, h2⟩ := hA hp; exact ⟨ad, h1, h2⟩⟩
 · rename_i id hx
   have hag' := hag id (by rw [hx]; simp [rdOf])
   rw [hx] at hrep
   generalize hpv : Act.eval _ x = pv at hrep
   split at hr
   · rename_i e' xs' hcs
     cases hr
     rw [← hag'] at hcs
     have hob := hs.hp.ob id _ hcs
     cases hrep
     cases hob with
     | row _ _ us hown hr hb =>
       obtain ⟨A0, c, h1, hle, hA⟩ := hown.cells
       exact ⟨A0, c, us, h1, hle, hb, hr, fun hp => by obtain ⟨g, h2, _, h3⟩ := hA hp; exact ⟨_, h2, h3⟩⟩
   · rename_i e' xs' hcs
     cases hr
     rw [← hag'] at hcs
     have hob := hs.hp.ob id _ hcs
     cases hrep
     cases hob with
     | fz _ _ h0 =>
       generalize V id = vv at h0
       cases h0 with
       | sl _ _ A0 c us hc hb hA hr => exact ⟨A0, c, us, rfl, hc, hb, hr, fun hp => by obtain ⟨ad, h1, _, h2⟩ := hA hp; exact ⟨ad, h1, h2⟩⟩
   · cases hr
 · cases hr
theorem isRowD_rep {n : Nat} {w0 : World} {L0 : Old} {F0 F : Nat → Prop} {V : Nat → Value} {B : Nat → List Nat} {σ : St} {a : Act} {w : World} (hs : Sim n w0 L0 F0 F V B σ a w) {x : Operand} {h : Nat → Option Ob} (hag : ∀ id ∈ rdOf (ev σ x), get σ.hp id = h id) {e : Ty} {xs : List (El e)} (hr : isRowD h (ev σ x) = some ⟨e, xs⟩) :
 ∃ (A0 : Option Addr) (c : Nat), a.eval x = .slice A0 xs.length c ∧ xs.length ≤ c ∧ xs.length * byE e ≤ 140737488355328 := by
 have key : isRow h (ev σ x) = some ⟨e, xs⟩ ∨ (∃ id, ev σ x = .rw id ∧ h id = some (.dp e xs)) ∨ ∃ id pre cs post, ev σ x = .rw id ∧ h id = some (.fo e pre cs post) ∧ xs = pre ++ dflt e :: post := by
  unfold isRowD at hr
  split at hr
  · rename_i hx; cases hr; exact .inl (by rw [hx]; rfl)
  · rename_i id hx
    split at hr
    · rename_i hg; cases hr; exact .inl (by rw [hx]; simp [isRow, hg])
    · rename_i hg; cases hr; exact .inl (by rw [hx]; simp [isRow, hg])
    · rename_i hg; cases hr; exact .inr (.inl ⟨id, hx, hg⟩)
    · rename_i hg; cases hr; exact .inr (.inr ⟨id, _, _, _, hx, hg, rfl⟩)
    · cases hr
  · cases hr
 rcases key with hr | ⟨id, hx, hg⟩ | ⟨id, pre, cs, post, hx, hg, rfl⟩
 · obtain ⟨A0, c, us, h1, h2, h3, _⟩ := isRow_rep hs hag hr
   exact ⟨A0, c, h1, h2, h3⟩
 · have hrep := hs.rep x
   have hag' := hag id (by rw [hx]; simp [rdOf])
   rw [hx] at hrep
   rw [← hag'] at hg
   generalize hpv : Act.eval _ x = pv at hrep
   have hob := hs.hp.ob id _ hg
   cases hrep
   cases hob with
   | dp _ _ hown =>
     obtain ⟨us, b0, hb, hro, _⟩ := hown.inv
     obtain ⟨A0, c, h1, hle, _⟩ := hro.cells
     exact ⟨A0, c, h1, hle, hb⟩
 · have hrep := hs.rep x
   have hag' := hag id (by rw [hx]; simp [rdOf])
   rw [hx] at hrep
   rw [← hag'] at hg
   generalize hpv : Act.eval _ x = pv at hrep
   have hob := hs.hp.ob id _ hg
   have hlen : (pre ++ dflt e :: post).length = pre.length + (1 + post.length) := by simp; omega
   cases hrep
   cases hob with
   | fo _ _ _ _ us1 vs us2 b1 b2 hb hc hro hr1 hr2 hv h1 hB hn =>
     obtain ⟨A0, c, h1, hle, _⟩ := hro.cells
     rw [hlen]
     exact ⟨A0, c, h1, hle, hb⟩
theorem isRowD_nn {n : Nat} {w0 : World} {L0 : Old} {F0 F : Nat → Prop} {V : Nat → Value} {B : Nat → List Nat} {σ : St} {a : Act} {w : World} (hs : Sim n w0 L0 F0 F V B σ a w) {x : Operand} {h : Nat → Option Ob} (hag : ∀ id ∈ rdOf (ev σ x), get σ.hp id = h id) {e : Ty} {xs : List (El e)} (hr : isRowD h (ev σ x) = some ⟨e, xs⟩) :
 ∃ (A0 : Option Addr) (c : Nat), a.eval x = .slice A0 xs.length c ∧ (0 < xs.length → ∃ ad, A0 = some ad) := by
 have key : isRow h (ev σ x) = some ⟨e, xs⟩ ∨ (∃ id, ev σ x = .rw id ∧ h id = some (.dp e xs)) ∨ ∃ id pre cs post, ev σ x = .rw id ∧ h id = some (.fo e pre cs post) ∧ xs = pre ++ dflt e :: post := by
  unfold isRowD at hr
  split at hr
  · rename_i hx; cases hr; exact .inl (by rw [hx]; rfl)
  · rename_i id hx
    split at hr
    · rename_i hg; cases hr; exact .inl (by rw [hx]; simp [isRow, hg])
    · rename_i hg; cases hr; exact .inl (by rw [hx]; simp [isRow, hg])
    · rename_i hg; cases hr; exact .inr (.inl ⟨id, hx, hg⟩)
    · rename_i hg; cases hr; exact .inr (.inr ⟨id, _, _, _, hx, hg, rfl⟩)
    · cases hr
  · cases hr
 rcases key with hr | ⟨id, hx, hg⟩ | ⟨id, pre, cs, post, hx, hg, rfl⟩
 · obtain ⟨A0, c, us, h1, h2, h3, _, h4⟩ := isRow_rep hs hag hr
   exact ⟨A0, c, h1, fun hp => by obtain ⟨ad, h5, _⟩ := h4 hp; exact ⟨ad, h5⟩⟩
 · have hrep := hs.rep x
   have hag' := hag id (by rw [hx]; simp [rdOf])
   rw [hx] at hrep
   rw [← hag'] at hg
   generalize hpv : Act.eval _ x = pv at hrep
   have hob := hs.hp.ob id _ hg
   cases hrep
   cases hob with
   | dp _ _ hown =>
     obtain ⟨us, b0, hb, hro, _⟩ := hown.inv
     obtain ⟨A0, c, h1, hle, h4⟩ := hro.cells
     exact ⟨A0, c, h1, fun hp => by obtain ⟨ad, h5, _⟩ := h4 hp; exact ⟨_, h5⟩⟩
 · have hrep := hs.rep x
   have hag' := hag id (by rw [hx]; simp [rdOf])
   rw [hx] at hrep
   rw [← hag'] at hg
   generalize hpv : Act.eval _ x = pv at hrep
   have hob := hs.hp.ob id _ hg
   have hlen : (pre ++ dflt e :: post).length = pre.length + (1 + post.length) := by simp; omega
   cases hrep
   cases hob with
   | fo _ _ _ _ us1 vs us2 b1 b2 hb hc hro hr1 hr2 hv h1 hB hn =>
     obtain ⟨A0, c, h1, hle, h4⟩ := hro.cells
     rw [hlen]
     exact ⟨A0, c, h1, fun hp => by obtain ⟨ad, h5, _⟩ := h4 hp; exact ⟨_, h5⟩⟩
theorem und_sl {t et : Nat} {i : TI} {e : Ty} (h : TOk P t i) (hk : i.k = .sl e et) : P.underlying t = some (.slice et) := by
 have := h.desc; rw [hk] at this; exact this
def Real (n : Nat) (σ : St) : Prop := ∃ (w0 : World) (L0 : Old) (F0 F : Nat → Prop) (V : Nat → Value) (B : Nat → List Nat) (a : Act) (w : World), Sim n w0 L0 F0 F V B σ a w
theorem Real.step {n : Nat} {σ σ' : St} {o : Oper} (h : Real n σ) (hv : Val P n o σ σ') : Real n σ' := by
 obtain ⟨w0, L0, F0, F, V, B, a, w, hs⟩ := h
 have := hv hs (fun _ _ => Real n σ') (fun _ _ _ => False) (fun F' V' B' a' w' h' => ⟨w0, L0, F0, F', V', B', a', w', h'⟩)
 unfold Oper.wp at this
 generalize (execOp a.eval o).run P w = r at this
 cases r with
 | ok x w' =>
   cases x <;> simp only [Oper.upon] at this
   case value => exact this
   case skip => exact this
   case defer => exact this
   case enter f args =>
    obtain ⟨e, w'', fr, hr, _⟩ := this []
    cases e with
    | returned v => exact hr
    | panicked c => exact hr.elim
    | outgrown => obtain ⟨_, _, h⟩ := hr; exact h.elim
   case row row args =>
    obtain ⟨v, w'', hr, _⟩ := this default []
    exact hr
 | halt x w' => cases x <;> simp only [Oper.upon] at this
theorem real_bound {n : Nat} {σ : St} (h : Real n σ) {x : Operand} {e : Ty} {xs : List (El e)} (hr : isRow (get σ.hp) (ev σ x) = some ⟨e, xs⟩) : xs.length * byE e ≤ 140737488355328 := by
 obtain ⟨w0, L0, F0, F, V, B, a, w, hs⟩ := h
 obtain ⟨_, _, _, _, _, hb, _⟩ := isRow_rep hs (fun _ _ => rfl) hr
 exact hb
theorem real_boundD {n : Nat} {σ : St} (h : Real n σ) {x : Operand} {e : Ty} {xs : List (El e)} (hr : isRowD (get σ.hp) (ev σ x) = some ⟨e, xs⟩) : xs.length * byE e ≤ 140737488355328 := by
 obtain ⟨w0, L0, F0, F, V, B, a, w, hs⟩ := h
 obtain ⟨_, _, _, _, hb⟩ := isRowD_rep hs (fun _ _ => rfl) hr
 exact hb
theorem real_str {n : Nat} {σ : St} (h : Real n σ) {x : Operand} {s : List UInt8} (hr : ev σ x = .c (.str s)) : s.length ≤ 9223372036854775807 := by
 obtain ⟨w0, L0, F0, F, V, B, a, w, hs⟩ := h
 obtain ⟨b, _, hb, hsz⟩ := rep_str (by rw [← hr]; exact hs.rep x)
 rw [← hb, Array.length_toList]
 exact hsz
theorem run_len {n : Nat} {o : Oper} {t et : Nat} {x : Operand} {c : Call} (hc : c.callee = .builtin .len) (hca : c.args.toList = [x]) (hct : c.argTypes.toList = [t]) (hu : P.underlying t = some (.slice et)) (ho : o.op = .call c) {A0 : Option Addr} {m cc : Nat} {a : Act} {w : World} (he : a.eval x = .slice A0 m cc) : (execOp a.eval o).run P w = .ok (.value (.int .i64 m)) w := by
 obtain ⟨callee, args, argTypes⟩ := c
 obtain rfl : args = #[x] := by cases args; simp_all
 obtain rfl : argTypes = #[t] := by cases argTypes; simp_all
 simp only at hc
 subst hc
 simp [execOp, ho, resolve, invoke, builtin, he, Builtin.len_, run_underlying hu, goInt]
theorem val_len_row {n : Nat} {o : Oper} (hd : ∀ d, o.dst = some d → d < n) {σ : St} {t et : Nat} {x : Operand} {c : Call} (hc : c.callee = .builtin .len) (hca : c.args.toList = [x]) (hct : c.argTypes.toList = [t]) (hu : P.underlying t = some (.slice et)) (ho : o.op = .call c) {h : Nat → Option Ob} (hag : ∀ id ∈ rdOf (ev σ x), get σ.hp id = h id) {e : Ty} {xs : List (El e)} (hr : isRowD h (ev σ x) = some ⟨e, xs⟩) : Val P n o σ (σ.upd o.dst (.c (.int .i64 xs.length)) []) :=
 val_pure hd fun hs => by
  obtain ⟨A0, c, he, _⟩ := isRowD_rep hs hag hr
  exact ⟨⟨_, run_len (n := n) hc hca hct hu ho he, .c (.int _ _)⟩, by simp [A.all]⟩
theorem val_len_nl {n : Nat} {o : Oper} (hd : ∀ d, o.dst = some d → d < n) {σ : St} {t et : Nat} {x : Operand} {c : Call} (hc : c.callee = .builtin .len) (hca : c.args.toList = [x]) (hct : c.argTypes.toList = [t]) (hu : P.underlying t = some (.slice et)) (ho : o.op = .call c) (hx : ev σ x = .nl) : Val P n o σ (σ.upd o.dst (.c (.int .i64 0)) []) :=
 val_pure hd fun hs => by
  have hr := hs.rep x
  rw [hx] at hr
  generalize hpv : Act.eval _ x = pv at hr
  cases hr
  exact ⟨⟨_, run_len (n := n) hc hca hct hu ho hpv, .c (.int _ _)⟩, by simp [A.all]⟩
theorem val_len_str {n : Nat} {o : Oper} (hd : ∀ d, o.dst = some d → d < n) {σ : St} {t : Nat} {x : Operand} {c : Call} (hc : c.callee = .builtin .len) (hca : c.args.toList = [x]) (hct : c.argTypes.toList = [t]) (hu : P.underlying t = some .string) (ho : o.op = .call c) {s : List UInt8} (hx : ev σ x = .c (.str s)) : Val P n o σ (σ.upd o.dst (.c (.int .i64 s.length)) []) :=
 val_pure hd fun hs => by
  obtain ⟨b, he, hb, _⟩ := rep_str (by rw [← hx]; exact hs.rep x)
  obtain ⟨callee, args, argTypes⟩ := c
  obtain rfl : args = #[x] := by cases args; simp_all
  obtain rfl : argTypes = #[t] := by cases argTypes; simp_all
  simp only at hc
  subst hc
  have : (b.size : Int) = s.length := by rw [← hb, Array.length_toList]; rfl
  exact ⟨⟨.int .i64 s.length, by simp [execOp, ho, resolve, invoke, builtin, he, Builtin.len_, run_underlying hu, goInt, this], .c (.int _ _)⟩, by simp [A.all]⟩
theorem run_indexAt_ {t et : Nat} {ie : TI} (hu : P.underlying t = some (.slice et)) (hie : TOk P et ie) {ad : Addr} {m c : Nat} {k : IntKind} {i : Int} (h0 : 0 ≤ i) (h1 : i < m) (w : World) : (Instr.indexAt t (.slice (some ad) m c) (.int k i)).run P w = .ok (.pointer (some (ad.add (i.toNat * ie.sz)))) w := by
 simp [Instr.indexAt, asIntOf, run_underlying hu, h0, h1, size_of hie]
theorem val_indexE {n : Nat} {o : Oper} (hd : ∀ d, o.dst = some d → d < n) {σ : St} {t et : Nat} {ie : TI} {x j : Operand} (hu : P.underlying t = some (.slice et)) (hie : TOk P et ie) (ho : o.op = .indexAddr t x j) {e : Ty} {xs : List (El e)} (hsz : szE e = ie.sz) {k : IntKind} {m : Int} (hj : ev σ j = .c (.int k m)) (h0 : 0 ≤ m) (h1 : m < xs.length)
 (hx : ∀ {w0 : World} {L0 : Old} {F0 F : Nat → Prop} {V : Nat → Value} {B : Nat → List Nat} {a : Act} {w : World}, Sim n w0 L0 F0 F V B σ a w → RepC F w (a.eval x) (.sl e xs)) : Val P n o σ (σ.upd o.dst (.el e (xs.getD m.toNat (dflt e)) 0) []) :=
 val_pure hd fun hs => by
  have hjv := rep_int (by rw [← hj]; exact hs.rep j)
  have hr := hx hs
  generalize hpv : Act.eval _ x = pv at hr
  cases hr with
  | sl _ _ A0 c us hc hb hA hr =>
    obtain ⟨ad, rfl, hF, hcl⟩ := hA (by omega)
    have hlt : m.toNat < xs.length := by omega
    refine ⟨⟨_, by simp only [execOp, ho, hpv, hjv]; simp [run_indexAt_ hu hie h0 h1]; rfl, ?_⟩, by simp [A.all]⟩
    have hsub := hcl.sub (m.toNat * szE e) (szE e)
    have hrs := (hr.drop (m.toNat * szE e)).take (szE e)
    rw [flat_get e xs m.toNat _ (getD_some hlt (dflt e))] at hrs
    have h2 := RepA.el (F := by assumption) (V := by assumption) (w := by assumption) e (xs.getD m.toNat (dflt e)) 0 (ad.add (m.toNat * szE e)) _ (by rw [addr_block]; exact hF) hsub hrs
    rw [← hsz]
    simpa [addr_add] using h2
theorem val_indexP {n : Nat} {o : Oper} (hd : ∀ d, o.dst = some d → d < n) {σ : St} {t et : Nat} {ie : TI} {x j : Operand} (hu : P.underlying t = some (.slice et)) (hie : TOk P et ie) (ho : o.op = .indexAddr t x j) {sz : Nat} (hsz : sz = ie.sz) {k : IntKind} {m : Int} (hj : ev σ j = .c (.int k m)) {N : Nat} (h0 : 0 ≤ m) (h1 : m < N)
 {id : Nat} (hx : ev σ x = .rw id) (hvf : ∀ {w0 : World} {L0 : Old} {F0 F : Nat → Prop} {V : Nat → Value} {B : Nat → List Nat} {a : Act} {w : World}, Sim n w0 L0 F0 F V B σ a w → ∃ g cap, V id = .slice (some ⟨g, 0, none⟩) N cap) : Val P n o σ (σ.upd o.dst (.re sz id m.toNat 0) []) :=
 val_pure hd fun {w0 L0 F0 F V B a w} hs => by
  have hjv := rep_int (by rw [← hj]; exact hs.rep j)
  have hr := hs.rep x
  have hids := hs.repIds x
  rw [hx] at hr hids
  generalize hpv : Act.eval _ x = pv at hr
  obtain ⟨g, cap, hvf⟩ := hvf hs
  cases hr
  refine ⟨⟨_, by simp only [execOp, ho, hpv, hjv]; rw [hvf]; simp [run_indexAt_ hu hie h0 h1]; rfl, ?_⟩, by simpa [A.all] using hids⟩
  have h2 := RepA.re (F := F) (V := V) (w := w) sz id m.toNat 0 g _ _ hvf
  rw [← hsz, add_at', Nat.zero_add]
  simpa using h2
theorem rowR.at_ {w : World} {e : Ty} {v : Value} {n : Nat} {us : List Value} (h : rowR w e v n us) (hn : 0 < n) : ∃ g cap, v = .slice (some ⟨g, 0, none⟩) n cap := by
 obtain ⟨A0, c, h1, _, hA⟩ := h.cells
 obtain ⟨g, rfl, _⟩ := hA hn
 exact ⟨g, c, h1⟩
theorem val_indexR {n : Nat} {o : Oper} (hd : ∀ d, o.dst = some d → d < n) {σ : St} {t et : Nat} {ie : TI} {x j : Operand} (hu : P.underlying t = some (.slice et)) (hie : TOk P et ie) (ho : o.op = .indexAddr t x j) {e : Ty} {xs : List (El e)} (hsz : szE e = ie.sz) {k : IntKind} {m : Int} (hj : ev σ j = .c (.int k m)) (h0 : 0 ≤ m) (h1 : m < xs.length)
 {id : Nat} (hx : ev σ x = .rw id) (hg : get σ.hp id = some (.row e xs) ∨ get σ.hp id = some (.dp e xs)) : Val P n o σ (σ.upd o.dst (.re (szE e) id m.toNat 0) []) :=
 val_indexP hd hu hie ho hsz hj h0 h1 hx fun hs => by
  rcases hg with hg | hg
  · have hob := hs.hp.ob id _ hg
    cases hob with
    | row _ _ us hown hr' hb => exact hown.at_ (by omega)
  · have hob := hs.hp.ob id _ hg
    cases hob with
    | dp _ _ hown =>
      obtain ⟨us, b0, hb, hro, _⟩ := hown.inv
      exact hro.at_ (by omega)
theorem val_indexF {n : Nat} {o : Oper} (hd : ∀ d, o.dst = some d → d < n) {σ : St} {t et : Nat} {ie : TI} {x j : Operand} (hu : P.underlying t = some (.slice et)) (hie : TOk P et ie) (ho : o.op = .indexAddr t x j) {e : Ty} {pre post : List (El e)} {cs : List A} (hsz : szE e = ie.sz) {k : IntKind} {m : Int} (hj : ev σ j = .c (.int k m)) (h0 : m = pre.length)
 {id : Nat} (hx : ev σ x = .rw id) (hg : get σ.hp id = some (.fo e pre cs post)) : Val P n o σ (σ.upd o.dst (.re (szE e) id pre.length 0) []) := by
 subst h0
 exact val_indexP hd hu hie ho hsz hj (N := pre.length + (1 + post.length)) (by omega) (by omega) hx fun hs => by
  have hob := hs.hp.ob id _ hg
  cases hob with
  | fo _ _ _ _ us1 vs us2 b1 b2 _ hcl hro hr1 hr2 hv0 h1 _ _ => exact hro.at_ (by omega)
theorem frz_rep {n : Nat} {w0 : World} {L0 : Old} {F0 F : Nat → Prop} {V : Nat → Value} {B : Nat → List Nat} {σ : St} {a : Act} {w : World} (hs : Sim n w0 L0 F0 F V B σ a w) {x : Operand} {id : Nat} (hx : ev σ x = .rw id) {e : Ty} {xs : List (El e)} (hg : get σ.hp id = some (.fz e xs)) : RepC F w (a.eval x) (.sl e xs) := by
 have hr := hs.rep x
 rw [hx] at hr
 have hob := hs.hp.ob id _ hg
 generalize hpv : a.eval x = pv at hr
 cases hr
 cases hob with
 | fz _ _ h => exact h
theorem c_rep {n : Nat} {w0 : World} {L0 : Old} {F0 F : Nat → Prop} {V : Nat → Value} {B : Nat → List Nat} {σ : St} {a : Act} {w : World} (hs : Sim n w0 L0 F0 F V B σ a w) {x : Operand} {c : C} (hx : ev σ x = .c c) : RepC F w (a.eval x) c := by
 have hr := hs.rep x
 rw [hx] at hr
 generalize a.eval x = pv at hr
 cases hr with
 | c h => exact h
end Go.Proofs.YthbpdhppelaihaaGreat
/- The conditions of F4 are sound: what makes memory, what freezes, what is stored. Conditions: none. -/
namespace Go.Proofs.YthbpdhppelaihaaGreat
open Go.RowKit
variable {P : Program} {T : List (Nat × TI)}
theorem frz_spec {h : Nat → Option Ob} {id : Nat} {o : Ob} : ∀ {l : List A}, get (frz h l) id = some o → ∃ e xs, o = .fz e xs ∧ (h id = some (.row e xs) ∨ h id = some (.dp e xs))
 | [], hg => by simp [frz, get] at hg
 | a :: l, hg => by
   unfold frz at hg
   split at hg
   · rename_i heq; cases heq
   · rename_i id' l' heq
     cases heq
     split at hg
     · rename_i e xs hr
       rw [get_cons] at hg
       split at hg
       · rename_i he; subst he; cases hg; exact ⟨e, xs, rfl, .inl hr⟩
       · exact frz_spec hg
     · rename_i e xs hr
       rw [get_cons] at hg
       split at hg
       · rename_i he; subst he; cases hg; exact ⟨e, xs, rfl, .inr hr⟩
       · exact frz_spec hg
     · exact frz_spec hg
   · rename_i heq
     cases heq
     exact frz_spec hg
theorem frz_mem {h : Nat → Option Ob} {id : Nat} {e : Ty} {xs : List (El e)} (hr : h id = some (.row e xs) ∨ h id = some (.dp e xs)) : ∀ {l : List A}, .rw id ∈ l → get (frz h l) id = some (.fz e xs)
 | [], hm => by simp at hm
 | a :: l, hm => by
   unfold frz
   split
   · rename_i heq; cases heq
   · rename_i id' l' heq
     cases heq
     by_cases he : id' = id
     · subst he; rcases hr with hr | hr <;> (rw [hr]; simp [get_cons])
     · have hm' : A.rw id ∈ l := by
        rcases List.mem_cons.1 hm with h1 | h1
        · cases h1; exact (he rfl).elim
        · exact h1
       split
       · rename_i e' xs' hr'
         rw [get_cons, if_neg he]
         exact frz_mem hr hm'
       · rename_i e' xs' hr'
         rw [get_cons, if_neg he]
         exact frz_mem hr hm'
       · exact frz_mem hr hm'
   · rename_i hne heq
     cases heq
     have hm' : A.rw id ∈ l := by
      rcases List.mem_cons.1 hm with h1 | h1
      · exact (hne _ h1.symm).elim
      · exact h1
     exact frz_mem hr hm'
theorem rowR_rep {F : Nat → Prop} {w : World} {e : Ty} {v : Value} {xs : List (El e)} {us : List Value} (ho : rowR w e v xs.length us) (hr : RepL F w us (xs.flatMap (cells e))) (hbb : xs.length * byE e ≤ 140737488355328) (hb : ∀ b, blk v = some b → F b) : RepC F w v (.sl e xs) := by
 obtain ⟨A0, c, rfl, hc, hA⟩ := ho.cells
 exact .sl e xs A0 c us hc hbb (fun hp => by
  obtain ⟨g, h1, h2, h3⟩ := hA hp
  exact ⟨_, h1, hb g h2, h3⟩) hr
theorem row_rep {F : Nat → Prop} {V : Nat → Value} {B : Nat → List Nat} {w : World} {hp : Hp} {id : Nat} {e : Ty} {xs : List (El e)} (h : ∀ o, get hp id = some o → ObR F V B w id o) (hg : get hp id = some (.row e xs) ∨ get hp id = some (.dp e xs)) {F' : Nat → Prop} (hF : ∀ b, F b → F' b) (hb : ∀ b, owns hp V B id b → F' b) : RepC F' w (V id) (.sl e xs) := by
 rcases hg with hg | hg
 · have hob := h _ hg
   cases hob with
   | row _ _ us hown hr hbb => exact rowR_rep hown (hr.move hF (w' := w) (fun _ _ => rfl)) hbb fun b hb' => hb b (by unfold owns; rw [hg]; exact hb')
 · have hob := h _ hg
   cases hob with
   | dp _ _ h0 => exact h0.rep fun b hb' => hb b (by unfold owns; rw [hg]; exact hb')
theorem Sim.freeze {n : Nat} {w0 : World} {L0 : Old} {F0 F : Nat → Prop} {V : Nat → Value} {B : Nat → List Nat} {σ : St} {a : Act} {w : World} (hs : Sim n w0 L0 F0 F V B σ a w) (l : List A) : ∃ F' : Nat → Prop, (∀ b, F b → F' b) ∧ Sim n w0 L0 F0 F' V B { σ with hp := frz (get σ.hp) l ++ σ.hp } a w := by
 refine ⟨fun b => F b ∨ ∃ id, (∃ o, get (frz (get σ.hp) l) id = some o) ∧ owns σ.hp V B id b, fun b hb => .inl hb, ?_⟩
 refine hs.step (fun id => ∃ o, get (frz (get σ.hp) l) id = some o) rfl rfl rfl (fun _ _ _ => rfl) (Nat.le_refl _) (fun _ _ => rfl) (fun _ _ _ => rfl) (fun b hb => .inl hb) (fun b hb => ?_) (fun b hb => ?_) hs.V1 (fun id hid => ?_) (fun id hid => ?_) (fun id o hid ho => ?_) (fun id b hid ho => ?_) (fun id id' b hid hid' ho ho' => ?_)
 · rcases hb with hb | ⟨id, h1, h2⟩
   · exact .inl hb
   · exact .inr (.inr ⟨id, h1, h2⟩)
 · rcases hb with hb | ⟨id, h1, h2⟩
   · exact hs.F_lt b hb
   · exact hs.hp.lt id b h2
 · rw [get_append]
   cases h : get (frz (get σ.hp) l) id with
   | none => rfl
   | some o => exact (hid ⟨o, h⟩).elim
 · unfold Def at *
   rw [get_append]
   cases h : get (frz (get σ.hp) l) id with
   | none => exact hid
   | some o => rfl
 · obtain ⟨o', ho'⟩ := hid
   rw [get_append, ho'] at ho
   cases ho
   obtain ⟨e, xs, rfl, hr⟩ := frz_spec ho'
   exact ⟨.fz e xs (row_rep (hs.hp.ob id) hr (fun b hb => .inl hb) fun b hb => .inr ⟨id, ⟨_, ho'⟩, hb⟩), trivial⟩
 all_goals
  obtain ⟨o', ho''⟩ := hid
  obtain ⟨e, xs, rfl, hr⟩ := frz_spec ho''
  unfold owns at ho
  rw [get_append, ho''] at ho
  exact ho.elim
theorem toC_rep {n : Nat} {w0 : World} {L0 : Old} {F0 F F' : Nat → Prop} {V : Nat → Value} {B : Nat → List Nat} {σ : St} {a : Act} {w : World} {l : List A} (hF : ∀ b, F b → F' b) (hs' : Sim n w0 L0 F0 F' V B { σ with hp := frz (get σ.hp) l ++ σ.hp } a w) {x : A} (hx : x ∈ l) {v : Value} (hr : RepA F V w v x) {d c : C} (hc : toC (get σ.hp) d x = some c) : RepC F' w v c := by
 have hmv : ∀ {v : Value} {c : C}, RepC F w v c → RepC F' w v c := fun h => h.move hF (fun _ _ => rfl)
 unfold toC at hc
 split at hc
 · cases hc; cases hr with | c h => exact hmv h
 · cases hc; cases hr; exact .bool _
 · split at hc
   · cases hc
     cases hr
     exact .sl _ [] none 0 [] (Nat.le_refl _) (by simp) (fun hp => by simp at hp) .nil
   · cases hc
 · rename_i id
   have hv : v = V id := by cases hr; rfl
   split at hc
   · rename_i e xs hg
     cases hc
     have h1 := frz_mem (.inl hg) hx
     have h2 := hs'.hp.ob id (.fz e xs) (by show get (frz (get σ.hp) l ++ σ.hp) id = _; rw [get_append, h1])
     rw [hv]
     cases h2 with | fz _ _ h => exact h
   · rename_i e xs hg
     cases hc
     have h2 : ObR F' V B w id (.fz e xs) := hs'.hp.ob id (.fz e xs) (by
      show get (frz (get σ.hp) l ++ σ.hp) id = _
      rw [get_append]
      cases h3 : get (frz (get σ.hp) l) id with
      | none => exact hg
      | some o => obtain ⟨e', xs', _, h4⟩ := frz_spec h3; rw [hg] at h4; rcases h4 with h4 | h4 <;> cases h4)
     rw [hv]
     cases h2 with | fz _ _ h => exact h
   · rename_i e xs hg
     cases hc
     have h1 := frz_mem (.inr hg) hx
     have h2 := hs'.hp.ob id (.fz e xs) (by show get (frz (get σ.hp) l ++ σ.hp) id = _; rw [get_append, h1])
     rw [hv]
     cases h2 with | fz _ _ h => exact h
   · cases hc
 · cases hc
theorem toCs_rep {n : Nat} {w0 : World} {L0 : Old} {F0 F F' : Nat → Prop} {V : Nat → Value} {B : Nat → List Nat} {σ : St} {a : Act} {w : World} {l0 : List A} (hF : ∀ b, F b → F' b) (hs' : Sim n w0 L0 F0 F' V B { σ with hp := frz (get σ.hp) l0 ++ σ.hp } a w) : ∀ {l : List A}, (∀ x ∈ l, x ∈ l0) → ∀ {us : List Value}, RepAs F V w us l → ∀ {ds cs : List C}, toCs (get σ.hp) ds l = some cs → RepL F' w us cs
 | [], _, _, hr, ds, cs, hc => by
   cases hr
   cases ds with
   | nil => simp [toCs] at hc; subst hc; exact .nil
   | cons d ds => simp [toCs] at hc
 | x :: l, hm, _, hr, ds, cs, hc => by
   cases hr with
   | cons h t =>
     cases ds with
     | nil => simp [toCs] at hc
     | cons d ds =>
       simp only [toCs] at hc
       split at hc
       · rename_i c cs' h1 h2
         cases hc
         exact .cons (toC_rep hF hs' (hm x (by simp)) h h1) (toCs_rep hF hs' (fun y hy => hm y (by simp [hy])) t h2)
       · cases hc
def updV (V : Nat → Value) (id : Nat) (v : Value) : Nat → Value := fun k => if k = id then v else V k
theorem Sim.new {n : Nat} {w0 : World} {L0 : Old} {F0 F : Nat → Prop} {V : Nat → Value} {B : Nat → List Nat} {σ : St} {a : Act} {w w' : World} (hs : Sim n w0 L0 F0 F V B σ a w) {id : Nat} (hid : get σ.hp id = none) {v : Value} (hv1 : v.oneCell' = true) {o : Ob} (hos : w'.os = w.os) (htape : w'.tape = w.tape) (hout : w'.output = w.output) (hsz : w.heap.size ≤ w'.heap.size)
 {B' : Nat → List Nat} (hB : ∀ k, k ≠ id → B' k = B k) (hblk : ∀ b, b < w.heap.size → w'.heap[b]? = w.heap[b]?) (ho : ObR F (updV V id v) B' w' id o) (hids : obIds (Def ((id, o) :: σ.hp)) o) (hown : ∀ b, owns ((id, o) :: σ.hp) (updV V id v) B' id b → w.heap.size ≤ b ∧ b < w'.heap.size) :
 Sim n w0 L0 F0 F (updV V id v) B' { σ with hp := (id, o) :: σ.hp } a w' := by
 refine hs.step (fun k => k = id) hos htape hout (fun b hb _ => hblk b hb) hsz (fun k hk => ?_) (fun k hk _ => hB k hk) (fun b hb => hb) (fun b hb => .inl hb) (fun b hb => Nat.lt_of_lt_of_le (hs.F_lt b hb) hsz) (fun k => ?_) (fun k hk => ?_) (fun k hk => ?_) (fun k o' hk ho' => ?_) (fun k b hk ho' => ?_) (fun k k' b hk hk' _ _ => by rw [hk, hk'])
 · unfold updV
   rw [if_neg]
   rintro rfl
   unfold Def at hk
   rw [hid] at hk
   cases hk
 · unfold updV; split
   · exact hv1
   · exact hs.V1 k
 · rw [get_cons, if_neg (fun e => hk e.symm)]
 · unfold Def at *
   rw [get_cons]
   split
   · rfl
   · exact hk
 · subst hk
   rw [get_cons, if_pos rfl] at ho'
   cases ho'
   exact ⟨ho, hids⟩
 · subst hk
   obtain ⟨h1, h2⟩ := hown b ho'
   exact ⟨h2, fun hF => absurd (hs.F_lt b hF) (by omega), .inl h1⟩
theorem allL_def_cons {σ : St} {id : Nat} {o : Ob} {l : List A} (h : allL (Def σ.hp) l) : allL (Def ((id, o) :: σ.hp)) l :=
 allL_mono (fun k hk => by unfold Def at *; rw [get_cons]; split <;> first | rfl | exact hk) h
theorem updV_ne {σ : St} {V : Nat → Value} {id : Nat} (hid : get σ.hp id = none) (v : Value) : ∀ k, Def σ.hp k → updV V id v k = V k := by
 intro k hk
 unfold updV
 rw [if_neg]
 rintro rfl
 unfold Def at hk
 rw [hid] at hk
 cases hk
theorem alloc_old (w : World) (o : Obj) (b : Nat) (hb : b < w.heap.size) : (w.alloc o).heap[b]? = w.heap[b]? := Below.heap_alloc w o b hb
theorem alloc_size (w : World) (o : Obj) : (w.alloc o).heap.size = w.heap.size + 1 := Array.size_push ..
theorem alloc_new (w : World) (o : Obj) : (w.alloc o).heap[w.heap.size]? = some o := by
 show (w.heap.push o)[w.heap.size]? = some o
 rw [Array.getElem?_push, if_pos rfl]
theorem val_box {n : Nat} {o : Oper} (hd : ∀ d, o.dst = some d → d < n) {σ : St} {id : Nat} (hid : get σ.hp id = none) {l : List A} {t : TypeId}
 (h : ∀ {w0 : World} {L0 : Old} {F0 F : Nat → Prop} {V : Nat → Value} {B : Nat → List Nat} {a : Act} {w : World}, Sim n w0 L0 F0 F V B σ a w → ∃ us : List Value, (execOp a.eval o).run P w = .ok (.value (.pointer (some ⟨w.heap.size, 0, none⟩))) (w.alloc (.cells us.toArray t)) ∧ RepAs F V w us l ∧ (∀ u ∈ us, u.oneCell' = true) ∧ allL (Def σ.hp) l) :
 Val P n o σ (σ.upd o.dst (.pt id 0) [(id, .box l)]) := by
 intro w0 L0 F0 F V B a w hs K Q hK
 obtain ⟨us, hrun, hr, h1, hl⟩ := h hs
 unfold Oper.wp
 rw [hrun]
 have hnew := hs.new (id := id) hid (v := .pointer (some ⟨w.heap.size, 0, none⟩)) rfl (o := .box l) (w' := w.alloc (.cells us.toArray t)) rfl rfl rfl (by rw [alloc_size]; omega) (fun _ _ => rfl) (fun b hb => alloc_old w _ b hb)
  (.box l w.heap.size us t (by simp [updV]) (alloc_new w _) (hr.move (fun _ hb => hb) (fun b hb => alloc_old w _ b (hs.F_lt b hb)) (allL_mono (updV_ne hid _) hl)) h1)
  (allL_def_cons hl) (fun b hb => by
    unfold owns at hb
    rw [get_cons, if_pos rfl] at hb
    simp [updV, blk] at hb
    subst hb
    exact ⟨Nat.le_refl _, by rw [alloc_size]; omega⟩)
 have hput := hnew.putd hd (v := .pointer (some ⟨w.heap.size, 0, none⟩)) (r := .pt id 0) (.pt id 0 w.heap.size (by simp [updV])) (by simp [A.all, Def, get_cons]) (σ.nx + 1)
 exact hK _ _ _ _ _ hput
theorem val_alloc (hT : ∀ t i, get T t = some i → TOk P t i) {n : Nat} {o : Oper} (hd : ∀ d, o.dst = some d → d < n) {σ : St} {id : Nat} (hid : get σ.hp id = none) {t : Nat} {i : TI} (hi : get T t = some i) (ho : o.op = .alloc t) (hz : allL (fun _ => False) i.z) : Val P n o σ (σ.upd o.dst (.pt id 0) [(id, .box i.z)]) :=
 val_box hd hid (t := t) fun {w0 L0 F0 F V B a w} hs => by
  obtain ⟨z, hz1, hz2, _⟩ := zero_of (hT t i hi) w
  refine ⟨z.cells.toList, ?_, hz2.reps, hz2.one, allL_mono (fun _ h => h.elim) hz⟩
  have : z.cells.toList.toArray = z.cells := by simp
  rw [this]
  simp [execOp, ho, Instr.alloc, hz1, newVar, newRow]
theorem zok_all : ∀ {us : List Value} {l : List A}, ZOk us l → allL (fun _ => False) l
 | _, _, .nil => by simp [allL]
 | _, _, .int k n t => by simp [allL, A.all, zok_all t]
 | _, _, .bool b t => by simp [allL, A.all, zok_all t]
 | _, _, .str t => by simp [allL, A.all, zok_all t]
 | _, _, .nl t => by simp [allL, A.all, zok_all t]
 | _, _, .oth v _ t => by simp [allL, A.all, zok_all t]
theorem cellsA_all {D : Nat → Prop} {a : A} {l : List A} (h : a.all D) (hl : cellsA a = some l) : allL D l := by
 cases a <;> simp [cellsA] at hl <;> subst hl <;> first | (simpa [A.all] using h) | (simp only [allL]; exact ⟨h, trivial⟩)
theorem val_boxop {n : Nat} {o : Oper} (hd : ∀ d, o.dst = some d → d < n) {σ : St} {id : Nat} (hid : get σ.hp id = none) {t : TypeId} {x : Operand} (ho : o.op = .box t x) {l : List A} (hl : cellsA (ev σ x) = some l) : Val P n o σ (σ.upd o.dst (.pt id 0) [(id, .box l)]) :=
 val_box hd hid (t := t) fun {w0 L0 F0 F V B a w} hs => by
  obtain ⟨h1, h2⟩ := cellsA_rep (hs.rep x) hl (fun id _ => hs.V1 id)
  refine ⟨(a.eval x).cells.toList, ?_, h1, h2, cellsA_all (hs.repIds x) hl⟩
  have : (a.eval x).cells.toList.toArray = (a.eval x).cells := by simp
  rw [this]
  simp [execOp, ho, Instr.box, newVar, newRow]
theorem fillA_all {D : Nat → Prop} {place : Nat → Option (Nat × Nat)} : ∀ {parts : List (Nat × A)} {z r : List A}, fillA place z parts = some r → allL D z → allL D (parts.map (·.2)) → allL D r
 | [], z, r, h, hz, _ => by simp [fillA] at h; subst h; exact hz
 | (i, a) :: parts, z, r, h, hz, hp => by
   simp only [List.map_cons, allL] at hp
   simp only [fillA] at h
   split at h
   · rename_i off size l h1 h2
     split at h
     · refine fillA_all h ?_ hp.2
       have hl := cellsA_all hp.1 h2
       clear h h1 h2
       have key : ∀ (l z : List A) (off : Nat), allL D z → allL D l → allL D (spl z off l) := by
        intro l
        induction l with
        | nil => exact fun z off hz _ => by rw [spl_nil]; exact hz
        | cons x l ih =>
          intro z off hz hl
          simp only [allL] at hl
          rw [spl_cons]
          refine ih _ _ ?_ hl.2
          clear ih
          induction z generalizing off with
          | nil => simp [allL]
          | cons y z ihz =>
            simp only [allL] at hz
            cases off with
            | zero => simp only [List.set_cons_zero, allL]; exact ⟨hl.1, hz.2⟩
            | succ off => simp only [List.set_cons_succ, allL]; exact ⟨hz.1, ihz off hz.2⟩
       exact key _ _ _ hz hl
     · cases h
   · cases h
theorem val_build (hT : ∀ t i, get T t = some i → TOk P t i) {n : Nat} {o : Oper} (hd : ∀ d, o.dst = some d → d < n) {σ : St} {t : Nat} {i : TI} {fs : List (Nat × Nat)} (hi : get T t = some i) (hk : i.k = .st fs) {parts : Array (Nat × Operand)} (ho : o.op = .build t parts) {l : List A}
 (hl : fillA (placeS T fs) i.z (parts.toList.map fun p => (p.1, ev σ p.2)) = some l) (hall : (fs.all fun p => (get T p.2).isSome) = true) : Val P n o σ (σ.upd o.dst (.ag l) []) :=
 val_pure hd fun {w0 L0 F0 F V B a w} hs => by
  have hti := hT t i hi
  obtain ⟨y, z, hy, hsz, _, hz, hzo, _⟩ := hti.inf
  have hdsc := hti.desc
  rw [hk] at hdsc
  obtain ⟨fields, hu, hm⟩ := hdsc
  have hpl : fields.toList.mapM (fun f => (P.info? f.type).map fun i => (f.offset, i.size)) = some (fs.map fun p => (p.1, match get T p.2 with | some fi => fi.sz | none => 0)) := by
   subst hm
   clear hl hu
   generalize fields.toList = fl at hall
   induction fl with
   | nil => rfl
   | cons f fl ih =>
     simp only [List.map_cons, List.all_cons, Bool.and_eq_true] at hall
     obtain ⟨hf, hall⟩ := hall
     obtain ⟨fi, hfi⟩ := Option.isSome_iff_exists.1 hf
     obtain ⟨y', _, hy', hs', _⟩ := (hT _ fi hfi).inf
     rw [List.mapM_cons, ih hall]
     simp [hy', hfi, hs']
  obtain ⟨cs, hcs, hrep, h1, _⟩ := fillA_ok (F := F) (V := V) (w := w) (placeS T fs)
   (parts.toList.map fun p => (p.1, ev σ p.2)) (parts.toList.map fun p => (p.1, a.eval p.2)) i.z z.cells l hl hzo.reps hzo.one (by simp [List.map_map, Function.comp_def]) (fun j i' v b h1 h2 => by
     rw [List.getElem?_map] at h1 h2
     cases hp : parts.toList[j]? with
     | none => rw [hp] at h1; simp at h1
     | some p =>
       rw [hp] at h1 h2
       simp at h1 h2
       obtain ⟨_, rfl⟩ := h1
       obtain ⟨_, rfl⟩ := h2
       exact hs.rep p.2) hs.V1
  have hbuilt : P.built t (parts.map fun (x : Nat × Operand) => (x.1, a.eval x.2)).toList = some cs := by
   unfold Program.built
   simp only [hy, hu, hz, hpl]
   rw [Array.toList_map]
   have hplace : (fun (x : Nat) => ((fs.map fun p => (p.1, match get T p.2 with | some fi => fi.sz | none => 0)).toArray)[x]?) = placeS T fs := by
    funext j
    unfold placeS
    simp only [List.getElem?_toArray, List.getElem?_map]
    cases hj : fs[j]? with
    | none => rfl
    | some p =>
      obtain ⟨po, pt⟩ := p
      have := List.all_eq_true.1 hall (po, pt) (List.mem_of_getElem? hj)
      obtain ⟨fi, hfi⟩ := Option.isSome_iff_exists.1 this
      simp only at hfi
      simp [hfi]
   rw [hplace]
   exact hcs
  have hrun := run_build (P := P) w t _ cs hbuilt
  refine ⟨⟨.agg cs, ?_, ?_⟩, ?_⟩
  · simp only [execOp, ho, Sem.run_bind]
    rw [hrun]
    rfl
  · have := RepA.ag (F := F) (V := V) (w := w) hrep h1
    simpa using this
  · simp only [A.all]
    refine fillA_all hl (allL_mono (fun _ h => h.elim) (zok_all hzo)) ?_
    have := (evs_rep hs (parts.toList.map (·.2))).2
    simpa [List.map_map, Function.comp_def] using this
end Go.Proofs.YthbpdhppelaihaaGreat
/- What is one's own all the way down: how it goes over into another row. Conditions: none. -/
namespace Go.Proofs.YthbpdhppelaihaaGreat
open Go.RowKit
variable {P : Program} {T : List (Nat × TI)}
def notSl : C → Prop
 | .sl _ _ => False
 | _ => True
theorem flat_cells {e : Ty} (h : flat e = true) (x : El e) : ∀ c ∈ cells e x, notSl c := by
 cases e <;> simp [flat] at h <;> intro c hc <;> simp only [cells, List.mem_cons, List.not_mem_nil, or_false] at hc
 all_goals
  repeat' (first | (rcases hc with rfl | hc; · trivial) | (subst hc; trivial))
theorem own_flat {F : Nat → Prop} {w : World} : ∀ {us : List Value} {cs : List C}, (∀ c ∈ cs, notSl c) → RepL F w us cs → OwnL w us cs []
 | _, _, _, .nil => .nil
 | u :: _, c :: _, hn, .cons h t => by
   have h0 := hn _ (List.mem_cons_self ..)
   have ih := own_flat (fun c hc => hn c (List.mem_cons_of_mem _ hc)) t
   have h1 : Own w u c [] := by
    cases h with
    | int k n => exact .int k n
    | bool b => exact .bool b
    | str s hs => exact .str s hs
    | sl => exact h0.elim
   have := OwnL.cons h1 ih (fun x hx => by simp at hx)
   simpa using this
theorem own_flats {F : Nat → Prop} {w : World} {e : Ty} {xs : List (El e)} {us : List Value} (h : flat e = true ∨ xs = []) (hr : RepL F w us (xs.flatMap (cells e))) : OwnL w us (xs.flatMap (cells e)) [] := by
 refine own_flat (fun c hc => ?_) hr
 obtain ⟨x, hx, hc⟩ := List.mem_flatMap.1 hc
 rcases h with h | h
 · exact flat_cells h x c hc
 · subst h; simp at hx
theorem own_of_row {F : Nat → Prop} {w : World} {e : Ty} {v : Value} {xs : List (El e)} {us : List Value} (ho : rowR w e v xs.length us) (hr : RepL F w us (xs.flatMap (cells e))) (hb : xs.length * byE e ≤ 140737488355328) (h : flat e = true ∨ xs = []) : Own w v (.sl e xs) (bkl v) := by
 have := Own.sl e xs v us [] hb ho (own_flats h hr) (by unfold bkl; cases blk v <;> simp)
 simpa using this
theorem memN_iff {n : Nat} {l : List Nat} : memN n l = true ↔ n ∈ l := by
 induction l with
 | nil => simp [memN]
 | cons k l ih =>
   simp only [memN]
   cases hb : Nat.beq n k with
   | true => simp [Nat.eq_of_beq_eq_true hb]
   | false =>
     have : n ≠ k := fun e => by subst e; simp at hb
     simp [ih, this]
theorem nodupN_iff {l : List Nat} : nodupN l = true → l.Nodup := by
 induction l with
 | nil => intro _; exact List.nodup_nil
 | cons k l ih =>
   intro h
   simp only [nodupN] at h
   split at h
   · cases h
   · rename_i hm
     exact List.nodup_cons.2 ⟨fun hk => (by rw [memN_iff.2 hk] at hm; cases hm), ih h⟩
theorem own_nil {w : World} (e : Ty) : Own w (.slice none 0 0) (.sl e []) [] := by
 have := Own.sl (w := w) e [] (.slice none 0 0) [] [] (by simp) ⟨by simp, .inl ⟨none, rfl, rfl⟩⟩ .nil (by simp [bkl, blk])
 simpa [bkl, blk] using this
theorem okD_own {n : Nat} {w0 : World} {L0 : Old} {F0 F : Nat → Prop} {V : Nat → Value} {B : Nat → List Nat} {σ : St} {a : Act} {w : World} (hs : Sim n w0 L0 F0 F V B σ a w) {x : A} {v : Value} (hr : RepA F V w v x) {d c : C} (hok : okD (get σ.hp) x = true) (hc : toC (get σ.hp) d x = some c) :
 ∃ bs, Own w v c bs ∧ ∀ b ∈ bs, ∃ id ∈ idsL [x], owns σ.hp V B id b := by
 cases x <;> simp only [okD, toC] at hok hc
 case c c0 =>
  cases hc
  cases hr with
  | c h =>
    cases h with
    | int k n => exact ⟨[], .int k n, fun b hb => by simp at hb⟩
    | bool b => exact ⟨[], .bool b, fun b hb => by simp at hb⟩
    | str s hs => exact ⟨[], .str s hs, fun b hb => by simp at hb⟩
    | sl => simp [okD] at hok
 case kb b =>
  cases hc
  cases hr
  exact ⟨[], .bool b, fun b hb => by simp at hb⟩
 case nl =>
  cases hr
  split at hc
  · cases hc; exact ⟨[], own_nil _, fun b hb => by simp at hb⟩
  · cases hc
 case rw id =>
  have hv : v = V id := by cases hr; rfl
  subst hv
  have ow : ∀ b, (∃ k ∈ idsL [A.rw id], owns σ.hp V B k b) ↔ owns σ.hp V B id b := fun b => by simp [idsL]
  split at hok
  · rename_i e xs hg
    rw [hg] at hc
    cases hc
    have hob := hs.hp.ob id _ hg
    cases hob with
    | dp _ _ h0 => exact ⟨_, h0, fun b hb => (ow b).2 (by unfold owns; rw [hg]; exact hb)⟩
  · rename_i e xs hg
    rw [hg] at hc
    cases hc
    have hob := hs.hp.ob id _ hg
    have hfl : flat e = true ∨ xs = [] := by
     split at hok
     · exact .inl (by assumption)
     · exact .inr rfl
     · cases hok
    cases hob with
    | row _ _ us ho hrr hb => exact ⟨_, own_of_row ho hrr hb hfl, fun b hb => (ow b).2 (by unfold owns; rw [hg]; exact bkl_mem.1 hb)⟩
  · cases hok
 all_goals cases hok
theorem idsL_cons (x : A) (l : List A) : idsL (x :: l) = idsL [x] ++ idsL l := by cases x <;> simp [idsL]
theorem okDs_own {n : Nat} {w0 : World} {L0 : Old} {F0 F : Nat → Prop} {V : Nat → Value} {B : Nat → List Nat} {σ : St} {a : Act} {w : World} (hs : Sim n w0 L0 F0 F V B σ a w) : ∀ {l : List A} {us : List Value} {ds cs : List C}, RepAs F V w us l → okDs (get σ.hp) l = true → (idsL l).Nodup → toCs (get σ.hp) ds l = some cs →
 ∃ bs, OwnL w us cs bs ∧ ∀ b ∈ bs, ∃ id ∈ idsL l, owns σ.hp V B id b
 | [], _, ds, cs, .nil, _, _, hc => by
   cases ds with
   | nil => simp [toCs] at hc; subst hc; exact ⟨[], .nil, fun b hb => by simp at hb⟩
   | cons d ds => simp [toCs] at hc
 | x :: l, _, ds, cs, .cons h t, hok, hnd, hc => by
   cases ds with
   | nil => simp [toCs] at hc
   | cons d ds =>
     simp only [toCs] at hc
     simp only [okDs] at hok
     split at hok
     · rename_i hx
       split at hc
       · rename_i c cs' h1 h2
         cases hc
         rw [idsL_cons, List.nodup_append] at hnd
         obtain ⟨b1, ho1, hb1⟩ := okD_own hs h hx h1
         obtain ⟨b2, ho2, hb2⟩ := okDs_own hs t hok hnd.2.1 h2
         refine ⟨b1 ++ b2, .cons ho1 ho2 fun b hb hb' => ?_, fun b hb => ?_⟩
         · obtain ⟨i, hi, hoi⟩ := hb1 b hb
           obtain ⟨j, hj, hoj⟩ := hb2 b hb'
           exact hnd.2.2 i hi j hj (hs.hp.apart i j b hoi hoj)
         · rw [idsL_cons]
           rcases List.mem_append.1 hb with hb | hb
           · obtain ⟨i, hi, hoi⟩ := hb1 b hb; exact ⟨i, List.mem_append_left _ hi, hoi⟩
           · obtain ⟨i, hi, hoi⟩ := hb2 b hb; exact ⟨i, List.mem_append_right _ hi, hoi⟩
       · cases hc
     · cases hok
def updB (B : Nat → List Nat) (id : Nat) (bs : List Nat) : Nat → List Nat := fun k => if k = id then bs else B k
theorem get_kill {ks : List Nat} {id : Nat} {o : Ob} (h : get (kill ks) id = some o) : id ∈ ks ∧ o = .gone := by
 induction ks with
 | nil => simp [kill, get] at h
 | cons k ks ih =>
   simp only [kill] at h
   rw [get_cons] at h
   split at h
   · rename_i e; subst e; cases h; exact ⟨by simp, rfl⟩
   · obtain ⟨h1, h2⟩ := ih h; exact ⟨List.mem_cons_of_mem _ h1, h2⟩
theorem get_kill_in {ks : List Nat} {id : Nat} (h : id ∈ ks) : get (kill ks) id = some .gone := by
 induction ks with
 | nil => simp at h
 | cons k ks ih =>
   simp only [kill]
   rw [get_cons]
   split
   · rfl
   · rename_i e
     rcases List.mem_cons.1 h with h | h
     · exact (e h.symm).elim
     · exact ih h
theorem get_kill_out {ks : List Nat} {id : Nat} (h : id ∉ ks) : get (kill ks) id = none := by
 cases hg : get (kill ks) id with
 | none => rfl
 | some o => exact (h (get_kill hg).1).elim
theorem Sim.turn {n : Nat} {w0 : World} {L0 : Old} {F0 F : Nat → Prop} {V : Nat → Value} {B : Nat → List Nat} {σ : St} {a : Act} {w w' : World} (hs : Sim n w0 L0 F0 F V B σ a w) {t : Nat} {ks : List Nat} {v : Value} {bs : List Nat} {o : Ob} (htk : t ∉ ks) (hkd : ∀ k ∈ ks, Def σ.hp k) (hv : get σ.hp t = none ∨ V t = v) (hv1 : v.oneCell' = true)
 (hos : w'.os = w.os) (htape : w'.tape = w.tape) (hout : w'.output = w.output) (hsz : w.heap.size ≤ w'.heap.size)
 (hblk : ∀ b, b < w.heap.size → (∀ k, (k = t ∨ k ∈ ks) → ¬ owns σ.hp V B k b) → w'.heap[b]? = w.heap[b]?) (ho : ObR F (updV V t v) (updB B t bs) w' t o) (hids : obIds (Def ((t, o) :: (kill ks ++ σ.hp))) o)
 (hown : ∀ b, owns ((t, o) :: (kill ks ++ σ.hp)) (updV V t v) (updB B t bs) t b → (w.heap.size ≤ b ∧ b < w'.heap.size) ∨ ∃ k, (k = t ∨ k ∈ ks) ∧ owns σ.hp V B k b) :
 Sim n w0 L0 F0 F (updV V t v) (updB B t bs) { σ with hp := (t, o) :: (kill ks ++ σ.hp) } a w' := by
 have hV : ∀ k, Def σ.hp k → updV V t v k = V k := fun k hk => by
  unfold updV
  split
  · rename_i e
    subst e
    rcases hv with hv | hv
    · unfold Def at hk; rw [hv] at hk; cases hk
    · exact hv.symm
  · rfl
 refine hs.step (fun k => k = t ∨ k ∈ ks) hos htape hout hblk hsz hV (fun k hk _ => ?_) (fun b hb => hb) (fun b hb => .inl hb) (fun b hb => Nat.lt_of_lt_of_le (hs.F_lt b hb) hsz) (fun k => ?_) (fun k hk => ?_) (fun k hk => ?_) (fun k o' hk ho' => ?_) (fun k b hk ho' => ?_) (fun k k' b hk hk' h1 h2 => ?_)
 · unfold updB; rw [if_neg (fun e => hk (.inl e))]
 · unfold updV; split
   · exact hv1
   · exact hs.V1 k
 · rw [get_cons, if_neg (fun e => hk (.inl e.symm)), get_append, get_kill_out (fun h => hk (.inr h))]
 · unfold Def at *
   rw [get_cons]
   split
   · rfl
   · rw [get_append]
     split
     · rfl
     · exact hk
 · rw [get_cons] at ho'
   split at ho'
   · rename_i e; subst e; cases ho'; exact ⟨ho, hids⟩
   · rename_i e
     rcases hk with hk | hk
     · exact (e hk.symm).elim
     · rw [get_append, get_kill_in hk] at ho'
       cases ho'
       exact ⟨.gone, trivial⟩
 · have hkt : k = t := by
    rcases hk with hk | hk
    · exact hk
    · unfold owns at ho'
      rw [get_cons, if_neg (fun e => htk (by rw [e]; exact hk)), get_append, get_kill_in hk] at ho'
      exact ho'.elim
   subst hkt
   rcases hown b ho' with ⟨h1, h2⟩ | ⟨k', hk', h1⟩
   · exact ⟨h2, fun hF => absurd (hs.F_lt b hF) (by omega), .inl h1⟩
   · exact ⟨Nat.lt_of_lt_of_le (hs.hp.lt k' b h1) hsz, hs.hp.nF k' b h1, .inr ⟨k', hk', h1⟩⟩
 · have key : ∀ k, (k = t ∨ k ∈ ks) → owns ((t, o) :: (kill ks ++ σ.hp)) (updV V t v) (updB B t bs) k b → k = t := fun k hk h => by
    rcases hk with hk | hk
    · exact hk
    · unfold owns at h
      rw [get_cons, if_neg (fun e => htk (by rw [e]; exact hk)), get_append, get_kill_in hk] at h
      exact h.elim
   rw [key k hk h1, key k' hk' h2]
theorem okDs_def {h : Nat → Option Ob} : ∀ {l : List A}, okDs h l = true → ∀ id ∈ idsL l, (h id).isSome = true
 | [], _, id, hid => by simp [idsL] at hid
 | x :: l, hok, id, hid => by
   simp only [okDs] at hok
   split at hok
   · rename_i hx
     rw [idsL_cons] at hid
     rcases List.mem_append.1 hid with hid | hid
     · cases x <;> simp [idsL] at hid
       subst hid
       simp only [okD] at hx
       cases hg : h id with
       | none => rw [hg] at hx; cases hx
       | some o => rfl
     · exact okDs_def hok id hid
   · cases hok
end Go.Proofs.YthbpdhppelaihaaGreat
/- The conditions of F4 are sound: literals of slices, make, append. Conditions: none. -/
namespace Go.Proofs.YthbpdhppelaihaaGreat
open Go.RowKit
variable {P : Program} {T : List (Nat × TI)}
theorem rep_len {α : Type} (n : Nat) (l : List α) : (rep n l).length = n * l.length := by
 induction n with
 | zero => simp [rep]
 | succ n ih => simp [rep, ih, Nat.add_mul, Nat.add_comm]
theorem rep_get {α : Type} (l : List α) : ∀ (n i : Nat), i < n * l.length → (rep n l)[i]? = l[i % l.length]?
 | 0, i, h => by simp at h
 | n + 1, i, h => by
   simp only [rep]
   rcases Nat.lt_or_ge i l.length with hi | hi
   · rw [List.getElem?_append_left hi, Nat.mod_eq_of_lt hi]
   · rw [List.getElem?_append_right hi, rep_get l n (i - l.length) (by rw [Nat.add_mul] at h; omega)]
     congr 1
     conv => rhs; rw [← Nat.sub_add_cancel hi, Nat.add_mod_right]
theorem rep_toList (z : Array Value) (n : Nat) : ((Array.range (n * z.size)).map (z[· % z.size]!)).toList = rep n z.toList := by
 apply List.ext_getElem?
 intro i
 by_cases h : i < n * z.size
 · rw [rep_get _ _ _ (by simpa using h)]
   have hz : 0 < z.size := by
    rcases Nat.eq_zero_or_pos z.size with h0 | h0
    · rw [h0] at h; simp at h
    · exact h0
   have hm : i % z.size < z.size := Nat.mod_lt _ hz
   simp [h, hm]
 · rw [List.getElem?_eq_none (by simp; omega), List.getElem?_eq_none (by rw [rep_len]; simp; omega)]
theorem RepAs.rep {F : Nat → Prop} {V : Nat → Value} {w : World} {us : List Value} {l : List A} (h : RepAs F V w us l) : ∀ n, RepAs F V w (rep n us) (rep n l)
 | 0 => .nil
 | n + 1 => h.append (h.rep n)
theorem rep_one {us : List Value} (h : ∀ u ∈ us, u.oneCell' = true) : ∀ n, ∀ u ∈ rep n us, u.oneCell' = true
 | 0, u, hu => by simp [Go.Proofs.YthbpdhppelaihaaGreat.rep] at hu
 | n + 1, u, hu => by
   simp only [Go.Proofs.YthbpdhppelaihaaGreat.rep, List.mem_append] at hu
   rcases hu with hu | hu
   · exact h u hu
   · exact rep_one h n u hu
theorem chunk_len (e : Ty) : ∀ (n : Nat) (cs : List C), (chunk e n cs).length = n
 | 0, _ => rfl
 | n + 1, cs => by simp [chunk, chunk_len e n]
theorem byE_le (e : Ty) : byE e ≤ 408 := by cases e <;> decide
theorem run_buildSlice_ {w : World} {t et n : Nat} {ie : TI} (hu : P.underlying t = some (.slice et)) (hie : TOk P et ie) (hs0 : 0 < ie.sz) (hsmall : n * ie.sz ≤ 16777216) {z : Value} (hz : (zeroValue et).run P w = .ok z w) (hzs : z.cells.size = ie.sz) {parts : Array (Nat × Value)} {cs : Array Value}
 (h : Instr.fill (fun i => some (i * ie.sz, ie.sz)) (rep n z.cells.toList).toArray parts.toList = some cs) : (Instr.buildSlice t n parts).run P w = .ok (.slice (some ⟨w.heap.size, 0, none⟩) n n) (w.alloc (.cells cs et)) := by
 have e1 : (Array.range (n * ie.sz)).map (z.cells[· % z.cells.size]!) = (rep n z.cells.toList).toArray := by
  apply Array.toList_inj.1
  rw [← hzs, rep_toList]
 unfold Instr.buildSlice
 simp only [Sem.run_bind, run_underlying hu, Result.andThen_ok, size_of hie]
 rw [if_neg (by simpa using hsmall)]
 by_cases h0 : n * ie.sz = 0
 · have hn : n = 0 := by
    rcases Nat.mul_eq_zero.1 h0 with h1 | h1
    · exact h1
    · omega
   subst hn
   simp only [rep] at h
   have e2 : (Array.range 0).map (fun (x : Nat) => (default : Value)) = (#[] : Array Value) := by simp
   simp [e2, h, newRow]
 · rw [if_neg h0]
   simp only [Sem.run_bind, hz, Result.andThen_ok, Sem.run_pure]
   rw [e1, h]
   simp [newRow]
theorem val_lit (hT : ∀ t i, get T t = some i → TOk P t i) {n : Nat} {o : Oper} (hd : ∀ d, o.dst = some d → d < n) {σ : St} {t et m id : Nat} {ie : TI} {e : Ty} (hu : P.underlying t = some (.slice et)) (hie : TOk P et ie) (hsz : ie.sz = szE e) (het : et = etOf e) (hid : get σ.hp id = none) {parts : Array (Nat × Operand)} (ho : o.op = .buildSlice t m parts)
 (hsmall : m * szE e ≤ 16777216) {l : List A} (hl : fillA (fun i => some (i * szE e, szE e)) (rep m ie.z) (parts.toList.map fun p => (p.1, ev σ p.2)) = some l) {ds cs : List C} (hcs : toCs (get σ.hp) ds l = some cs) (hfl : (chunk e m cs).flatMap (cells e) = cs) :
 Val P n o σ (σ.upd o.dst (.rw id) ((id, .row e (chunk e m cs)) :: frz (get σ.hp) l)) := by
 intro w0 L0 F0 F V B a w hs K Q hK
 obtain ⟨z, hz1, hz2, hz3⟩ := zero_of hie w
 obtain ⟨cv, hcv, hrep, h1, hcvs⟩ := fillA_ok (F := F) (V := V) (w := w) (fun i => some (i * szE e, szE e)) (parts.toList.map fun p => (p.1, ev σ p.2)) (parts.toList.map fun p => (p.1, a.eval p.2)) (rep m ie.z) (rep m z.cells.toList).toArray l hl (by simpa using hz2.reps.rep m) (by simpa using rep_one hz2.one m) (by simp [List.map_map, Function.comp_def]) (fun j i' v b h1 h2 => by
  rw [List.getElem?_map] at h1 h2
  cases hp : parts.toList[j]? with
  | none => rw [hp] at h1; simp at h1
  | some p =>
    rw [hp] at h1 h2
    simp at h1 h2
    obtain ⟨_, rfl⟩ := h1
    obtain ⟨_, rfl⟩ := h2
    exact hs.rep p.2) hs.V1
 have hrun := run_buildSlice_ (P := P) (w := w) (n := m) (parts := parts.map fun (x : Nat × Operand) => (x.1, a.eval x.2)) (cs := cv) hu hie (by rw [hsz]; exact szE_pos e) (by rw [hsz]; exact hsmall) hz1 hz3 (by rw [hsz, Array.toList_map]; exact hcv)
 obtain ⟨F', hF, hs'⟩ := hs.freeze l
 have hidn : get (frz (get σ.hp) l ++ σ.hp) id = none := by
  rw [get_append]
  cases h3 : get (frz (get σ.hp) l) id with
  | none => exact hid
  | some o => obtain ⟨e', xs', _, h4⟩ := frz_spec h3; rw [hid] at h4; rcases h4 with h4 | h4 <;> cases h4
 have hrl := toCs_rep hF hs' (fun x hx => hx) hrep hcs
 have hcl : cv.toList.length = m * szE e := by rw [hrl.length, ← hfl, flat_len, chunk_len]
 have hnew := hs'.new (id := id) hidn (v := .slice (some ⟨w.heap.size, 0, none⟩) m m) rfl (o := .row e (chunk e m cs)) (w' := w.alloc (.cells cv et)) rfl rfl rfl (by rw [alloc_size]; omega) (fun _ _ => rfl) (fun b hb => alloc_old w _ b hb)
  (.row e (chunk e m cs) cv.toList (by
    rw [chunk_len]
    refine rowR_of ⟨hcl, .inr ⟨w.heap.size, m, cv, by simp [updV], Nat.zero_le _, by rw [het]; exact alloc_new w _, Nat.le_refl _, ?_, by rw [← hcl, Array.length_toList], by rw [List.take_of_length_le (by omega)]⟩⟩
    have := szE_pos e
    have : m ≤ m * szE e := Nat.le_mul_of_pos_right _ this
    simp only [maxLen]; omega) (by rw [hfl]; exact hrl.move (fun _ h => h) (fun b hb => alloc_old w _ b (hs'.F_lt b hb))) (by
    rw [chunk_len]
    have h2 := szE_pos e
    have h3 : m ≤ m * szE e := Nat.le_mul_of_pos_right _ h2
    have h4 := byE_le e
    have h5 : m * byE e ≤ 16777216 * 408 := Nat.mul_le_mul (by omega) h4
    omega)) trivial (fun b hb => by
    unfold owns at hb
    rw [get_cons, if_pos rfl] at hb
    simp only [updV, if_true] at hb
    obtain rfl := blk_sl hb
    exact ⟨Nat.le_refl _, by rw [alloc_size]; show w.heap.size < _; omega⟩)
 have hput := hnew.putd hd (v := .slice (some ⟨w.heap.size, 0, none⟩) m m) (r := .rw id) (by have := RepA.rw (F := F') (V := updV V id (.slice (some ⟨w.heap.size, 0, none⟩) m m)) (w := w.alloc (.cells cv et)) id; simpa [updV] using this) (by simp [A.all, Def, get_cons]) (σ.nx + (1 + (frz (get σ.hp) l).length))
 unfold Oper.wp
 have hx : (execOp a.eval o).run P w = .ok (.value (.slice (some ⟨w.heap.size, 0, none⟩) m m)) (w.alloc (.cells cv et)) := by
  simp only [execOp, ho, Sem.run_bind]
  rw [hrun]
  rfl
 rw [hx]
 have e : (σ.upd o.dst (.rw id) ((id, .row e (chunk e m cs)) :: frz (get σ.hp) l)) = { ({ σ with hp := (id, .row e (chunk e m cs)) :: (frz (get σ.hp) l ++ σ.hp) } : St).upd o.dst (.rw id) [] with nx := σ.nx + (1 + (frz (get σ.hp) l).length) } := by
  simp [St.upd, Nat.add_comm]
 rw [← e] at hput
 exact hK _ _ _ _ _ hput
theorem val_litD (hT : ∀ t i, get T t = some i → TOk P t i) {n : Nat} {o : Oper} (hd : ∀ d, o.dst = some d → d < n) {σ : St} {t et m id : Nat} {ie : TI} {e : Ty} (hu : P.underlying t = some (.slice et)) (hie : TOk P et ie) (hsz : ie.sz = szE e) (het : et = etOf e) (hid : get σ.hp id = none) {parts : Array (Nat × Operand)} (ho : o.op = .buildSlice t m parts)
 (hsmall : m * szE e ≤ 16777216) {l : List A} (hl : fillA (fun i => some (i * szE e, szE e)) (rep m ie.z) (parts.toList.map fun p => (p.1, ev σ p.2)) = some l) {ds cs : List C} (hcs : toCs (get σ.hp) ds l = some cs) (hfl : (chunk e m cs).flatMap (cells e) = cs) (hok : okDs (get σ.hp) l = true) (hnd : nodupN (idsL l) = true) :
 Val P n o σ (σ.upd o.dst (.rw id) ((id, .dp e (chunk e m cs)) :: kill (idsL l))) := by
 intro w0 L0 F0 F V B a w hs K Q hK
 obtain ⟨z, hz1, hz2, hz3⟩ := zero_of hie w
 obtain ⟨cv, hcv, hrep, h1, hcvs⟩ := fillA_ok (F := F) (V := V) (w := w) (fun i => some (i * szE e, szE e)) (parts.toList.map fun p => (p.1, ev σ p.2)) (parts.toList.map fun p => (p.1, a.eval p.2)) (rep m ie.z) (rep m z.cells.toList).toArray l hl (by simpa using hz2.reps.rep m) (by simpa using rep_one hz2.one m) (by simp [List.map_map, Function.comp_def]) (fun j i' v b h1 h2 => by
  rw [List.getElem?_map] at h1 h2
  cases hp : parts.toList[j]? with
  | none => rw [hp] at h1; simp at h1
  | some p =>
    rw [hp] at h1 h2
    simp at h1 h2
    obtain ⟨_, rfl⟩ := h1
    obtain ⟨_, rfl⟩ := h2
    exact hs.rep p.2) hs.V1
 have hrun := run_buildSlice_ (P := P) (w := w) (n := m) (parts := parts.map fun (x : Nat × Operand) => (x.1, a.eval x.2)) (cs := cv) hu hie (by rw [hsz]; exact szE_pos e) (by rw [hsz]; exact hsmall) hz1 hz3 (by rw [hsz, Array.toList_map]; exact hcv)
 obtain ⟨bs, hown, hbo⟩ := okDs_own hs hrep hok (nodupN_iff hnd) hcs
 have hcl : cv.toList.length = m * szE e := by rw [hown.length, ← hfl, flat_len, chunk_len]
 have hbl : ∀ b ∈ bs, b < w.heap.size := fun b hb => by obtain ⟨k, _, hk⟩ := hbo b hb; exact hs.hp.lt k b hk
 have hdf := okDs_def hok
 have hoo : Own (w.alloc (.cells cv et)) (.slice (some ⟨w.heap.size, 0, none⟩) m m) (.sl e (chunk e m cs)) (bkl (.slice (some ⟨w.heap.size, 0, none⟩) m m) ++ bs) := by
  refine .sl e _ _ cv.toList bs ?_ ?_ ?_ ?_
  · rw [chunk_len]
    have h2 := szE_pos e
    have h3 : m ≤ m * szE e := Nat.le_mul_of_pos_right _ h2
    have h4 := byE_le e
    have h5 : m * byE e ≤ 16777216 * 408 := Nat.mul_le_mul (by omega) h4
    omega
  · rw [chunk_len]
    refine rowR_of ⟨hcl, .inr ⟨w.heap.size, m, cv, rfl, Nat.zero_le _, by rw [het]; exact alloc_new w _, Nat.le_refl _, ?_, by rw [← hcl, Array.length_toList], by rw [List.take_of_length_le (by omega)]⟩⟩
    have := szE_pos e
    have : m ≤ m * szE e := Nat.le_mul_of_pos_right _ this
    simp only [maxLen]; omega
  · rw [hfl]; exact hown.move fun b hb => alloc_old w _ b (hbl b hb)
  · rw [List.nodup_append]
    refine ⟨by unfold bkl; cases blk _ <;> simp, hown.nodup, fun x hx y hy e => ?_⟩
    have := blk_sl (bkl_mem.1 hx)
    have := hbl y hy
    simp only at *
    omega
 have hnew := hs.turn (t := id) (ks := idsL l) (v := .slice (some ⟨w.heap.size, 0, none⟩) m m) (bs := bkl (.slice (some ⟨w.heap.size, 0, none⟩) m m) ++ bs) (o := .dp e (chunk e m cs)) (w' := w.alloc (.cells cv et)) (fun hm => by have := hdf id hm; rw [hid] at this; cases this) (fun k hk => hdf k hk) (.inl hid) rfl rfl rfl rfl (by rw [alloc_size]; omega)
  (fun b hb _ => alloc_old w _ b hb) (.dp e _ (by simp only [updV, updB, if_true]; exact hoo)) trivial (fun b hb => by
    unfold owns at hb
    rw [get_cons, if_pos rfl] at hb
    simp only [updB, if_true] at hb
    rcases List.mem_append.1 hb with hb | hb
    · obtain rfl := blk_sl (bkl_mem.1 hb)
      exact .inl ⟨Nat.le_refl _, by rw [alloc_size]; show w.heap.size < _; omega⟩
    · obtain ⟨k, hk, hko⟩ := hbo b hb
      exact .inr ⟨k, .inr hk, hko⟩)
 have hput := hnew.putd hd (v := .slice (some ⟨w.heap.size, 0, none⟩) m m) (r := .rw id) (by have := RepA.rw (F := F) (V := updV V id (.slice (some ⟨w.heap.size, 0, none⟩) m m)) (w := w.alloc (.cells cv et)) id; simpa [updV] using this) (by simp [A.all, Def, get_cons]) (σ.nx + (1 + (kill (idsL l)).length))
 unfold Oper.wp
 have hx : (execOp a.eval o).run P w = .ok (.value (.slice (some ⟨w.heap.size, 0, none⟩) m m)) (w.alloc (.cells cv et)) := by
  simp only [execOp, ho, Sem.run_bind]
  rw [hrun]
  rfl
 rw [hx]
 have e : (σ.upd o.dst (.rw id) ((id, .dp e (chunk e m cs)) :: kill (idsL l))) = { ({ σ with hp := (id, .dp e (chunk e m cs)) :: (kill (idsL l) ++ σ.hp) } : St).upd o.dst (.rw id) [] with nx := σ.nx + (1 + (kill (idsL l)).length) } := by
  simp [St.upd, Nat.add_comm]
 rw [← e] at hput
 exact hK _ _ _ _ _ hput
theorem castTy_ok : ∀ (e e' : Ty) (ys : List (El e')) (zs : List (El e)), castTy e e' ys = some zs → e = e' ∧ ys.flatMap (cells e') = zs.flatMap (cells e) ∧ ys.length = zs.length := by
 intro e e' ys zs h
 cases e <;> cases e' <;> first | (cases h; exact ⟨rfl, rfl, rfl⟩) | (cases h; done)
theorem run_append_ {w : World} {t et : Nat} {ty : TypeId} {ie : TI} {e : Ty} (hu : P.underlying t = some (.slice et)) (hie : TOk P et ie) (hsz : ie.sz = szE e) (hby : ie.by_ = byE e) {v : Value} {n : Nat} {us : List Value} (hown : w.ownsRow 0 et (szE e) v n us) {A0 : Option Addr} {m c : Nat} {news : List Value} (hl : news.length = m * szE e) (hc : 0 < m → ∃ ad, A0 = some ad ∧ CellsAt w ad news) (h1 : ∀ u ∈ news, u.oneCell' = true) (hb : (n + m) * byE e ≤ 140737488355328) :
 ∃ v' w', (Builtin.append_ #[t, t] ty #[v, .slice A0 m c]).run P w = .ok v' w' ∧ w'.ownsRow 0 et (szE e) v' (n + m) (us ++ news) ∧ w.grownBy w' v.ownBlock ∧ (v'.ownBlock = v.ownBlock ∨ v'.ownBlock = some w.heap.size) := by
 obtain ⟨y, z, hy, hys, hyb, hyz, _, hzs⟩ := hie.inf
 have hpos := byE_pos e
 have hnm : n + m ≤ 140737488355328 := Nat.le_trans (Nat.le_mul_of_pos_right _ hpos) hb
 cases A0 with
 | some ad =>
   obtain ⟨v', w', h2, h3, h4, _, h5⟩ := run_append_own_at (P := P) w 0 t ty et y z (szE e) (byE e) hu hy hyz (by rw [hys, hsz]) (by rw [hyb, hby]) (by rw [hzs, hsz]) (szE_pos e) v n us hown ad m c news hl (by
    intro j u hj
    rcases Nat.eq_zero_or_pos m with h0 | h0
    · subst h0
      have : news = [] := List.eq_nil_of_length_eq_zero (by simpa using hl)
      subst this
      simp at hj
    · obtain ⟨ad', h6, h7⟩ := hc h0
      cases h6
      exact h7 j u hj) h1 (by simp only [maxLen]; omega) hb (Nat.zero_le _)
   exact ⟨v', w', h2, h3, h4, h5⟩
 | none =>
   have hm : m = 0 := by
    rcases Nat.eq_zero_or_pos m with h0 | h0
    · exact h0
    · obtain ⟨ad', h6, _⟩ := hc h0
      cases h6
   subst hm
   have : news = [] := List.eq_nil_of_length_eq_zero (by simpa using hl)
   subst this
   refine ⟨v, w, ?_, by simpa using hown, World.grownBy.refl w _, .inl rfl⟩
   rcases hown.2 with ⟨rfl, hn⟩ | ⟨g, cap, cur, rfl, hb', _, hnc, _⟩
   · simp [Builtin.append_, run_underlying hu, sizeOf, typeInfo, hy, Builtin.lenOf, Builtin.firstCells]
   · simp [Builtin.append_, run_underlying hu, sizeOf, typeInfo, hy, Builtin.lenOf, Builtin.firstCells, hnc, storeCells]
theorem run_append_R {w : World} {t : Nat} {ty : TypeId} {ie : TI} {e : Ty} (hu : P.underlying t = some (.slice (etOf e))) (hie : TOk P (etOf e) ie) (hsz : ie.sz = szE e) (hby : ie.by_ = byE e) {v : Value} {n : Nat} {us : List Value} (hown : rowR w e v n us) {A0 : Option Addr} {m c : Nat} {news : List Value} (hl : news.length = m * szE e) (hc : 0 < m → ∃ ad, A0 = some ad ∧ CellsAt w ad news) (h1 : ∀ u ∈ news, u.oneCell' = true) (hb : (n + m) * byE e ≤ 140737488355328) :
 ∃ v' w', (Builtin.append_ #[t, t] ty #[v, .slice A0 m c]).run P w = .ok v' w' ∧ rowR w' e v' (n + m) (us ++ news) ∧ w'.os = w.os ∧ w'.tape = w.tape ∧ w'.output = w.output ∧ w.heap.size ≤ w'.heap.size ∧ (∀ b, b < w.heap.size → blk v ≠ some b → w'.heap[b]? = w.heap[b]?) ∧ ∀ b, blk v' = some b → blk v = some b ∨ b = w.heap.size := by
 have hnew : ∀ (k old : Nat), True := fun _ _ => trivial
 by_cases hz : ∃ ad, v = .slice (some ad) 0 0
 · obtain ⟨ad, rfl⟩ := hz
   have hn : n = 0 := by
    rcases hown.2 with ⟨a, h1, h2⟩ | ⟨g, cap, cur, h1, _⟩
    · exact h2
    · cases h1
   subst hn
   have hus : us = [] := List.eq_nil_of_length_eq_zero (by simpa using hown.1)
   subst hus
   obtain ⟨y, z, hy, hys, hyb, hyz, _, hzs⟩ := hie.inf
   by_cases hm : m = 0
   · subst hm
     have : news = [] := List.eq_nil_of_length_eq_zero (by simpa using hl)
     subst this
     refine ⟨.slice (some ad) 0 0, w, ?_, by simpa using hown, rfl, rfl, rfl, Nat.le_refl _, fun _ _ _ => rfl, fun b hb => .inl hb⟩
     cases A0 <;> simp [Builtin.append_, run_underlying hu, sizeOf, typeInfo, hy, Builtin.lenOf, Builtin.firstCells, loadCells, loadCellsFrom, storeCells]
   · obtain ⟨ad', rfl, hcc⟩ := hc (by omega)
     have hbp := byE_pos e
     have hmb : m ≤ 140737488355328 := Nat.le_trans (Nat.le_mul_of_pos_right _ hbp) (by simpa using hb)
     have hfit : Builtin.nextslicecap (0 + m) 0 * y.bytes ≤ 281474976710656 := growslice_fits (by omega) (by rw [hyb, hby]; exact hb)
     have hr := run_append_grow (P := P) w t ty (etOf e) y z hu hy hyz ad 0 0 [] (by simp) (by simp) ad' m c news (by rw [hys, hsz]; exact hl) hcc (by omega) (by omega) hfit
     have hge := grownCap_ge w (0 + m) 0 (etOf e)
     have hcm : grownCap w (0 + m) 0 (etOf e) ≤ maxLen := grownCap_le_maxLen w (0 + m) 0 (etOf e) (by simp only [maxLen]; omega)
     simp only [Nat.zero_add] at hr hge hcm ⊢
     refine ⟨_, _, hr, rowR_of ⟨by simpa using hl, .inr ⟨w.heap.size, _, _, rfl, Nat.zero_le _, heap_alloc_new w.drew _, hge, hcm, ?_, ?_⟩⟩, rfl, rfl, rfl, by simp, fun k hk _ => alloc_old w.drew _ k hk, fun b hb => .inr (blk_sl hb)⟩
     · simp only [List.nil_append, Array.size_append, List.size_toArray, size_zeroCells, hzs, hl, hsz, ← Nat.add_mul, List.length_nil, Nat.zero_add]
       congr 1
       omega
     · simp only [Array.toList_append, List.nil_append]
       have : m * szE e = news.length := by rw [hl]
       rw [this]
       exact List.take_left
 · have hz' : ∀ a, v ≠ .slice (some a) 0 0 := fun a h => hz ⟨a, h⟩
   have hown0 := rowR_own hown hz'
   obtain ⟨v', w', hrun, ho', hg, hat⟩ := run_append_ (P := P) (w := w) (ty := ty) hu hie hsz hby hown0 (A0 := A0) (c := c) hl hc h1 hb
   have hvb : v.ownBlock = blk v := by
    rcases hown.2 with ⟨a, rfl, _⟩ | ⟨g, cap, cur, rfl, _⟩
    · cases a with
      | none => rfl
      | some a => exact (hz' a rfl).elim
    · rfl
   refine ⟨v', w', hrun, rowR_of ho', hg.os, hg.tape, hg.output, hg.size, fun b hb' hne => hg.block b hb' (by rw [hvb]; exact fun e => hne e.symm), fun b hb' => ?_⟩
   have hb2 : v'.ownBlock = some b := by
    rcases ho'.2 with ⟨rfl, _⟩ | ⟨g, cap, cur, rfl, _⟩
    · cases hb'
    · rw [blk_sl hb']; rfl
   rcases hat with h | h
   · rw [hb2, hvb] at h; exact .inl h.symm
   · rw [hb2] at h; cases h; exact .inr rfl
def appCall (c : Call) (s x : Operand) (t : Nat) : Prop := c = ⟨.builtin .append, #[s, x], #[t, t]⟩
theorem news_rep {n : Nat} {w0 : World} {L0 : Old} {F0 F : Nat → Prop} {V : Nat → Value} {B : Nat → List Nat} {σ : St} {a : Act} {w : World} (hs : Sim n w0 L0 F0 F V B σ a w) {x : Operand} {h : Nat → Option Ob} (hag : ∀ id ∈ rdOf (ev σ x), get σ.hp id = h id) {e e' : Ty} {ys : List (El e')} {zs : List (El e)}
 (hx : (match ev σ x with | .nl => some ⟨e, []⟩ | x => isRow h x : Option ((e : Ty) × List (El e))) = some ⟨e', ys⟩) (hz : castTy e e' ys = some zs) :
 ∃ (A0 : Option Addr) (c : Nat) (us : List Value), a.eval x = .slice A0 zs.length c ∧ zs.length * byE e ≤ 140737488355328 ∧ RepL F w us (zs.flatMap (cells e)) ∧ (0 < zs.length → ∃ ad, A0 = some ad ∧ CellsAt w ad us) := by
 obtain ⟨rfl, h2, h3⟩ := castTy_ok _ _ _ _ hz
 rw [← h2, ← h3]
 split at hx
 · rename_i hxe
   cases hx
   have hr := hs.rep x
   rw [hxe] at hr
   generalize a.eval x = pv at hr
   cases hr
   exact ⟨none, 0, [], rfl, by simp, .nil, fun hp => by simp at hp⟩
 · obtain ⟨A0, c, us, h4, _, h5, h6, h7⟩ := isRow_rep hs hag hx
   exact ⟨A0, c, us, h4, h5, h6, h7⟩
theorem val_app_nl (hT : ∀ t i, get T t = some i → TOk P t i) {n : Nat} {o : Oper} (hd : ∀ d, o.dst = some d → d < n) {σ : St} {t et id : Nat} {ie : TI} {e e' : Ty} (hu : P.underlying t = some (.slice et)) (hie : TOk P et ie) (hsz : ie.sz = szE e) (hby : ie.by_ = byE e) (het : et = etOf e) (hid : get σ.hp id = none) {s x : Operand} {c : Call} (hc : appCall c s x t) (ho : o.op = .call c)
 (hsn : ev σ s = .nl) {h : Nat → Option Ob} (hag : ∀ id ∈ rdOf (ev σ x), get σ.hp id = h id) {ys : List (El e')} {zs : List (El e)}
 (hx : (match ev σ x with | .nl => some ⟨e, []⟩ | x => isRow h x : Option ((e : Ty) × List (El e))) = some ⟨e', ys⟩) (hz : castTy e e' ys = some zs) : Val P n o σ (σ.upd o.dst (.rw id) [(id, .row e zs)]) := by
 subst het
 unfold appCall at hc
 subst hc
 intro w0 L0 F0 F V B a w hs K Q hK
 obtain ⟨A0, c, us, hxe, hb, hr, hcl⟩ := news_rep hs hag hx hz
 have hse : a.eval s = .slice none 0 0 := by
  have h1 := hs.rep s
  rw [hsn] at h1
  generalize a.eval s = pv at h1
  cases h1
  rfl
 have hul : us.length = zs.length * szE e := by rw [hr.length, flat_len]
 obtain ⟨v', w', hrun, hown, hos, htp, hou, hsize, hold, hat⟩ := run_append_R (P := P) (w := w) (ty := o.type) hu hie hsz hby (v := .slice none 0 0) (n := 0) (us := []) ⟨by simp, .inl ⟨none, rfl, rfl⟩⟩ hul (c := c) hcl hr.one (by simpa using hb)
 have hold : ∀ b, b < w.heap.size → w'.heap[b]? = w.heap[b]? := fun b hb' => hold b hb' (by simp [blk])
 have hown : rowR w' e v' zs.length us := by simpa using hown
 have hnew := hs.new (id := id) hid (v := v') hown.one (o := .row e zs) (w' := w') hos htp hou hsize (B' := B) (fun _ _ => rfl) hold
  (.row e zs us (by simpa [updV] using hown) (hr.move (fun _ h => h) (fun b hb' => hold b (hs.F_lt b hb'))) hb) trivial (fun b hb' => by
    unfold owns at hb'
    rw [get_cons, if_pos rfl] at hb'
    simp only [updV, if_true] at hb'
    refine ⟨?_, hown.lt b hb'⟩
    rcases hat b hb' with h1 | h1
    · cases h1
    · omega)
 have hput := hnew.putd hd (v := v') (r := .rw id) (by have := RepA.rw (F := F) (V := updV V id v') (w := w') id; simpa [updV] using this) (by simp [A.all, Def, get_cons]) (σ.nx + 1)
 unfold Oper.wp
 have hxx : (execOp a.eval o).run P w = .ok (.value v') w' := by
  simp only [execOp, ho, resolve, invoke, builtin]
  simp [hse, hxe, hrun]
 rw [hxx]
 exact hK _ _ _ _ _ hput
theorem val_app_rw (hT : ∀ t i, get T t = some i → TOk P t i) {n : Nat} {o : Oper} (hd : ∀ d, o.dst = some d → d < n) {σ : St} {t et id nid : Nat} {ie : TI} {e e' : Ty} (hu : P.underlying t = some (.slice et)) (hie : TOk P et ie) (hsz : ie.sz = szE e) (hby : ie.by_ = byE e) (het : et = etOf e) (hid : get σ.hp nid = none) {s x : Operand} {c : Call} (hc : appCall c s x t) (ho : o.op = .call c)
 {xs : List (El e)} (hsn : ev σ s = .rw id) (hso : get σ.hp id = some (.row e xs)) {h : Nat → Option Ob} (hag : ∀ id ∈ rdOf (ev σ x), get σ.hp id = h id) {ys : List (El e')} {zs : List (El e)}
 (hx : (match ev σ x with | .nl => some ⟨e, []⟩ | x => isRow h x : Option ((e : Ty) × List (El e))) = some ⟨e', ys⟩) (hz : castTy e e' ys = some zs) (hlen : (xs.length + zs.length) * byE e ≤ 140737488355328) : Val P n o σ (σ.upd o.dst (.rw nid) [(id, .gone), (nid, .row e (xs ++ zs))]) := by
 subst het
 unfold appCall at hc
 subst hc
 intro w0 L0 F0 F V B a w hs K Q hK
 obtain ⟨A0, c, us, hxe, hb, hr, hcl⟩ := news_rep hs hag hx hz
 have hse : a.eval s = V id := by
  have h1 := hs.rep s
  rw [hsn] at h1
  generalize a.eval s = pv at h1
  cases h1
  rfl
 have hob := hs.hp.ob id _ hso
 cases hob with
 | row _ _ us0 hown0 hr0 hb0 =>
 have hul : us.length = zs.length * szE e := by rw [hr.length, flat_len]
 obtain ⟨v', w', hrun, hown, hos, htp, hou, hsize, hold0, hat⟩ := run_append_R (P := P) (w := w) (ty := o.type) hu hie hsz hby hown0 hul (c := c) hcl hr.one hlen
 have hne : nid ≠ id := by rintro rfl; rw [hso] at hid; cases hid
 have hoid : ∀ b, owns σ.hp V B id b ↔ blk (V id) = some b := by intro b; unfold owns; rw [hso]
 have hold : ∀ b, b < w.heap.size → (∀ k, (k = nid ∨ k ∈ [id]) → ¬ owns σ.hp V B k b) → w'.heap[b]? = w.heap[b]? := fun b hb' hno => hold0 b hb' (fun h1 => hno id (.inr (by simp)) ((hoid b).2 h1))
 have hFold : ∀ b, F b → w'.heap[b]? = w.heap[b]? := fun b hF => hold b (hs.F_lt b hF) (fun k _ => not_owned_of_F hs.hp hF k)
 have hnew := hs.turn (t := nid) (ks := [id]) (v := v') (bs := []) (o := .row e (xs ++ zs)) (w' := w') (by simpa using hne) (fun k hk => by simp at hk; subst hk; unfold Def; rw [hso]; rfl) (.inl hid) hown.one hos htp hou hsize hold
  (.row e (xs ++ zs) (us0 ++ us) (by rw [List.length_append]; simpa [updV] using hown) (by
    rw [List.flatMap_append]
    exact (hr0.move (fun _ h => h) hFold).append (hr.move (fun _ h => h) hFold)) (by rw [List.length_append]; exact hlen)) trivial (fun b hb' => by
    unfold owns at hb'
    rw [get_cons, if_pos rfl] at hb'
    simp only [updV, if_true] at hb'
    rcases hat b hb' with h1 | h1
    · exact .inr ⟨id, .inr (by simp), (hoid b).2 h1⟩
    · exact .inl ⟨by omega, hown.lt b hb'⟩)
 have hput := hnew.putd hd (v := v') (r := .rw nid) (by have := RepA.rw (F := F) (V := updV V nid v') (w := w') nid; simpa [updV] using this) (by simp [A.all, Def, get_cons]) (σ.nx + 2)
 unfold Oper.wp
 have hxx : (execOp a.eval o).run P w = .ok (.value v') w' := by
  simp only [execOp, ho, resolve, invoke, builtin]
  simp [hse, hxe, hrun]
 rw [hxx]
 refine hK _ _ _ _ _ (hput.congr (fun t => rfl) (fun k => ?_))
 show get ([(id, Ob.gone), (nid, .row e (xs ++ zs))] ++ σ.hp) k = get ((nid, .row e (xs ++ zs)) :: (kill [id] ++ σ.hp)) k
 simp only [kill, List.cons_append, List.nil_append, get_cons]
 by_cases h1 : id = k
 · subst h1; simp [hne]
 · by_cases h2 : nid = k
   · subst h2; simp [h1]
   · simp [h1, h2]
theorem val_appD (hT : ∀ t i, get T t = some i → TOk P t i) {n : Nat} {o : Oper} (hd : ∀ d, o.dst = some d → d < n) {σ : St} {t et nid idx : Nat} {ie : TI} {e e' : Ty} (hu : P.underlying t = some (.slice et)) (hie : TOk P et ie) (hsz : ie.sz = szE e) (hby : ie.by_ = byE e) (het : et = etOf e) (hid : get σ.hp nid = none) {s x : Operand} {c : Call} (hc : appCall c s x t) (ho : o.op = .call c)
 {ks : List Nat} {xs : List (El e)} (hsn : (ev σ s = .nl ∧ ks = [idx] ∧ xs = []) ∨ ∃ id, ev σ s = .rw id ∧ id ≠ idx ∧ ks = [id, idx] ∧ (get σ.hp id = some (.dp e xs) ∨ (get σ.hp id = some (.row e []) ∧ xs = []))) {ys : List (El e')} {zs : List (El e)}
 (hx : ev σ x = .rw idx) (hxo : get σ.hp idx = some (.dp e' ys)) (hz : castTy e e' ys = some zs) (hlen : (xs.length + zs.length) * byE e ≤ 140737488355328) : Val P n o σ (σ.upd o.dst (.rw nid) ((nid, .dp e (xs ++ zs)) :: kill ks)) := by
 subst het
 unfold appCall at hc
 subst hc
 intro w0 L0 F0 F V B a w hs K Q hK
 obtain ⟨rfl, hzc, hzl⟩ := castTy_ok _ _ _ _ hz
 have hxe : a.eval x = V idx := by
  have h1 := hs.rep x
  rw [hx] at h1
  generalize a.eval x = pv at h1
  cases h1
  rfl
 have hobx := hs.hp.ob idx _ hxo
 have hox : ∀ b, owns σ.hp V B idx b ↔ b ∈ B idx := by intro b; unfold owns; rw [hxo]
 cases hobx with
 | dp _ _ hown1 =>
 obtain ⟨us1, b1, hb1, hro1, hr1, hn1, hB1⟩ := hown1.inv
 rw [hzc] at hr1
 rw [hzl] at hro1 hb1
 obtain ⟨A0, c, hvx, hle, hA⟩ := hro1.cells
 -- the row that it goes to
 obtain ⟨v0, us0, b0, hse, hro0, hr0, hn0, hb0o, hksd, hbk0, hne0⟩ : ∃ v0 us0 b0, a.eval s = v0 ∧ rowR w e v0 xs.length us0 ∧ OwnL w us0 (xs.flatMap (cells e)) b0 ∧ (bkl v0 ++ b0).Nodup ∧ (∀ b ∈ b0, ∃ k ∈ ks, k ≠ idx ∧ owns σ.hp V B k b) ∧ (∀ k ∈ ks, Def σ.hp k) ∧ (∀ b, blk v0 = some b → ∃ k ∈ ks, k ≠ idx ∧ owns σ.hp V B k b) ∧ idx ∈ ks := by
  rcases hsn with ⟨h1, rfl, rfl⟩ | ⟨id, h1, h2, rfl, h3⟩
  · have h4 := hs.rep s
    rw [h1] at h4
    generalize hpv : a.eval s = pv at h4
    cases h4
    exact ⟨_, [], [], rfl, ⟨by simp, .inl ⟨none, rfl, rfl⟩⟩, .nil, by simp [bkl, blk], fun b hb => by simp at hb, fun k hk => by simp at hk; subst hk; unfold Def; rw [hxo]; rfl, fun b hb => by simp [blk] at hb, by simp⟩
  · have h4 := hs.rep s
    rw [h1] at h4
    generalize hpv : a.eval s = pv at h4
    cases h4
    rcases h3 with h3 | ⟨h3, rfl⟩
    · have hob := hs.hp.ob id _ h3
      cases hob with
      | dp _ _ hown0 =>
        obtain ⟨us0, b0, _, hro0, hr0, hn0, hB0⟩ := hown0.inv
        have ho0 : ∀ b, b ∈ bkl (V id) ++ b0 → owns σ.hp V B id b := fun b hb => by unfold owns; rw [h3, hB0]; exact hb
        exact ⟨_, us0, b0, rfl, hro0, hr0, hn0, fun b hb => ⟨id, by simp, h2, ho0 b (List.mem_append_right _ hb)⟩, fun k hk => by simp at hk; rcases hk with rfl | rfl <;> unfold Def <;> simp [h3, hxo], fun b hb => ⟨id, by simp, h2, ho0 b (List.mem_append_left _ (bkl_mem.2 hb))⟩, by simp⟩
    · have hob := hs.hp.ob id _ h3
      cases hob with
      | row _ _ us0 hro0 hr0 hb0 =>
        have hr0' := own_flats (.inr rfl) hr0
        exact ⟨_, us0, [], rfl, hro0, hr0', by unfold bkl; cases blk _ <;> simp, fun b hb => by simp at hb, fun k hk => by simp at hk; rcases hk with rfl | rfl <;> unfold Def <;> simp [h3, hxo], fun b hb => ⟨id, by simp, h2, by unfold owns; rw [h3]; exact hb⟩, by simp⟩
 have hul : us1.length = zs.length * szE e := by rw [hr1.length, flat_len]
 obtain ⟨v', w', hrun, hown, hos, htp, hou, hsize, hold0, hat⟩ := run_append_R (P := P) (w := w) (ty := o.type) hu hie hsz hby hro0 hul (A0 := A0) (c := c) (fun hp => by obtain ⟨g, h1, _, h2⟩ := hA hp; exact ⟨_, h1, h2⟩) hr1.one hlen
 have hox1 : ∀ b ∈ b1, owns σ.hp V B idx b := fun b hb => (hox b).2 (by rw [hB1]; exact List.mem_append_right _ hb)
 have hdisj : ∀ b k, k ≠ idx → owns σ.hp V B k b → ¬ owns σ.hp V B idx b := fun b k hk h1 h2 => hk (hs.hp.apart k idx b h1 h2)
 have hkeep0 : ∀ b ∈ b0, w'.heap[b]? = w.heap[b]? := fun b hb => hold0 b (hr0.lt b hb) fun h => by
  rw [List.nodup_append] at hn0
  exact hn0.2.2 b (bkl_mem.2 h) b hb rfl
 have hkeep1 : ∀ b ∈ b1, w'.heap[b]? = w.heap[b]? := fun b hb => hold0 b (hr1.lt b hb) fun h => by
  obtain ⟨k, _, hk, hko⟩ := hbk0 b h
  exact hdisj b k hk hko (hox1 b hb)
 have hnd : (bkl v' ++ (b0 ++ b1)).Nodup := by
  rw [List.nodup_append, List.nodup_append]
  refine ⟨by unfold bkl; cases blk _ <;> simp, ⟨hr0.nodup, hr1.nodup, fun x hx y hy e => ?_⟩, fun x hx y hy e => ?_⟩
  · subst e
    obtain ⟨k, _, hk, hko⟩ := hb0o x hx
    exact hdisj x k hk hko (hox1 x hy)
  · subst e
    rcases List.mem_append.1 hy with hy | hy
    · rcases hat x (bkl_mem.1 hx) with h | h
      · rw [List.nodup_append] at hn0
        exact hn0.2.2 x (bkl_mem.2 h) x hy rfl
      · have := hr0.lt x hy; omega
    · rcases hat x (bkl_mem.1 hx) with h | h
      · obtain ⟨k, _, hk, hko⟩ := hbk0 x h
        exact hdisj x k hk hko (hox1 x hy)
      · have := hr1.lt x hy; omega
 have hoo : Own w' v' (.sl e (xs ++ zs)) (bkl v' ++ (b0 ++ b1)) := by
  refine .sl e _ _ (us0 ++ us1) _ (by rw [List.length_append]; exact hlen) (by rw [List.length_append]; exact hown) ?_ hnd
  rw [List.flatMap_append]
  exact (hr0.move hkeep0).append (hr1.move hkeep1) fun x hx hx1 => by
   obtain ⟨k, _, hk, hko⟩ := hb0o x hx
   exact hdisj x k hk hko (hox1 x hx1)
 have hnew := hs.turn (t := nid) (ks := ks) (v := v') (bs := bkl v' ++ (b0 ++ b1)) (o := .dp e (xs ++ zs)) (w' := w') (fun hm => by have := hksd nid hm; unfold Def at this; rw [hid] at this; cases this) hksd (.inl hid) hown.one hos htp hou hsize
  (fun b hb hno => hold0 b hb fun h => by obtain ⟨k, hk, _, hko⟩ := hbk0 b h; exact hno k (.inr hk) hko) (.dp e _ (by simp only [updV, updB, if_true]; exact hoo)) trivial (fun b hb => by
    unfold owns at hb
    rw [get_cons, if_pos rfl] at hb
    simp only [updB, if_true] at hb
    rcases List.mem_append.1 hb with hb | hb
    · rcases hat b (bkl_mem.1 hb) with h | h
      · obtain ⟨k, hk, _, hko⟩ := hbk0 b h
        exact .inr ⟨k, .inr hk, hko⟩
      · exact .inl ⟨by omega, hown.lt b (bkl_mem.1 hb)⟩
    · rcases List.mem_append.1 hb with hb | hb
      · obtain ⟨k, hk, _, hko⟩ := hb0o b hb
        exact .inr ⟨k, .inr hk, hko⟩
      · exact .inr ⟨idx, .inr hne0, hox1 b hb⟩)
 have hput := hnew.putd hd (v := v') (r := .rw nid) (by have := RepA.rw (F := F) (V := updV V nid v') (w := w') nid; simpa [updV] using this) (by simp [A.all, Def, get_cons]) (σ.nx + (1 + (kill ks).length))
 unfold Oper.wp
 have hxx : (execOp a.eval o).run P w = .ok (.value v') w' := by
  simp only [execOp, ho, resolve, invoke, builtin]
  simp [hse, hxe, hvx, hrun]
 rw [hxx]
 have e : (σ.upd o.dst (.rw nid) ((nid, .dp e (xs ++ zs)) :: kill ks)) = { ({ σ with hp := (nid, .dp e (xs ++ zs)) :: (kill ks ++ σ.hp) } : St).upd o.dst (.rw nid) [] with nx := σ.nx + (1 + (kill ks).length) } := by
  simp [St.upd, Nat.add_comm]
 rw [← e] at hput
 exact hK _ _ _ _ _ hput
end Go.Proofs.YthbpdhppelaihaaGreat
/- The conditions of F4 are sound: make, cuts, conversions, stores, calls. Conditions: none. -/
namespace Go.Proofs.YthbpdhppelaihaaGreat
open Go.RowKit
variable {P : Program} {T : List (Nat × TI)}
theorem new_row {n : Nat} {o : Oper} (hd : ∀ d, o.dst = some d → d < n) {σ : St} {id : Nat} (hid : get σ.hp id = none) {e : Ty} {zs : List (El e)} {ob : Ob} (hob : ob = .row e zs ∨ ob = .dp e zs)
 (h : ∀ {w0 : World} {L0 : Old} {F0 F : Nat → Prop} {V : Nat → Value} {B : Nat → List Nat} {a : Act} {w : World}, Sim n w0 L0 F0 F V B σ a w → ∃ (v' : Value) (w' : World) (us : List Value), (execOp a.eval o).run P w = .ok (.value v') w' ∧ w'.ownsRow 0 (etOf e) (szE e) v' zs.length us ∧ OwnL w us (zs.flatMap (cells e)) [] ∧ zs.length * byE e ≤ 140737488355328 ∧ w.grownBy w' none ∧ ∀ b, blk v' = some b → w.heap.size ≤ b) : Val P n o σ (σ.upd o.dst (.rw id) [(id, ob)]) := by
 intro w0 L0 F0 F V B a w hs K Q hK
 obtain ⟨v', w', us, hrun, hown0, hr, hb, hg, hnb⟩ := h hs
 have hown := rowR_of hown0
 have hold : ∀ b, b < w.heap.size → w'.heap[b]? = w.heap[b]? := fun b hb' => hg.block b hb' (by simp)
 have hr' : OwnL w' us (zs.flatMap (cells e)) [] := hr.move fun b hb => by simp at hb
 have hoo : Own w' v' (.sl e zs) (bkl v') := by
  have := Own.sl e zs v' us [] hb hown hr' (by unfold bkl; cases blk v' <;> simp)
  simpa using this
 have hnew := hs.new (id := id) hid (v := v') hown.one (o := ob) (w' := w') hg.os hg.tape hg.output hg.size (B' := updB B id (bkl v')) (fun k hk => by unfold updB; rw [if_neg hk]) hold
  (by
    rcases hob with rfl | rfl
    · exact .row e zs us (by simpa [updV] using hown) (hr'.rep fun b hb => by simp at hb) hb
    · exact .dp e zs (by simpa [updV, updB] using hoo)) (by rcases hob with rfl | rfl <;> trivial) (fun b hb' => by
    have hbv : blk v' = some b := by
     unfold owns at hb'
     rw [get_cons, if_pos rfl] at hb'
     rcases hob with rfl | rfl
     · simpa [updV] using hb'
     · simp only [updB, if_true] at hb'; exact bkl_mem.1 hb'
    exact ⟨hnb b hbv, hown.lt b hbv⟩)
 have hput := hnew.putd hd (v := v') (r := .rw id) (by have := RepA.rw (F := F) (V := updV V id v') (w := w') id; simpa [updV] using this) (by simp [A.all, Def, get_cons]) (σ.nx + 1)
 unfold Oper.wp
 rw [hrun]
 exact hK _ _ _ _ _ hput
theorem rep_L {w : World} {us : List Value} {l : List C} (h : OwnL w us l []) : ∀ n, OwnL w (rep n us) (rep n l) []
 | 0 => .nil
 | n + 1 => by
   have := h.append (rep_L h n) (fun x hx => by simp at hx)
   simpa [rep] using this
theorem rep_flat (e : Ty) (x : El e) : ∀ n, (List.replicate n x).flatMap (cells e) = rep n (cells e x)
 | 0 => rfl
 | n + 1 => by rw [List.replicate_succ, List.flatMap_cons, rep_flat e x n]; rfl
theorem ownL_cons0 {w : World} {u : Value} {us : List Value} {c : C} {cs : List C} (h : Own w u c []) (t : OwnL w us cs []) : OwnL w (u :: us) (c :: cs) [] := by
 have := OwnL.cons h t (fun x hx => by simp at hx)
 simpa using this
theorem zcs {w : World} : ∀ {us : List Value} {l : List A} {ds cs : List C}, ZOk us l → toCs (fun _ => none) ds l = some cs → OwnL w us cs []
 | _, _, ds, cs, .nil, h => by cases ds <;> simp [toCs] at h; subst h; exact .nil
 | _, _, [], cs, .int k n t, h => by simp [toCs] at h
 | _, _, [], cs, .bool b t, h => by simp [toCs] at h
 | _, _, [], cs, .str t, h => by simp [toCs] at h
 | _, _, [], cs, .nl t, h => by simp [toCs] at h
 | _, _, [], cs, .oth v _ t, h => by simp [toCs] at h
 | _, _, d :: ds, cs, .int k n t, h => by
   simp only [toCs, toC] at h
   split at h
   · rename_i c cs' h1 h2; cases h1; cases h; exact ownL_cons0 (.int k n) (zcs t h2)
   · cases h
 | _, _, d :: ds, cs, .bool b t, h => by
   simp only [toCs, toC] at h
   split at h
   · rename_i c cs' h1 h2; cases h1; cases h; exact ownL_cons0 (.bool b) (zcs t h2)
   · cases h
 | _, _, d :: ds, cs, .str t, h => by
   simp only [toCs, toC] at h
   split at h
   · rename_i c cs' h1 h2; cases h1; cases h; exact ownL_cons0 (.str _ (by decide)) (zcs t h2)
   · cases h
 | _, _, d :: ds, cs, .nl t, h => by
   simp only [toCs] at h
   split at h
   · rename_i c cs' h1 h2
     cases h
     simp only [toC] at h1
     split at h1
     · cases h1
       exact ownL_cons0 (own_nil _) (zcs t h2)
     · cases h1
   · cases h
 | _, _, d :: ds, cs, .oth v _ t, h => by simp [toCs, toC] at h
theorem val_make (hT : ∀ t i, get T t = some i → TOk P t i) {n : Nat} {o : Oper} (hd : ∀ d, o.dst = some d → d < n) {σ : St} {t et id : Nat} {ie : TI} {e : Ty} (hu : P.underlying t = some (.slice et)) (hie : TOk P et ie) (hsz : ie.sz = szE e) (hby : ie.by_ = byE e) (het : et = etOf e) (hid : get σ.hp id = none) {x y : Operand} (ho : o.op = .makeSlice t x y)
 {ds : List C} (hz : toCs (fun _ => none) ds ie.z = some (cells e (dflt e))) {m : Int} (hx : ev σ x = .c (.int .i64 m)) (hy : ev σ y = .c (.int .i64 m)) (h0 : 0 ≤ m) (hb : m * byE e ≤ 140737488355328) {ob : Ob} (hob : ob = .row e (List.replicate m.toNat (dflt e)) ∨ ob = .dp e (List.replicate m.toNat (dflt e))) : Val P n o σ (σ.upd o.dst (.rw id) [(id, ob)]) :=
 new_row hd hid hob fun {w0 L0 F0 F V B a w} hs => by
  subst het
  obtain ⟨k, rfl⟩ := Int.eq_ofNat_of_zero_le h0
  obtain ⟨yy, z, hy', hys, hyb, hyz, hzo, hzs⟩ := hie.inf
  have hxv := rep_int (by rw [← hx]; exact hs.rep x)
  have hyv := rep_int (by rw [← hy]; exact hs.rep y)
  have hbp := byE_pos e
  have hkb : k * byE e ≤ 140737488355328 := by
   have : ((k * byE e : Nat) : Int) ≤ 140737488355328 := by simpa using hb
   omega
  have hk : k ≤ 140737488355328 := Nat.le_trans (Nat.le_mul_of_pos_right _ hbp) hkb
  have hcells : (madeCells z.cells (k * szE e)).toList = rep k z.cells.toList := by
   have : szE e = z.cells.size := by rw [hzs, hsz]
   rw [this]
   exact rep_toList z.cells k
  have hzcl : ∀ {w : World}, OwnL w z.cells.toList (cells e (dflt e)) [] := zcs hzo hz
  obtain ⟨w', hrun, hown, hg⟩ := run_make_full (P := P) w 0 t (etOf e) yy z (szE e) hu hy' hyz (by rw [hys, hsz]) .i64 .i64 k (by rw [hyb, hby, Nat.mul_comm]; omega) (by simp only [maxLen]; omega) (Nat.zero_le _)
  refine ⟨.slice (some ⟨w.heap.size, 0, none⟩) k k, w', _, ?_, by simpa using hown, ?_, by simpa using hkb, hg, fun b hb => by obtain rfl := blk_sl hb; exact Nat.le_refl _⟩
  · simp [execOp, ho, hxv, hyv, hrun]
  · rw [hcells]
    simp only [Int.toNat_natCast]
    rw [rep_flat]
    exact rep_L hzcl k
theorem list_drop_flat (e : Ty) : ∀ (k : Nat) (xs : List (El e)), (xs.drop k).flatMap (cells e) = (xs.flatMap (cells e)).drop (k * szE e)
 | 0, xs => by simp
 | k + 1, [] => by simp
 | k + 1, x :: xs => by
   rw [List.drop_succ_cons, list_drop_flat e k xs, List.flatMap_cons, Nat.succ_mul, Nat.add_comm, ← List.drop_drop, List.drop_left' (cells_len e x)]
theorem list_take_flat (e : Ty) : ∀ (k : Nat) (xs : List (El e)), (xs.take k).flatMap (cells e) = (xs.flatMap (cells e)).take (k * szE e)
 | 0, xs => by simp
 | k + 1, [] => by simp
 | k + 1, x :: xs => by
   rw [List.take_succ_cons, List.flatMap_cons, list_take_flat e k xs, List.flatMap_cons, Nat.succ_mul, Nat.add_comm, show szE e + k * szE e = (cells e x).length + k * szE e from by rw [cells_len], List.take_length_add_append]
theorem CellsAt.take {w : World} {a : Addr} {us : List Value} (h : CellsAt w a us) (n : Nat) : CellsAt w a (us.take n) := by
 intro j u hj
 rw [List.getElem?_take] at hj
 split at hj
 · exact h j u hj
 · cases hj
theorem CellsAt.drop {w : World} {a : Addr} {us : List Value} (h : CellsAt w a us) (o : Nat) : CellsAt w (a.add o) (us.drop o) := by
 intro j u hj
 rw [addr_add]
 exact h _ _ (by simpa using hj)
theorem RepC.cut {F : Nat → Prop} {w : World} {e : Ty} {xs : List (El e)} {A0 : Option Addr} {c : Nat} (h : RepC F w (.slice A0 xs.length c) (.sl e xs)) {l r : Nat} (hl : l ≤ r) (hr : r ≤ xs.length) : RepC F w (.slice (if c = l then A0 else A0.map (·.add (l * szE e))) (r - l) (c - l)) (.sl e ((xs.take r).drop l)) := by
 generalize hv : Value.slice A0 xs.length c = v at h
 cases h with
 | sl _ _ A1 c1 us hc hb hA hrr =>
   injection hv with hv1 hv2 hv3
   subst hv1
   subst hv3
   have hlen : ((xs.take r).drop l).length = r - l := by simp; omega
   have hrep : RepL F w ((us.take (r * szE e)).drop (l * szE e)) (((xs.take r).drop l).flatMap (cells e)) := by
    rw [list_drop_flat, list_take_flat]
    exact (hrr.take _).drop _
   have key := RepC.sl (F := F) (w := w) e ((xs.take r).drop l) (if c = l then A0 else A0.map (·.add (l * szE e))) (c - l) _ (by rw [hlen]; omega) (by
    rw [hlen]
    exact Nat.le_trans (Nat.mul_le_mul_right _ (by omega)) hb) (fun hp => by
    rw [hlen] at hp
    obtain ⟨ad, rfl, hF, hcl⟩ := hA (by omega)
    rw [if_neg (by omega)]
    exact ⟨ad.add (l * szE e), rfl, by rw [addr_block]; exact hF, (hcl.take _).drop _⟩) hrep
   rwa [hlen] at key
theorem run_sliceAt_row {w : World} {t et : Nat} {ie : TI} (hu : P.underlying t = some (.slice et)) (hie : TOk P et ie) {A0 : Option Addr} {m c : Nat} {lo hi : Option Int} {l r : Int} (hl : lo.getD 0 = l) (hr : hi.getD m = r) (h0 : 0 ≤ l) (h1 : l ≤ r) (h2 : r ≤ m) (hc : m ≤ c) {kl kh : Int → IntKind} :
 (Instr.sliceAt t (.slice A0 m c) (lo.map fun n => .int (kl n) n) (hi.map fun n => .int (kh n) n) none).run P w = .ok (.slice (if c = l.toNat then A0 else A0.map (·.add (l.toNat * ie.sz))) (r.toNat - l.toNat) (c - l.toNat)) w := by
 subst hl
 subst hr
 cases lo <;> cases hi <;> simp only [Option.map_none, Option.map_some, Option.getD_none, Option.getD_some] at *
 · simp [Instr.sliceAt, Instr.slice, run_underlying hu, Instr.sliceBounds, size_of hie]
 · rename_i hi
   have h3 : hi ≤ c := by omega
   simp [Instr.sliceAt, Instr.slice, run_underlying hu, Instr.sliceBounds, Instr.sliceBound, asIntOf, size_of hie, h1, h3]
 · rename_i lo
   have h3 : lo ≤ m := by omega
   simp [Instr.sliceAt, Instr.slice, run_underlying hu, Instr.sliceBounds, Instr.sliceBound, asIntOf, size_of hie, h0, h3]
 · rename_i lo hi
   have h3 : hi ≤ c := by omega
   have h4 : lo ≤ hi.toNat := by omega
   have h5 : 0 ≤ hi := by omega
   have h6 : ¬ max hi 0 < lo := by omega
   simp [Instr.sliceAt, Instr.slice, run_underlying hu, Instr.sliceBounds, Instr.sliceBound, asIntOf, size_of hie, h0, h3, h4, h5, h6]
theorem isVw_some {h : Nat → Option Ob} {a : A} {i z b o n : Nat} (hv : isVw h a = some (i, z, b, o, n)) : a = .rw i ∧ h i = some (.vw z b o n) := by
 unfold isVw at hv
 split at hv
 · split at hv
   · rename_i hg; cases hv; exact ⟨rfl, hg⟩
   · cases hv
 · cases hv
section
variable {n : Nat} {w0 : World} {L0 : Old} {F0 F : Nat → Prop} {V : Nat → Value} {B : Nat → List Nat} {σ : St} {a : Act} {w : World}
theorem rw_rep (hs : Sim n w0 L0 F0 F V B σ a w) {x : Operand} {i : Nat} (hx : ev σ x = .rw i) : a.eval x = V i := by
 have h1 := hs.rep x
 rw [hx] at h1
 generalize a.eval x = pv at h1
 cases h1
 rfl
theorem vw_rep (hs : Sim n w0 L0 F0 F V B σ a w) {i z b o m : Nat} (hg : get σ.hp i = some (.vw z b o m)) : ∃ g p N C, V i = .slice (some ⟨g, p, none⟩) m (C - o) ∧ (o < C → p = o * z) ∧ V b = .slice (some ⟨g, 0, none⟩) N C ∧ o + m ≤ C := by
 have hob := hs.hp.ob _ _ hg
 cases hob with | vw _ _ _ _ g p N C hV hp hb hn => exact ⟨g, p, N, C, hV, hp, hb, hn⟩
theorem row_base (hs : Sim n w0 L0 F0 F V B σ a w) {b : Nat} {e : Ty} {xs : List (El e)} (hg : get σ.hp b = some (.row e xs)) (hpos : 0 < xs.length) : ∃ g C cur us, V b = .slice (some ⟨g, 0, none⟩) xs.length C ∧ 0 < C ∧ w.heap[g]? = some (.cells cur (etOf e) (0, 0)) ∧ xs.length ≤ C ∧ C ≤ maxLen ∧ cur.size = C * szE e ∧ cur.toList.take (xs.length * szE e) = us ∧ us.length = xs.length * szE e ∧ RepL F w us (xs.flatMap (cells e)) ∧ xs.length * byE e ≤ 140737488355328 := by
 have hob := hs.hp.ob _ _ hg
 cases hob with
 | row _ _ us ho hr hb =>
   obtain ⟨hl, ⟨a, h1, h2⟩ | ⟨g, cap, cur, h1, h2, h3, h4, h5, h6⟩⟩ := ho
   · omega
   · exact ⟨g, cap + 1, cur, us, h1, by omega, h2, h3, h4, h5, h6, hl, hr, hb⟩
end
end Go.Proofs.YthbpdhppelaihaaGreat