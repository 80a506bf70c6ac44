/- The conditions of F4 are sound: operation by operation. Conditions: none. -/
import Derived.Test.YthbpdhppelaihaaGreatF4
set_option linter.unusedVariables false
set_option linter.unusedSimpArgs false
namespace Go.Proofs.YthbpdhppelaihaaGreat
open Go.RowKit

def St.upd (σ : St) (d : Option Nat) (r : A) (dh : Hp) : St :=
  { env := match d with | some d => (d, r) :: σ.env | none => σ.env, hp := dh ++ σ.hp, nx := σ.nx + dh.length }
theorem get_append {α : Type} (l l' : List (Nat × α)) (id : Nat) : get (l ++ l') id = match get l id with | some o => some o | none => get l' id := by
  induction l with
  | nil => rfl
  | cons p l ih =>
    obtain ⟨k, v⟩ := p
    rw [List.cons_append, get_cons, get_cons, ih]
    by_cases h : k = id <;> simp [h]
theorem get_none_of_keys {l : Hp} {id : Nat} (h : id ∉ keys l) : get l id = none := by
  induction l with
  | nil => rfl
  | cons p l ih =>
    obtain ⟨k, v⟩ := p
    simp [keys] at h
    rw [get_cons, if_neg (fun e => h.1 e.symm)]
    exact ih h.2
theorem keys_of_get {l : Hp} {id : Nat} {o : Ob} (h : get l id = some o) : id ∈ keys l := by
  apply Decidable.byContradiction
  intro hn
  rw [get_none_of_keys hn] at h
  cases h
def Val (P : Program) (n : Nat) (o : Oper) (σ σ' : St) : Prop :=
  ∀ ⦃w0 : World⦄ ⦃L0 : Old⦄ ⦃F0 F : Nat → Prop⦄ ⦃V : Nat → Value⦄ ⦃B : Nat → List Nat⦄ ⦃a : Act⦄ ⦃w : World⦄, Sim n w0 L0 F0 F V B σ a w → ∀ (K : Act → World → Prop) (Q : Exit → Act → World → Prop), (∀ F' V' B' a' w', Sim n w0 L0 F0 F' V' B' σ' a' w' → K a' w') → o.wp P a w K Q
variable {P : Program} {T : List (Nat × TI)}

theorem Sim.rep {n : Nat} {w0 : World} {L0 : Old} {F0 F : Nat → Prop} {V : Nat → Value} {B : Nat → List Nat} {σ : St} {a : Act} {w : World} (h : Sim n w0 L0 F0 F V B σ a w) (x : Operand) : RepA F V w (a.eval x) (ev σ x) := by
  cases x with
  | tmp t => exact h.env t
  | global g => exact .un _
  | func f => exact .fn f .nil
  | const v =>
    simp only [Act.eval, ev]
    cases v <;> try exact .un _
    case bool b => exact .kb b
    case int k n => exact .c (.int k n)
    case string s =>
      simp only [ofConst]
      split
      · rename_i hb; exact .c (.str s (Nat.le_of_ble_eq_true hb))
      · exact .un _
    case slice a len cap =>
      cases a with
      | some a => exact .un _
      | none => cases len with
        | zero => cases cap with
          | zero => exact .nl
          | succ c => exact .un _
        | succ l => exact .un _
theorem Sim.repIds {n : Nat} {w0 : World} {L0 : Old} {F0 F : Nat → Prop} {V : Nat → Value} {B : Nat → List Nat} {σ : St} {a : Act} {w : World} (h : Sim n w0 L0 F0 F V B σ a w) (x : Operand) : (ev σ x).all (Def σ.hp) := by
  cases x with
  | tmp t => exact h.ids t
  | global g => simp [ev, A.all]
  | func f => simp [ev, A.all, allL]
  | const v =>
    simp only [ev]
    unfold ofConst
    split <;> (try split) <;> simp [A.all]
theorem Sim.putd {n : Nat} {w0 : World} {L0 : Old} {F0 F : Nat → Prop} {V : Nat → Value} {B : Nat → List Nat} {σ : St} {a : Act} {w : World} (h : Sim n w0 L0 F0 F V B σ a w) {d : Option Nat} (hd : ∀ x, d = some x → x < n) {v : Value} {r : A} (hv : RepA F V w v r) (hi : r.all (Def σ.hp)) (m : Nat) : Sim n w0 L0 F0 F V B { (σ.upd d r []) with nx := m } (a.put d v) w := by
  cases d with
  | none => exact ⟨h.fr, h.df, h.tsz, h.V1, h.F_lt, h.F_new, h.F0_F, h.hp, h.own, h.env, h.ids, h.keep⟩
  | some d => exact let g := h.put (hd d rfl) hv hi; ⟨g.fr, g.df, g.tsz, g.V1, g.F_lt, g.F_new, g.F0_F, g.hp, g.own, g.env, g.ids, g.keep⟩
theorem Sim.nx {n : Nat} {w0 : World} {L0 : Old} {F0 F : Nat → Prop} {V : Nat → Value} {B : Nat → List Nat} {σ : St} {a : Act} {w : World} (h : Sim n w0 L0 F0 F V B σ a w) (m : Nat) : Sim n w0 L0 F0 F V B { σ with nx := m } a w :=
  ⟨h.fr, h.df, h.tsz, h.V1, h.F_lt, h.F_new, h.F0_F, h.hp, h.own, h.env, h.ids, h.keep⟩
/-- An operation that only yields a value. -/
theorem val_pure {n : Nat} {o : Oper} (hd : ∀ d, o.dst = some d → d < n) {σ : St} {r : A} (h : ∀ {w0 : World} {L0 : Old} {F0 F : Nat → Prop} {V : Nat → Value} {B : Nat → List Nat} {a : Act} {w : World}, Sim n w0 L0 F0 F V B σ a w → (∃ v, (execOp a.eval o).run P w = .ok (.value v) w ∧ RepA F V w v r) ∧ r.all (Def σ.hp)) : Val P n o σ (σ.upd o.dst r []) := by
  intro w0 L0 F0 F V B a w hs K Q hK
  obtain ⟨⟨v, hr, hv⟩, hi⟩ := h hs
  unfold Oper.wp
  rw [hr]
  exact hK F V B _ _ (hs.putd hd hv hi _)

theorem obIds_mono {D D' : Nat → Prop} (h : ∀ id, D id → D' id) {o : Ob} (ho : obIds D o) : obIds D' o := by
  cases o with
  | box cs => exact allL_mono h ho
  | fo e pre cs post => exact allL_mono h ho
  | vw sz base off n => exact h base ho
  | _ => trivial
theorem Sim.congr {n : Nat} {w0 : World} {L0 : Old} {F0 F : Nat → Prop} {V : Nat → Value} {B : Nat → List Nat} {σ σ' : St} {a : Act} {w : World} (h : Sim n w0 L0 F0 F V B σ a w) (he : ∀ t, σ'.tmp t = σ.tmp t) (hh : ∀ id, get σ'.hp id = get σ.hp id) : Sim n w0 L0 F0 F V B σ' a w := by
  have hd : ∀ id, Def σ'.hp id ↔ Def σ.hp id := fun id => by unfold Def; rw [hh]
  have ho : ∀ id b, owns σ'.hp V B id b ↔ owns σ.hp V B id b := fun id b => owns_same (hh id) rfl rfl
  refine ⟨h.fr, h.df, h.tsz, h.V1, h.F_lt, h.F_new, h.F0_F, ⟨fun id o hg => h.hp.ob id o (by rw [← hh]; exact hg), fun id o hg => obIds_mono (fun k hk => (hd k).2 hk) (h.hp.ids id o (by rw [← hh]; exact hg)), fun id b hb => h.hp.lt id b ((ho id b).1 hb), fun id b hb => h.hp.nF id b ((ho id b).1 hb), fun id id' b hb hb' => h.hp.apart id id' b ((ho id b).1 hb) ((ho id' b).1 hb')⟩, fun id b hb => h.own id b ((ho id b).1 hb), fun t => by rw [he]; exact h.env t, fun t => by rw [he]; exact A.all_mono (fun k hk => (hd k).2 hk) (h.ids t), fun id hid => ⟨(h.keep id hid).1, (hd id).2 (h.keep id hid).2⟩⟩
theorem val_move {n : Nat} {o : Oper} (hd : ∀ d, o.dst = some d → d < n) {σ : St} {x : Operand} (ho : o.op = .move x ∨ o.op = .assign x) : Val P n o σ (σ.upd o.dst (ev σ x) []) :=
  val_pure hd fun hs => ⟨⟨_, by rcases ho with ho | ho <;> simp [execOp, ho], hs.rep x⟩, hs.repIds x⟩
theorem rep_bool {F : Nat → Prop} {V : Nat → Value} {w : World} {v : Value} {a : A} {b : Bool} (h : RepA F V w v a) (hb : bOf a = some b) : v = .bool b := by
  cases a <;> simp [bOf] at hb
  case kb b' => subst hb; cases h; rfl
  case c c =>
    cases c <;> simp [bOf] at hb
    subst hb
    cases h with | c h => cases h; rfl
theorem val_pick {n : Nat} {o : Oper} (hd : ∀ d, o.dst = some d → d < n) {σ : St} {c x y : Operand} (ho : o.op = .pick c x y) {K : A → Prop} (h : pickA (ev σ c) (ev σ x) (ev σ y) K) : ∃ r, K r ∧ Val P n o σ (σ.upd o.dst r []) := by
  unfold pickA at h
  split at h
  · rename_i hc
    exact ⟨_, h, val_pure hd fun hs => ⟨⟨_, by
      have := hs.rep c; rw [hc] at this; have hb := rep_bool this rfl
      simp [execOp, ho, hb, asBool], hs.rep x⟩, hs.repIds x⟩⟩
  · rename_i hc
    exact ⟨_, h, val_pure hd fun hs => ⟨⟨_, by
      have := hs.rep c; rw [hc] at this; have hb := rep_bool this rfl
      simp [execOp, ho, hb, asBool], hs.rep y⟩, hs.repIds y⟩⟩
  · rename_i t hc
    split at h
    · rename_i p q hp hq
      refine ⟨_, h, val_pure hd fun hs => ⟨⟨.bool (if t then p else q), ?_, .c (.bool _)⟩, by simp [A.all]⟩⟩
      have h0 := hs.rep c; rw [hc] at h0; have hb := rep_bool h0 rfl
      have h1 := rep_bool (hs.rep x) hp
      have h2 := rep_bool (hs.rep y) hq
      cases t <;> simp [execOp, ho, hb, h1, h2, asBool]
    · exact h.elim
  · exact h.elim
theorem rep_int {F : Nat → Prop} {V : Nat → Value} {w : World} {v : Value} {k : IntKind} {n : Int} (h : RepA F V w v (.c (.int k n))) : v = .int k n := by cases h with | c h => cases h; rfl
theorem rep_str {F : Nat → Prop} {V : Nat → Value} {w : World} {v : Value} {s : List UInt8} (h : RepA F V w v (.c (.str s))) : ∃ b : ByteArray, v = .string b ∧ b.data.toList = s ∧ b.size ≤ 9223372036854775807 := by
  cases h with | c h => cases h with | str b hs => exact ⟨b, rfl, rfl, hs⟩
theorem eqK_eq {k k' : IntKind} (h : eqK k k' = true) : k = k' := by cases k <;> cases k' <;> first | rfl | cases h
theorem str_toList (b : ByteArray) : b.toList = b.data.toList := ByteArray.toList_eq b
theorem beq_bool (hT : ∀ t i, get T t = some i → TOk P t i) {t : Nat} (h : isBoolT T t = true) (p q : Bool) (w : World) : (Op.equal t (.bool p) (.bool q)).run P w = .ok (p == q) w := by
  unfold isBoolT at h
  split at h
  · rename_i i hi
    have hd := (hT t i hi).desc
    split at h
    · rename_i hk
      rw [hk] at hd
      simp only [TK.desc] at hd
      show (Op.equalIn (9999 + 1) t (.bool p) (.bool q)).run P w = _
      unfold Op.equalIn
      simp [run_underlying hd]
    · cases h
  · cases h
theorem data_append' (a b : ByteArray) : (a ++ b).data.toList = a.data.toList ++ b.data.toList := by
  obtain ⟨a⟩ := a
  obtain ⟨b⟩ := b
  rw [ByteArray.mk_append_mk]
theorem val_bin (hT : ∀ t i, get T t = some i → TOk P t i) {n : Nat} {o : Oper} (hd : ∀ d, o.dst = some d → d < n) {σ : St} {op : BinOp} {t t' : TypeId} {x y : Operand} (ho : o.op = .binOp op t x y t') {K : A → Prop} (h : binA op (isBoolT T t) (ev σ x) (ev σ y) K) : ∃ r, K r ∧ Val P n o σ (σ.upd o.dst r []) := by
  have key : ∀ (r : A) (u : ∀ {w0 : World} {L0 : Old} {F0 F : Nat → Prop} {V : Nat → Value} {B : Nat → List Nat} {a : Act} {w : World}, Sim n w0 L0 F0 F V B σ a w → ∃ v, (do eqGuard op t x y (a.eval x) (a.eval y); binOp op t (a.eval x) (a.eval y) : Sem Value).run P w = .ok v w ∧ RepA F V w v r), r.all (fun _ => False) → Val P n o σ (σ.upd o.dst r []) := by
    intro r u hi
    refine val_pure hd fun hs => ⟨?_, A.all_mono (fun _ h => h.elim) hi⟩
    obtain ⟨v, hv, hr⟩ := u hs
    exact ⟨v, by simp only [execOp, ho]; simp only [Sem.run_bind] at hv ⊢; simp [hv], hr⟩
  unfold binA at h
  split at h
  · rename_i k a k' b hx hy
    have sh : ∀ (r : Value) (rc : C), (binOp op t (.int k a) (.int k' b)) = pure r → (∀ {F : Nat → Prop} {w : World}, RepC F w r rc) → Val P n o σ (σ.upd o.dst (.c rc) []) := by
      intro r rc hb hrc
      refine key _ (fun hs => ?_) (by simp [A.all])
      have h1 := rep_int (by rw [← hx]; exact hs.rep x)
      have h2 := rep_int (by rw [← hy]; exact hs.rep y)
      refine ⟨r, ?_, .c hrc⟩
      rw [h1, h2]
      have hg : eqGuard op t x y (.int k a) (.int k' b) = pure () := by unfold eqGuard; split <;> rfl
      rw [hg, hb]
      rfl
    split at h
    · obtain ⟨h0, h⟩ := h
      exact ⟨_, h, sh _ _ (by simp only [binOp, Op.shift]; rw [if_neg (by omega)]) (.int _ _)⟩
    · obtain ⟨h0, h⟩ := h
      exact ⟨_, h, sh _ _ (by simp only [binOp, Op.shift]; rw [if_neg (by omega)]) (.int _ _)⟩
    · rename_i hn1 hn2
      split at h
      · rename_i hk
        obtain rfl := eqK_eq hk
        unfold binI at h
        split at h
        · exact ⟨_, h, sh _ _ (by simp [binOp, Op.intArith]) (.int _ _)⟩
        · exact ⟨_, h, sh _ _ (by simp [binOp, Op.intArith]) (.int _ _)⟩
        · exact ⟨_, h, sh _ _ (by simp [binOp, Op.intArith]) (.int _ _)⟩
        · obtain ⟨h0, h⟩ := h
          exact ⟨_, h, sh _ _ (by simp [binOp, Op.intDiv, h0]) (.int _ _)⟩
        · obtain ⟨h0, h⟩ := h
          exact ⟨_, h, sh _ _ (by simp [binOp, Op.intDiv, h0]) (.int _ _)⟩
        · exact ⟨_, h, sh (.bool (decide (a = b))) _ (by simp only [binOp, Op.intCmp]; rw [show (a == b) = decide (a = b) from by rw [Bool.eq_iff_iff]; simp]; simp) (.bool _)⟩
        · exact ⟨_, h, sh (.bool (!decide (a = b))) _ (by simp only [binOp, Op.intCmp]; rw [show (a != b) = !decide (a = b) from by rw [Bool.eq_iff_iff]; simp]; simp) (.bool _)⟩
        · exact ⟨_, h, sh _ _ (by simp [binOp, Op.intCmp]) (.bool _)⟩
        · exact ⟨_, h, sh _ _ (by simp [binOp, Op.intCmp]) (.bool _)⟩
        · exact ⟨_, h, sh _ _ (by simp [binOp, Op.intCmp]) (.bool _)⟩
        · exact ⟨_, h, sh _ _ (by simp [binOp, Op.intCmp]) (.bool _)⟩
        · exact h.elim
      · exact h.elim
  · rename_i s s' hx hy
    have sh : ∀ (rc : C), (∀ (b b' : ByteArray), b.data.toList = s → b'.data.toList = s' → b.size ≤ 9223372036854775807 → b'.size ≤ 9223372036854775807 → ∃ r, Op.stringOp op b b' = pure r ∧ ∀ {F : Nat → Prop} {w : World}, RepC F w r rc) → Val P n o σ (σ.upd o.dst (.c rc) []) := by
      intro rc hb
      refine key _ (fun hs => ?_) (by simp [A.all])
      obtain ⟨b, h1, hb1, hb2⟩ := rep_str (by rw [← hx]; exact hs.rep x)
      obtain ⟨b', h2, hb1', hb2'⟩ := rep_str (by rw [← hy]; exact hs.rep y)
      obtain ⟨r, hr, hrc⟩ := hb b b' hb1 hb1' hb2 hb2'
      refine ⟨r, ?_, .c hrc⟩
      rw [h1, h2]
      have hg : eqGuard op t x y (.string b) (.string b') = pure () := by unfold eqGuard; split <;> rfl
      rw [hg]
      have : binOp op t (.string b) (.string b') = Op.stringOp op b b' := by cases op <;> rfl
      rw [this, hr]
      rfl
    have hsz : ∀ (b : ByteArray) (s : List UInt8), b.data.toList = s → b.size = s.length := by
      intro b s hb; rw [← hb, Array.length_toList]; rfl
    unfold binS at h
    split at h
    · obtain ⟨h0, h⟩ := h
      refine ⟨_, h, sh _ fun b b' h1 h2 _ _ => ⟨_, by simp only [Op.stringOp]; rw [if_neg (by rw [hsz b _ h1, hsz b' _ h2]; simp only [IntKind.max, IntKind.signed, IntKind.bits]; simp; omega)], ?_⟩⟩
      intro F w
      have := RepC.str (F := F) (w := w) (b ++ b') (by rw [ByteArray.size_append, hsz b _ h1, hsz b' _ h2]; exact h0)
      rwa [data_append', h1, h2] at this
    · refine ⟨_, h, sh _ fun b b' h1 h2 _ _ => ⟨.bool (decide (s = s')), ?_, .bool _⟩⟩
      simp only [Op.stringOp, str_toList, h1, h2]
      rw [show (s == s') = decide (s = s') from by rw [Bool.eq_iff_iff]; simp]
    · refine ⟨_, h, sh _ fun b b' h1 h2 _ _ => ⟨.bool (!decide (s = s')), ?_, .bool _⟩⟩
      simp only [Op.stringOp, str_toList, h1, h2]
      rw [show (s == s') = decide (s = s') from by rw [Bool.eq_iff_iff]; simp]
    · exact h.elim
  · split at h
    · rename_i p q htb hp hq
      refine ⟨_, h, key _ (fun hs => ?_) (by simp [A.all])⟩
      have h1 := rep_bool (hs.rep x) hp
      have h2 := rep_bool (hs.rep y) hq
      refine ⟨.bool (p == q), ?_, .c (.bool _)⟩
      rw [h1, h2]
      simp [eqGuard, binOp, beq_bool (hT := hT) htb]
    · rename_i p q htb hp hq
      refine ⟨_, h, key _ (fun hs => ?_) (by simp [A.all])⟩
      have h1 := rep_bool (hs.rep x) hp
      have h2 := rep_bool (hs.rep y) hq
      refine ⟨.bool (!(p == q)), ?_, .c (.bool _)⟩
      rw [h1, h2]
      simp [eqGuard, binOp, beq_bool (hT := hT) htb]
    · exact h.elim
theorem val_un {n : Nat} {o : Oper} (hd : ∀ d, o.dst = some d → d < n) {σ : St} {op : UnOp} {t : TypeId} {x : Operand} (ho : o.op = .unOp op t x) {K : A → Prop} (h : unA op (ev σ x) K) : ∃ r, K r ∧ Val P n o σ (σ.upd o.dst r []) := by
  unfold unA at h
  split at h
  · rename_i k a hx
    refine ⟨_, h, val_pure hd fun hs => ⟨⟨_, ?_, .c (.int _ _)⟩, by simp [A.all]⟩⟩
    have h1 := rep_int (by rw [← hx]; exact hs.rep x)
    simp [execOp, ho, h1, Op.unary, Op.intArith]
  · rename_i b hx
    refine ⟨_, h, val_pure hd fun hs => ⟨⟨_, ?_, .kb _⟩, by simp [A.all]⟩⟩
    have h1 := rep_bool (hs.rep x) (by rw [hx]; rfl)
    simp [execOp, ho, h1, Op.unary]
  · rename_i b hx
    refine ⟨_, h, val_pure hd fun hs => ⟨⟨_, ?_, .c (.bool _)⟩, by simp [A.all]⟩⟩
    have h1 := rep_bool (hs.rep x) (by rw [hx]; rfl)
    simp [execOp, ho, h1, Op.unary]
  · exact h.elim
theorem RepAs.get {F : Nat → Prop} {V : Nat → Value} {w : World} : ∀ {us : List Value} {l : List A}, RepAs F V w us l → ∀ {j : Nat} {a : A}, l[j]? = some a → ∃ u, us[j]? = some u ∧ RepA F V w u a
  | _, _, .nil, j, a, hj => by simp at hj
  | _, _, .cons h t, j, a, hj => by
    cases j with
    | zero => simp at hj; subst hj; exact ⟨_, by simp, h⟩
    | succ j => simp at hj; obtain ⟨u, hu, hr⟩ := RepAs.get t hj; exact ⟨u, by simpa using hu, hr⟩
theorem RepAs.length {F : Nat → Prop} {V : Nat → Value} {w : World} : ∀ {us : List Value} {l : List A}, RepAs F V w us l → us.length = l.length
  | _, _, .nil => rfl
  | _, _, .cons h t => by simp [RepAs.length t]
theorem RepAs.drop {F : Nat → Prop} {V : Nat → Value} {w : World} : ∀ {us : List Value} {l : List A}, RepAs F V w us l → ∀ n, RepAs F V w (us.drop n) (l.drop n)
  | _, _, .nil, n => by simpa using RepAs.nil
  | _, _, .cons h t, n => by
    cases n with
    | zero => exact .cons h t
    | succ n => exact RepAs.drop t n
theorem RepAs.take {F : Nat → Prop} {V : Nat → Value} {w : World} : ∀ {us : List Value} {l : List A}, RepAs F V w us l → ∀ n, RepAs F V w (us.take n) (l.take n)
  | _, _, .nil, n => by simpa using RepAs.nil
  | _, _, .cons h t, n => by
    cases n with
    | zero => exact .nil
    | succ n => exact .cons h (RepAs.take t n)
theorem RepAs.append {F : Nat → Prop} {V : Nat → Value} {w : World} : ∀ {us : List Value} {l : List A}, RepAs F V w us l → ∀ {us' : List Value} {l' : List A}, RepAs F V w us' l' → RepAs F V w (us ++ us') (l ++ l')
  | _, _, .nil, _, _, h' => h'
  | _, _, .cons h t, _, _, h' => .cons h (RepAs.append t h')
theorem RepL.toAs {F : Nat → Prop} {V : Nat → Value} {w : World} : ∀ {us : List Value} {l : List C}, RepL F w us l → RepAs F V w us (l.map .c)
  | _, _, .nil => .nil
  | _, _, .cons h t => .cons (.c h) (RepL.toAs t)
theorem allL_get {D : Nat → Prop} : ∀ {l : List A}, allL D l → ∀ {j : Nat} {a : A}, l[j]? = some a → a.all D
  | [], _, j, a, hj => by simp at hj
  | x :: l, h, j, a, hj => by
    simp only [allL] at h
    cases j with
    | zero => simp at hj; subst hj; exact h.1
    | succ j => simp at hj; exact allL_get h.2 hj
theorem allL_drop {D : Nat → Prop} : ∀ {l : List A}, allL D l → ∀ n, allL D (l.drop n)
  | [], h, n => by simpa using h
  | x :: l, h, n => by
    cases n with
    | zero => exact h
    | succ n => simp only [allL] at h; exact allL_drop h.2 n
theorem allL_take {D : Nat → Prop} : ∀ {l : List A}, allL D l → ∀ n, allL D (l.take n)
  | [], h, n => by simpa using h
  | x :: l, h, n => by
    cases n with
    | zero => simp [allL]
    | succ n => simp only [allL] at h; simp only [List.take_succ_cons, allL]; exact ⟨h.1, allL_take h.2 n⟩
theorem allL_c {D : Nat → Prop} : ∀ (l : List C), allL D (l.map .c)
  | [] => by simp [allL]
  | x :: l => by simp [allL, A.all, allL_c l]
/-- Cells read from o on. -/
theorem cellsOf_ok {F : Nat → Prop} {V : Nat → Value} {w : World} {l : List A} {us : List Value} (h : RepAs F V w us l) (h1 : ∀ u ∈ us, u.oneCell' = true) {o n : Nat} {agg : Bool} {a : A} (hc : cellsOf l o n agg = some a) : (agg = true ∧ RepA F V w (.agg ((us.drop o).take n).toArray) a ∧ o + n ≤ us.length) ∨ (agg = false ∧ ∃ u, us[o]? = some u ∧ RepA F V w u a) := by
  unfold cellsOf at hc
  cases agg with
  | false => simp at hc; exact .inr ⟨rfl, h.get hc⟩
  | true =>
    simp only at hc
    split at hc
    · rename_i hb
      cases hc
      exact .inl ⟨rfl, .ag ((h.drop o).take n) (fun u hu => h1 u (List.mem_of_mem_drop (List.mem_of_mem_take hu))), by rw [h.length]; exact Nat.le_of_ble_eq_true hb⟩
    · cases hc
theorem cellsOf_all {D : Nat → Prop} {l : List A} (h : allL D l) {o n : Nat} {agg : Bool} {a : A} (hc : cellsOf l o n agg = some a) : a.all D := by
  unfold cellsOf at hc
  cases agg with
  | false => simp at hc; exact allL_get h hc
  | true =>
    simp only at hc
    split at hc
    · cases hc; simp only [A.all]; exact allL_take (allL_drop h o) n
    · cases hc
theorem csOf_map {l : List C} {o n : Nat} {agg : Bool} : csOf l o n agg = cellsOf (l.map .c) o n agg := by
  unfold csOf cellsOf
  cases agg with
  | true => simp [List.map_drop, List.map_take]
  | false =>
    simp only [List.getElem?_map]
    cases l[o]? <;> rfl
theorem CellsAt.sub {w : World} {a : Addr} {us : List Value} (h : CellsAt w a us) (o n : Nat) : CellsAt w (a.add o) ((us.drop o).take n) := by
  intro j u hj
  rw [addr_add]
  have : us[o + j]? = some u := by
    rw [List.getElem?_take] at hj
    split at hj
    · simpa using hj
    · cases hj
  exact h _ _ this
theorem CellsAt.at_ {w : World} {a : Addr} {us : List Value} (h : CellsAt w a us) {o : Nat} {u : Value} (hu : us[o]? = some u) : w.cell? (a.add o) = some u := h o u hu
/-- A load out of cells that stand in memory. -/
theorem run_load_cells {t : Nat} {i : TI} (hi : TOk P t i) {F : Nat → Prop} {V : Nat → Value} {w : World} {ad : Addr} {us : List Value} {l : List A} (hr : RepAs F V w us l) (h1 : ∀ u ∈ us, u.oneCell' = true) (hc : CellsAt w ad us) {o : Nat} {a : A} (ha : cellsOf l o i.sz i.k.agg = some a) :
    ∃ v, (Instr.loadAt t (.pointer (some (ad.add o)))).run P w = .ok v w ∧ RepA F V w v a := by
  rcases cellsOf_ok hr h1 ha with ⟨hk, hrep, hle⟩ | ⟨hk, u, hu, hrep⟩
  · exact ⟨_, run_loadn hi hk (by simp; omega) (hc.sub o i.sz), hrep⟩
  · exact ⟨_, run_load1 hi hk (hc.at_ hu), hrep⟩
theorem box_cells {w : World} {g : Nat} {vs : List Value} {t : TypeId} {fr : Nat × Nat} (hg : w.heap[g]? = some (.cells vs.toArray t fr)) : CellsAt w ⟨g, 0, none⟩ vs := by
  intro j u hj
  rw [add_at', Nat.zero_add]
  simp [World.cell?, hg, hj]
theorem owns_cells {w : World} {base : Nat} {e : TypeId} {size n : Nat} {g : Nat} {cap : Nat} {xs : List Value} (h : w.ownsRow base e size (.slice (some ⟨g, 0, none⟩) n cap) n xs) : CellsAt w ⟨g, 0, none⟩ xs := fun j u hj => h.cells (g := g) rfl j u hj
theorem flat_get (e : Ty) : ∀ (xs : List (El e)) (i : Nat) (x : El e), xs[i]? = some x → ((xs.flatMap (cells e)).drop (i * szE e)).take (szE e) = cells e x
  | [], i, x, h => by simp at h
  | y :: xs, i, x, h => by
    cases i with
    | zero =>
      simp at h
      subst h
      simp only [List.flatMap_cons, Nat.zero_mul, List.drop_zero]
      rw [List.take_append_of_le_length (by rw [cells_len]; exact Nat.le_refl _), List.take_of_length_le (by rw [cells_len]; exact Nat.le_refl _)]
    | succ i =>
      simp at h
      simp only [List.flatMap_cons]
      rw [Nat.succ_mul, Nat.add_comm, ← List.drop_drop]
      rw [List.drop_left' (cells_len e y)]
      exact flat_get e xs i x h
theorem flat_len (e : Ty) (xs : List (El e)) : (xs.flatMap (cells e)).length = xs.length * szE e := by
  induction xs with
  | nil => simp
  | cons x xs ih => simp [List.flatMap_cons, ih, cells_len, Nat.add_mul, Nat.add_comm]
theorem getD_some {α : Type} {xs : List α} {i : Nat} (h : i < xs.length) (d : α) : xs[i]? = some (xs.getD i d) := by
  rw [List.getD_eq_getElem?_getD, List.getElem?_eq_getElem h]; rfl
theorem unL_map (cs : List C) : unL cs = cs.map unC := by
  induction cs with
  | nil => rfl
  | cons c cs ih => simp [unL, ih]
theorem unL_rep {F : Nat → Prop} {V : Nat → Value} {w : World} : ∀ {us : List Value} {cs : List C} {bs : List Nat}, OwnL w us cs bs → RepAs F V w us (unL cs)
  | _, _, _, .nil => .nil
  | _, _, _, .cons h t hd => .cons (by
      cases h with
      | int k n => exact .c (.int k n)
      | bool b => exact .c (.bool b)
      | str s hs => exact .c (.str s hs)
      | sl e xs v us bs _ _ _ _ => exact .un _) (unL_rep t)
theorem allL_un {D : Nat → Prop} (cs : List C) : allL D (unL cs) := by
  induction cs with
  | nil => simp [unL, allL]
  | cons c cs ih => cases c <;> simp [unL, unC, allL, A.all, ih]
theorem val_load (hT : ∀ t i, get T t = some i → TOk P t i) {n : Nat} {o : Oper} (hd : ∀ d, o.dst = some d → d < n) {σ : St} {t : TypeId} {p : Operand} {i : TI} (hi : get T t = some i) (ho : o.op = .load t p) {h : Nat → Option Ob} (hag : ∀ id ∈ rdOf (ev σ p), get σ.hp id = h id) {K : A → Prop} (hv : loadA h (ev σ p) i.sz i.k.agg K) : ∃ r, K r ∧ Val P n o σ (σ.upd o.dst r []) := by
  have hi' := hT t i hi
  unfold loadA at hv
  split at hv
  · rename_i id o' hp
    have hag' := hag id (by rw [hp]; simp [rdOf])
    split at hv
    · rename_i cs hcs
      rw [← hag'] at hcs
      split at hv
      · rename_i a ha
        refine ⟨_, hv, val_pure hd fun hs => ?_⟩
        have hob := hs.hp.ob id _ hcs
        have hids := hs.hp.ids id _ hcs
        cases hob with
        | box _ g vs bt hV hg hr h1 =>
          obtain ⟨v, hv1, hv2⟩ := run_load_cells hi' hr h1 (box_cells hg) ha
          refine ⟨⟨v, ?_, hv2⟩, cellsOf_all hids ha⟩
          have hpe := hs.rep p
          rw [hp] at hpe
          generalize hpv : Act.eval _ p = pv at hpe
          cases hpe with
          | pt _ _ g' hV' =>
            rw [hV] at hV'
            cases hV'
            simp only [execOp, ho, hpv]
            rw [add_at', Nat.zero_add] at hv1
            simp [hv1]
      · exact hv.elim
    · exact hv.elim
  · rename_i e x o' hp
    split at hv
    · rename_i a ha
      refine ⟨_, hv, val_pure hd fun hs => ?_⟩
      rw [csOf_map] at ha
      refine ⟨?_, cellsOf_all (allL_c _) ha⟩
      have hpe := hs.rep p
      rw [hp] at hpe
      generalize hpv : Act.eval _ p = pv at hpe
      cases hpe with
      | el _ _ _ ad us hF hc hr =>
        obtain ⟨v, hv1, hv2⟩ := run_load_cells (V := by assumption) hi' hr.toAs hr.one hc ha
        exact ⟨v, by simp [execOp, ho, hpv, hv1], hv2⟩
    · exact hv.elim
  · rename_i sz id j o' hp
    have hag' := hag id (by rw [hp]; simp [rdOf])
    split at hv
    · rename_i e xs hcs
      rw [← hag'] at hcs
      split at hv
      · rename_i hsz
        have hsz := Nat.eq_of_beq_eq_true hsz
        obtain ⟨hj, hv⟩ := hv
        split at hv
        · rename_i a ha
          refine ⟨_, hv, val_pure hd fun hs => ?_⟩
          rw [csOf_map] at ha
          refine ⟨?_, cellsOf_all (allL_c _) ha⟩
          have hob := hs.hp.ob id _ hcs
          have hpe := hs.rep p
          rw [hp] at hpe
          generalize hpv : Act.eval _ p = pv at hpe
          cases hob with
          | row _ _ us hown hr hb =>
            cases hpe with
            | re _ _ _ _ g n' cap hV =>
              obtain ⟨A0, c, hVc, hle, hA⟩ := hown.cells
              obtain ⟨g1, rfl, _, hcell⟩ := hA (by omega)
              rw [hV] at hVc
              cases hVc
              have hsub := hcell.sub (j * szE e) (szE e)
              have hrs := (hr.drop (j * szE e)).take (szE e)
              rw [flat_get e xs j _ (getD_some hj (dflt e))] at hrs
              obtain ⟨v, hv1, hv2⟩ := run_load_cells (V := by assumption) hi' hrs.toAs hrs.one hsub ha
              refine ⟨v, ?_, hv2⟩
              rw [addr_add, add_at', Nat.zero_add] at hv1
              subst hsz
              simp [execOp, ho, hpv, hv1]
        · exact hv.elim
      · exact hv.elim
    · rename_i e xs hcs
      rw [← hag'] at hcs
      split at hv
      · rename_i hsz
        have hsz := Nat.eq_of_beq_eq_true hsz
        obtain ⟨hj, hv⟩ := hv
        split at hv
        · rename_i a ha
          refine ⟨_, hv, val_pure hd fun hs => ?_⟩
          refine ⟨?_, cellsOf_all (allL_un _) ha⟩
          have hob := hs.hp.ob id _ hcs
          have hpe := hs.rep p
          rw [hp] at hpe
          generalize hpv : Act.eval _ p = pv at hpe
          cases hob with
          | dp _ _ hown =>
            obtain ⟨us, b0, _, hro, hr, _, _⟩ := hown.inv
            cases hpe with
            | re _ _ _ _ g n' cap hV =>
              obtain ⟨A0, c, hVc, hle, hA⟩ := hro.cells
              obtain ⟨g1, rfl, _, hcell⟩ := hA (by omega)
              rw [hV] at hVc
              cases hVc
              have hsub := hcell.sub (j * szE e) (szE e)
              have hrs := ((unL_rep (F := by assumption) (V := by assumption) hr).drop (j * szE e)).take (szE e)
              rw [unL_map, ← List.map_drop, ← List.map_take, flat_get e xs j _ (getD_some hj (dflt e)), ← unL_map] at hrs
              have hone : ∀ u ∈ (us.drop (j * szE e)).take (szE e), u.oneCell' = true := fun u hu => hr.one u (List.mem_of_mem_drop (List.mem_of_mem_take hu))
              obtain ⟨v, hv1, hv2⟩ := run_load_cells (V := by assumption) hi' hrs hone hsub ha
              refine ⟨v, ?_, hv2⟩
              rw [addr_add, add_at', Nat.zero_add] at hv1
              subst hsz
              simp [execOp, ho, hpv, hv1]
        · exact hv.elim
      · exact hv.elim
    · rename_i e pre cs post hcs
      rw [← hag'] at hcs
      split at hv
      · rename_i hsz
        have hsz := Nat.eq_of_beq_eq_true hsz
        obtain ⟨hj, hv⟩ := hv
        subst hj
        split at hv
        · rename_i a ha
          refine ⟨_, hv, val_pure hd fun hs => ?_⟩
          have hob := hs.hp.ob id _ hcs
          have hids := hs.hp.ids id _ hcs
          refine ⟨?_, cellsOf_all hids ha⟩
          have hpe := hs.rep p
          rw [hp] at hpe
          generalize hpv : Act.eval _ p = pv at hpe
          cases hob with
          | fo _ _ _ _ us1 vs us2 b1 b2 _ hcl hro hr1 hr2 hv0 h1 _ _ =>
            cases hpe with
            | re _ _ _ _ g n' cap hV =>
              obtain ⟨A0, c, hVc, hle, hA⟩ := hro.cells
              obtain ⟨g1, rfl, _, hcell⟩ := hA (by omega)
              rw [hV] at hVc
              cases hVc
              have hsub := hcell.sub (pre.length * szE e) (szE e)
              have hl1 : us1.length = pre.length * szE e := by rw [hr1.length, flat_len]
              have hl2 : vs.length = szE e := by rw [hv0.length, hcl]
              rw [List.drop_left' hl1, List.take_left' hl2] at hsub
              obtain ⟨v, hv1, hv2⟩ := run_load_cells (V := by assumption) hi' hv0 h1 hsub ha
              refine ⟨v, ?_, hv2⟩
              rw [addr_add, add_at', Nat.zero_add] at hv1
              subst hsz
              simp [execOp, ho, hpv, hv1]
        · exact hv.elim
      · exact hv.elim
    · exact hv.elim
  · exact hv.elim
end Go.Proofs.YthbpdhppelaihaaGreat
