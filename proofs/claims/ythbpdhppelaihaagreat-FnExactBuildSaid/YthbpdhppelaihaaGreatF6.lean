/- The conditions of F4 are sound: addresses, indexes, lengths, conversions, literals of structs. Conditions: none. -/
import Derived.Test.YthbpdhppelaihaaGreatF5
set_option linter.unusedVariables false
set_option linter.unusedSimpArgs false
namespace Go.Proofs.YthbpdhppelaihaaGreat
open Go.RowKit
variable {P : Program} {T : List (Nat × TI)}

theorem val_nil {n : Nat} {o : Oper} (hd : ∀ d, o.dst = some d → d < n) {σ : St} {x : Operand} (ho : o.op = .nilCheck x) (h : (∃ id o', ev σ x = .pt id o') ∨ (∃ e y o', ev σ x = .el e y o') ∨ (∃ s i j o', ev σ x = .re s i j o') ∨ ∃ f l, ev σ x = .fn f l) : Val P n o σ (σ.upd o.dst (ev σ x) []) := by
  refine val_pure hd fun hs => ⟨?_, hs.repIds x⟩
  have hr := hs.rep x
  generalize hpv : Act.eval _ x = pv at hr
  have hr' := hr
  rcases h with ⟨id, o', hx⟩ | ⟨e, y, o', hx⟩ | ⟨s, i, j, o', hx⟩ | ⟨f, l, hx⟩ <;> rw [hx] at hr <;> cases hr <;> exact ⟨_, by simp [execOp, ho, hpv], hr'⟩
theorem val_fieldAddr (hT : ∀ t i, get T t = some i → TOk P t i) {n : Nat} {o : Oper} (hd : ∀ d, o.dst = some d → d < n) {σ : St} {t f off ft : Nat} {x : Operand} {i fi : TI} {fs : List (Nat × Nat)} (hi : get T t = some i) (hk : i.k = .st fs) (hf : fs[f]? = some (off, ft)) (hfi : get T ft = some fi) (hz : Nat.beq fi.sz 0 = false) (ho : o.op = .fieldAddr t x f) {K : A → Prop} (h : fieldA (ev σ x) off K) : ∃ r, K r ∧ Val P n o σ (σ.upd o.dst r []) := by
  have hz' : fi.sz ≠ 0 := fun e => by rw [e] at hz; cases hz
  have run : ∀ (ad : Addr) (w : World), (Instr.fieldAt t (.pointer (some ad)) f).run P w = .ok (.pointer (some (ad.add off))) w := fun ad w => run_fieldAt_ (hT t i hi) hk hf (hT ft fi hfi) hz' ad
  unfold fieldA at h
  split at h
  · rename_i id o' hx
    refine ⟨_, h, val_pure hd fun hs => ?_⟩
    have hr := hs.rep x
    have hids := hs.repIds x
    rw [hx] at hr hids
    generalize hpv : Act.eval _ x = pv at hr
    cases hr with
    | pt _ _ g hV =>
      refine ⟨⟨_, by simp [execOp, ho, hpv, run]; rfl, ?_⟩, by simpa [A.all] using hids⟩
      rw [add_at']
      exact .pt _ _ g hV
  · rename_i e y o' hx
    refine ⟨_, h, val_pure hd fun hs => ?_⟩
    have hr := hs.rep x
    rw [hx] at hr
    generalize hpv : Act.eval _ x = pv at hr
    cases hr with
    | el _ _ _ ad us hF hc hrr =>
      refine ⟨⟨_, by simp [execOp, ho, hpv, run]; rfl, ?_⟩, by simp [A.all]⟩
      rw [addr_add]
      exact .el e y _ ad us hF hc hrr
  · rename_i s id j o' hx
    refine ⟨_, h, val_pure hd fun hs => ?_⟩
    have hr := hs.rep x
    have hids := hs.repIds x
    rw [hx] at hr hids
    generalize hpv : Act.eval _ x = pv at hr
    cases hr with
    | re _ _ _ _ g n' cap hV =>
      refine ⟨⟨_, by simp [execOp, ho, hpv, run]; rfl, ?_⟩, by simpa [A.all] using hids⟩
      rw [add_at', Nat.add_assoc]
      exact .re _ _ _ _ g n' cap hV
  · exact h.elim
theorem val_field (hT : ∀ t i, get T t = some i → TOk P t i) {n : Nat} {o : Oper} (hd : ∀ d, o.dst = some d → d < n) {σ : St} {t f off ft : Nat} {x : Operand} {i fi : TI} {fs : List (Nat × Nat)} (hi : get T t = some i) (hk : i.k = .st fs) (hf : fs[f]? = some (off, ft)) (hfi : get T ft = some fi) (ho : o.op = .field t x f) {l : List A} (hx : ev σ x = .ag l) {a : A} (ha : cellsOf l off fi.sz fi.k.agg = some a) : Val P n o σ (σ.upd o.dst a []) := by
  refine val_pure hd fun hs => ?_
  have hr := hs.rep x
  have hids := hs.repIds x
  rw [hx] at hr hids
  generalize hpv : Act.eval _ x = pv at hr
  refine ⟨?_, cellsOf_all (by simpa [A.all] using hids) ha⟩
  have hdsc := (hT t i hi).desc
  rw [hk] at hdsc
  obtain ⟨fields, hu, hm⟩ := hdsc
  rw [← hm, List.getElem?_map, Array.getElem?_toList] at hf
  cases hr with
  | ag hr h1 =>
    rename_i us
    cases hfe : fields[f]? with
    | none => rw [hfe] at hf; simp at hf
    | some fe =>
      rw [hfe] at hf
      simp at hf
      obtain ⟨rfl, rfl⟩ := hf
      rcases cellsOf_ok hr h1 ha with ⟨hka, hrep, hle⟩ | ⟨hka, u, hu', hrep⟩
      · have hp := fun w => run_part (P := P) (w := w) (hT _ fi hfi) (us := us) (o := fe.offset) (by omega) (fun h => by rw [hka] at h; cases h)
        rw [hka] at hp
        exact ⟨_, by simp [execOp, ho, hpv, Instr.field, run_underlying hu, hfe, asAgg, hp], hrep⟩
      · have hp := fun w => run_part (P := P) (w := w) (hT _ fi hfi) (us := us) (o := fe.offset) 
        have hsz : (part fe.type us.toArray fe.offset).run P = fun w => .ok u w := by
          funext w
          simp [part, agg_of P (hT _ fi hfi).desc w, hka, hu']
        exact ⟨_, by simp [execOp, ho, hpv, Instr.field, run_underlying hu, hfe, asAgg, hsz], hrep⟩
theorem val_extract {n : Nat} {o : Oper} (hd : ∀ d, o.dst = some d → d < n) {σ : St} {x : Operand} {j : Nat} (ho : o.op = .extract x j) {l : List A} (hx : ev σ x = .tp l) {a : A} (ha : l[j]? = some a) : Val P n o σ (σ.upd o.dst a []) := by
  refine val_pure hd fun hs => ?_
  have hr := hs.rep x
  have hids := hs.repIds x
  rw [hx] at hr hids
  generalize hpv : Act.eval _ x = pv at hr
  refine ⟨?_, allL_get (by simpa [A.all] using hids) ha⟩
  cases hr with
  | tp hr =>
    obtain ⟨u, hu, hrep⟩ := hr.get ha
    exact ⟨u, by simp [execOp, ho, hpv, Instr.extract, hu], hrep⟩
theorem evs_rep {n : Nat} {w0 : World} {L0 : Old} {F0 F : Nat → Prop} {V : Nat → Value} {B : Nat → List Nat} {σ : St} {a : Act} {w : World} (hs : Sim n w0 L0 F0 F V B σ a w) : ∀ (l : List Operand), RepAs F V w (l.map a.eval) (l.map (ev σ)) ∧ allL (Def σ.hp) (l.map (ev σ))
  | [] => ⟨.nil, by simp [allL]⟩
  | x :: l => ⟨.cons (hs.rep x) (evs_rep hs l).1, by simp only [List.map_cons, allL]; exact ⟨hs.repIds x, (evs_rep hs l).2⟩⟩
theorem val_makeFunc {n : Nat} {o : Oper} (hd : ∀ d, o.dst = some d → d < n) {σ : St} {f : Nat} {first caps : Array Operand} (hf : first.toList = []) (ho : o.op = .makeFunc (.func f) first caps) : Val P n o σ (σ.upd o.dst (.fn f (caps.toList.map (ev σ))) []) := by
  refine val_pure hd fun {w0 L0 F0 F V B a w} hs => ?_
  obtain ⟨h1, h2⟩ := evs_rep hs caps.toList
  have : first = #[] := by cases first; simp_all
  subst this
  have h3 := RepA.fn f h1
  refine ⟨⟨_, ?_, h3⟩, by simpa [A.all] using h2⟩
  obtain ⟨l⟩ := caps
  simp [execOp, ho, Instr.makeFunc]
theorem val_index (hT : ∀ t i, get T t = some i → TOk P t i) {n : Nat} {o : Oper} (hd : ∀ d, o.dst = some d → d < n) {σ : St} {t : Nat} {x j : Operand} {i : TI} (hi : get T t = some i) (hk : i.k = .str) (ho : o.op = .index t x j) {K : A → Prop} (h : indexS (ev σ x) (ev σ j) K) : ∃ r, K r ∧ Val P n o σ (σ.upd o.dst r []) := by
  unfold indexS at h
  split at h
  · rename_i s k m hx hj
    obtain ⟨⟨h0, h1⟩, h⟩ := h
    refine ⟨_, h, val_pure hd fun hs => ⟨?_, by simp [A.all]⟩⟩
    have hj' := rep_int (by rw [← hj]; exact hs.rep j)
    obtain ⟨b, hb, hbs, _⟩ := rep_str (by rw [← hx]; exact hs.rep x)
    have hdsc := (hT t i hi).desc
    rw [hk] at hdsc
    simp only [TK.desc] at hdsc
    have hsz : b.size = s.length := by rw [← hbs, Array.length_toList]; rfl
    have hlt : m.toNat < b.size := by rw [hsz]; omega
    have hget : b[m.toNat]? = some (s.getD m.toNat 0) := by
      have e1 : b[m.toNat]? = some (b[m.toNat]'hlt) := getElem?_pos b m.toNat hlt
      rw [e1]
      congr 1
      subst hbs
      have hlt' : m.toNat < b.data.toList.length := by rw [Array.length_toList]; exact hlt
      rw [List.getD_eq_getElem?_getD, List.getElem?_eq_getElem hlt']
      rfl
    refine ⟨_, ?_, .c (.int _ _)⟩
    simp only [execOp, ho, hj', hb]
    simp [Instr.index, asIntOf, run_underlying hdsc, h0, hget]
  · exact h.elim
theorem isRow_rep {n : Nat} {w0 : World} {L0 : Old} {F0 F : Nat → Prop} {V : Nat → Value} {B : Nat → List Nat} {σ : St} {a : Act} {w : World} (hs : Sim n w0 L0 F0 F V B σ a w) {x : Operand} {h : Nat → Option Ob} (hag : ∀ id ∈ rdOf (ev σ x), get σ.hp id = h id) {e : Ty} {xs : List (El e)} (hr : isRow h (ev σ x) = some ⟨e, xs⟩) :
    ∃ (A0 : Option Addr) (c : Nat) (us : List Value), a.eval x = .slice A0 xs.length c ∧ xs.length ≤ c ∧ xs.length * byE e ≤ 140737488355328 ∧ RepL F w us (xs.flatMap (cells e)) ∧ (0 < xs.length → ∃ ad, A0 = some ad ∧ CellsAt w ad us) := by
  have hrep := hs.rep x
  unfold isRow at hr
  split at hr
  · rename_i e' xs' hx
    cases hr
    rw [hx] at hrep
    generalize hpv : Act.eval _ x = pv at hrep
    cases hrep with
    | c h0 =>
      cases h0 with
      | sl _ _ A0 c us hc hb hA hr => exact ⟨A0, c, us, rfl, hc, hb, hr, fun hp => by obtain ⟨ad, h1, _, h2⟩ := hA hp; exact ⟨ad, h1, h2⟩⟩
  · rename_i id hx
    have hag' := hag id (by rw [hx]; simp [rdOf])
    rw [hx] at hrep
    generalize hpv : Act.eval _ x = pv at hrep
    split at hr
    · rename_i e' xs' hcs
      cases hr
      rw [← hag'] at hcs
      have hob := hs.hp.ob id _ hcs
      cases hrep
      cases hob with
      | row _ _ us hown hr hb =>
        obtain ⟨A0, c, h1, hle, hA⟩ := hown.cells
        exact ⟨A0, c, us, h1, hle, hb, hr, fun hp => by obtain ⟨g, h2, _, h3⟩ := hA hp; exact ⟨_, h2, h3⟩⟩
    · rename_i e' xs' hcs
      cases hr
      rw [← hag'] at hcs
      have hob := hs.hp.ob id _ hcs
      cases hrep
      cases hob with
      | fz _ _ h0 =>
        generalize V id = vv at h0
        cases h0 with
        | sl _ _ A0 c us hc hb hA hr => exact ⟨A0, c, us, rfl, hc, hb, hr, fun hp => by obtain ⟨ad, h1, _, h2⟩ := hA hp; exact ⟨ad, h1, h2⟩⟩
    · cases hr
  · cases hr
theorem isRowD_rep {n : Nat} {w0 : World} {L0 : Old} {F0 F : Nat → Prop} {V : Nat → Value} {B : Nat → List Nat} {σ : St} {a : Act} {w : World} (hs : Sim n w0 L0 F0 F V B σ a w) {x : Operand} {h : Nat → Option Ob} (hag : ∀ id ∈ rdOf (ev σ x), get σ.hp id = h id) {e : Ty} {xs : List (El e)} (hr : isRowD h (ev σ x) = some ⟨e, xs⟩) :
    ∃ (A0 : Option Addr) (c : Nat), a.eval x = .slice A0 xs.length c ∧ xs.length ≤ c ∧ xs.length * byE e ≤ 140737488355328 := by
  have key : isRow h (ev σ x) = some ⟨e, xs⟩ ∨ (∃ id, ev σ x = .rw id ∧ h id = some (.dp e xs)) ∨ ∃ id pre cs post, ev σ x = .rw id ∧ h id = some (.fo e pre cs post) ∧ xs = pre ++ dflt e :: post := by
    unfold isRowD at hr
    split at hr
    · rename_i hx; cases hr; exact .inl (by rw [hx]; rfl)
    · rename_i id hx
      split at hr
      · rename_i hg; cases hr; exact .inl (by rw [hx]; simp [isRow, hg])
      · rename_i hg; cases hr; exact .inl (by rw [hx]; simp [isRow, hg])
      · rename_i hg; cases hr; exact .inr (.inl ⟨id, hx, hg⟩)
      · rename_i hg; cases hr; exact .inr (.inr ⟨id, _, _, _, hx, hg, rfl⟩)
      · cases hr
    · cases hr
  rcases key with hr | ⟨id, hx, hg⟩ | ⟨id, pre, cs, post, hx, hg, rfl⟩
  · obtain ⟨A0, c, us, h1, h2, h3, _⟩ := isRow_rep hs hag hr
    exact ⟨A0, c, h1, h2, h3⟩
  · have hrep := hs.rep x
    have hag' := hag id (by rw [hx]; simp [rdOf])
    rw [hx] at hrep
    rw [← hag'] at hg
    generalize hpv : Act.eval _ x = pv at hrep
    have hob := hs.hp.ob id _ hg
    cases hrep
    cases hob with
    | dp _ _ hown =>
      obtain ⟨us, b0, hb, hro, _⟩ := hown.inv
      obtain ⟨A0, c, h1, hle, _⟩ := hro.cells
      exact ⟨A0, c, h1, hle, hb⟩
  · have hrep := hs.rep x
    have hag' := hag id (by rw [hx]; simp [rdOf])
    rw [hx] at hrep
    rw [← hag'] at hg
    generalize hpv : Act.eval _ x = pv at hrep
    have hob := hs.hp.ob id _ hg
    have hlen : (pre ++ dflt e :: post).length = pre.length + (1 + post.length) := by simp; omega
    cases hrep
    cases hob with
    | fo _ _ _ _ us1 vs us2 b1 b2 hb hc hro hr1 hr2 hv h1 hB hn =>
      obtain ⟨A0, c, h1, hle, _⟩ := hro.cells
      rw [hlen]
      exact ⟨A0, c, h1, hle, hb⟩
theorem isRowD_nn {n : Nat} {w0 : World} {L0 : Old} {F0 F : Nat → Prop} {V : Nat → Value} {B : Nat → List Nat} {σ : St} {a : Act} {w : World} (hs : Sim n w0 L0 F0 F V B σ a w) {x : Operand} {h : Nat → Option Ob} (hag : ∀ id ∈ rdOf (ev σ x), get σ.hp id = h id) {e : Ty} {xs : List (El e)} (hr : isRowD h (ev σ x) = some ⟨e, xs⟩) :
    ∃ (A0 : Option Addr) (c : Nat), a.eval x = .slice A0 xs.length c ∧ (0 < xs.length → ∃ ad, A0 = some ad) := by
  have key : isRow h (ev σ x) = some ⟨e, xs⟩ ∨ (∃ id, ev σ x = .rw id ∧ h id = some (.dp e xs)) ∨ ∃ id pre cs post, ev σ x = .rw id ∧ h id = some (.fo e pre cs post) ∧ xs = pre ++ dflt e :: post := by
    unfold isRowD at hr
    split at hr
    · rename_i hx; cases hr; exact .inl (by rw [hx]; rfl)
    · rename_i id hx
      split at hr
      · rename_i hg; cases hr; exact .inl (by rw [hx]; simp [isRow, hg])
      · rename_i hg; cases hr; exact .inl (by rw [hx]; simp [isRow, hg])
      · rename_i hg; cases hr; exact .inr (.inl ⟨id, hx, hg⟩)
      · rename_i hg; cases hr; exact .inr (.inr ⟨id, _, _, _, hx, hg, rfl⟩)
      · cases hr
    · cases hr
  rcases key with hr | ⟨id, hx, hg⟩ | ⟨id, pre, cs, post, hx, hg, rfl⟩
  · obtain ⟨A0, c, us, h1, h2, h3, _, h4⟩ := isRow_rep hs hag hr
    exact ⟨A0, c, h1, fun hp => by obtain ⟨ad, h5, _⟩ := h4 hp; exact ⟨ad, h5⟩⟩
  · have hrep := hs.rep x
    have hag' := hag id (by rw [hx]; simp [rdOf])
    rw [hx] at hrep
    rw [← hag'] at hg
    generalize hpv : Act.eval _ x = pv at hrep
    have hob := hs.hp.ob id _ hg
    cases hrep
    cases hob with
    | dp _ _ hown =>
      obtain ⟨us, b0, hb, hro, _⟩ := hown.inv
      obtain ⟨A0, c, h1, hle, h4⟩ := hro.cells
      exact ⟨A0, c, h1, fun hp => by obtain ⟨ad, h5, _⟩ := h4 hp; exact ⟨_, h5⟩⟩
  · have hrep := hs.rep x
    have hag' := hag id (by rw [hx]; simp [rdOf])
    rw [hx] at hrep
    rw [← hag'] at hg
    generalize hpv : Act.eval _ x = pv at hrep
    have hob := hs.hp.ob id _ hg
    have hlen : (pre ++ dflt e :: post).length = pre.length + (1 + post.length) := by simp; omega
    cases hrep
    cases hob with
    | fo _ _ _ _ us1 vs us2 b1 b2 hb hc hro hr1 hr2 hv h1 hB hn =>
      obtain ⟨A0, c, h1, hle, h4⟩ := hro.cells
      rw [hlen]
      exact ⟨A0, c, h1, fun hp => by obtain ⟨ad, h5, _⟩ := h4 hp; exact ⟨_, h5⟩⟩
theorem und_sl {t et : Nat} {i : TI} {e : Ty} (h : TOk P t i) (hk : i.k = .sl e et) : P.underlying t = some (.slice et) := by
  have := h.desc; rw [hk] at this; exact this
def Real (n : Nat) (σ : St) : Prop := ∃ (w0 : World) (L0 : Old) (F0 F : Nat → Prop) (V : Nat → Value) (B : Nat → List Nat) (a : Act) (w : World), Sim n w0 L0 F0 F V B σ a w
theorem Real.step {n : Nat} {σ σ' : St} {o : Oper} (h : Real n σ) (hv : Val P n o σ σ') : Real n σ' := by
  obtain ⟨w0, L0, F0, F, V, B, a, w, hs⟩ := h
  have := hv hs (fun _ _ => Real n σ') (fun _ _ _ => False) (fun F' V' B' a' w' h' => ⟨w0, L0, F0, F', V', B', a', w', h'⟩)
  unfold Oper.wp at this
  generalize (execOp a.eval o).run P w = r at this
  cases r with
  | ok x w' =>
    cases x <;> simp only [Oper.upon] at this
    case value => exact this
    case skip => exact this
    case defer => exact this
    case enter f args =>
      obtain ⟨e, w'', fr, hr, _⟩ := this []
      cases e with
      | returned v => exact hr
      | panicked c => exact hr.elim
      | outgrown => obtain ⟨_, _, h⟩ := hr; exact h.elim
    case row row args =>
      obtain ⟨v, w'', hr, _⟩ := this default []
      exact hr
  | halt x w' => cases x <;> simp only [Oper.upon] at this
theorem real_bound {n : Nat} {σ : St} (h : Real n σ) {x : Operand} {e : Ty} {xs : List (El e)} (hr : isRow (get σ.hp) (ev σ x) = some ⟨e, xs⟩) : xs.length * byE e ≤ 140737488355328 := by
  obtain ⟨w0, L0, F0, F, V, B, a, w, hs⟩ := h
  obtain ⟨_, _, _, _, _, hb, _⟩ := isRow_rep hs (fun _ _ => rfl) hr
  exact hb
theorem real_boundD {n : Nat} {σ : St} (h : Real n σ) {x : Operand} {e : Ty} {xs : List (El e)} (hr : isRowD (get σ.hp) (ev σ x) = some ⟨e, xs⟩) : xs.length * byE e ≤ 140737488355328 := by
  obtain ⟨w0, L0, F0, F, V, B, a, w, hs⟩ := h
  obtain ⟨_, _, _, _, hb⟩ := isRowD_rep hs (fun _ _ => rfl) hr
  exact hb
theorem real_str {n : Nat} {σ : St} (h : Real n σ) {x : Operand} {s : List UInt8} (hr : ev σ x = .c (.str s)) : s.length ≤ 9223372036854775807 := by
  obtain ⟨w0, L0, F0, F, V, B, a, w, hs⟩ := h
  obtain ⟨b, _, hb, hsz⟩ := rep_str (by rw [← hr]; exact hs.rep x)
  rw [← hb, Array.length_toList]
  exact hsz
theorem run_len {n : Nat} {o : Oper} {t et : Nat} {x : Operand} {c : Call} (hc : c.callee = .builtin .len) (hca : c.args.toList = [x]) (hct : c.argTypes.toList = [t]) (hu : P.underlying t = some (.slice et)) (ho : o.op = .call c) {A0 : Option Addr} {m cc : Nat} {a : Act} {w : World} (he : a.eval x = .slice A0 m cc) : (execOp a.eval o).run P w = .ok (.value (.int .i64 m)) w := by
  obtain ⟨callee, args, argTypes⟩ := c
  obtain rfl : args = #[x] := by cases args; simp_all
  obtain rfl : argTypes = #[t] := by cases argTypes; simp_all
  simp only at hc
  subst hc
  simp [execOp, ho, resolve, invoke, builtin, he, Builtin.len_, run_underlying hu, goInt]
theorem val_len_row {n : Nat} {o : Oper} (hd : ∀ d, o.dst = some d → d < n) {σ : St} {t et : Nat} {x : Operand} {c : Call} (hc : c.callee = .builtin .len) (hca : c.args.toList = [x]) (hct : c.argTypes.toList = [t]) (hu : P.underlying t = some (.slice et)) (ho : o.op = .call c) {h : Nat → Option Ob} (hag : ∀ id ∈ rdOf (ev σ x), get σ.hp id = h id) {e : Ty} {xs : List (El e)} (hr : isRowD h (ev σ x) = some ⟨e, xs⟩) : Val P n o σ (σ.upd o.dst (.c (.int .i64 xs.length)) []) :=
  val_pure hd fun hs => by
    obtain ⟨A0, c, he, _⟩ := isRowD_rep hs hag hr
    exact ⟨⟨_, run_len (n := n) hc hca hct hu ho he, .c (.int _ _)⟩, by simp [A.all]⟩
theorem val_len_nl {n : Nat} {o : Oper} (hd : ∀ d, o.dst = some d → d < n) {σ : St} {t et : Nat} {x : Operand} {c : Call} (hc : c.callee = .builtin .len) (hca : c.args.toList = [x]) (hct : c.argTypes.toList = [t]) (hu : P.underlying t = some (.slice et)) (ho : o.op = .call c) (hx : ev σ x = .nl) : Val P n o σ (σ.upd o.dst (.c (.int .i64 0)) []) :=
  val_pure hd fun hs => by
    have hr := hs.rep x
    rw [hx] at hr
    generalize hpv : Act.eval _ x = pv at hr
    cases hr
    exact ⟨⟨_, run_len (n := n) hc hca hct hu ho hpv, .c (.int _ _)⟩, by simp [A.all]⟩
theorem val_len_str {n : Nat} {o : Oper} (hd : ∀ d, o.dst = some d → d < n) {σ : St} {t : Nat} {x : Operand} {c : Call} (hc : c.callee = .builtin .len) (hca : c.args.toList = [x]) (hct : c.argTypes.toList = [t]) (hu : P.underlying t = some .string) (ho : o.op = .call c) {s : List UInt8} (hx : ev σ x = .c (.str s)) : Val P n o σ (σ.upd o.dst (.c (.int .i64 s.length)) []) :=
  val_pure hd fun hs => by
    obtain ⟨b, he, hb, _⟩ := rep_str (by rw [← hx]; exact hs.rep x)
    obtain ⟨callee, args, argTypes⟩ := c
    obtain rfl : args = #[x] := by cases args; simp_all
    obtain rfl : argTypes = #[t] := by cases argTypes; simp_all
    simp only at hc
    subst hc
    have : (b.size : Int) = s.length := by rw [← hb, Array.length_toList]; rfl
    exact ⟨⟨.int .i64 s.length, by simp [execOp, ho, resolve, invoke, builtin, he, Builtin.len_, run_underlying hu, goInt, this], .c (.int _ _)⟩, by simp [A.all]⟩
theorem run_indexAt_ {t et : Nat} {ie : TI} (hu : P.underlying t = some (.slice et)) (hie : TOk P et ie) {ad : Addr} {m c : Nat} {k : IntKind} {i : Int} (h0 : 0 ≤ i) (h1 : i < m) (w : World) : (Instr.indexAt t (.slice (some ad) m c) (.int k i)).run P w = .ok (.pointer (some (ad.add (i.toNat * ie.sz)))) w := by
  simp [Instr.indexAt, asIntOf, run_underlying hu, h0, h1, size_of hie]
/-- x[i] of what is only read. -/
theorem val_indexE {n : Nat} {o : Oper} (hd : ∀ d, o.dst = some d → d < n) {σ : St} {t et : Nat} {ie : TI} {x j : Operand} (hu : P.underlying t = some (.slice et)) (hie : TOk P et ie) (ho : o.op = .indexAddr t x j) {e : Ty} {xs : List (El e)} (hsz : szE e = ie.sz) {k : IntKind} {m : Int} (hj : ev σ j = .c (.int k m)) (h0 : 0 ≤ m) (h1 : m < xs.length)
    (hx : ∀ {w0 : World} {L0 : Old} {F0 F : Nat → Prop} {V : Nat → Value} {B : Nat → List Nat} {a : Act} {w : World}, Sim n w0 L0 F0 F V B σ a w → RepC F w (a.eval x) (.sl e xs)) : Val P n o σ (σ.upd o.dst (.el e (xs.getD m.toNat (dflt e)) 0) []) :=
  val_pure hd fun hs => by
    have hjv := rep_int (by rw [← hj]; exact hs.rep j)
    have hr := hx hs
    generalize hpv : Act.eval _ x = pv at hr
    cases hr with
    | sl _ _ A0 c us hc hb hA hr =>
      obtain ⟨ad, rfl, hF, hcl⟩ := hA (by omega)
      have hlt : m.toNat < xs.length := by omega
      refine ⟨⟨_, by simp only [execOp, ho, hpv, hjv]; simp [run_indexAt_ hu hie h0 h1]; rfl, ?_⟩, by simp [A.all]⟩
      have hsub := hcl.sub (m.toNat * szE e) (szE e)
      have hrs := (hr.drop (m.toNat * szE e)).take (szE e)
      rw [flat_get e xs m.toNat _ (getD_some hlt (dflt e))] at hrs
      have h2 := RepA.el (F := by assumption) (V := by assumption) (w := by assumption) e (xs.getD m.toNat (dflt e)) 0 (ad.add (m.toNat * szE e)) _ (by rw [addr_block]; exact hF) hsub hrs
      rw [← hsz]
      simpa [addr_add] using h2
theorem val_indexP {n : Nat} {o : Oper} (hd : ∀ d, o.dst = some d → d < n) {σ : St} {t et : Nat} {ie : TI} {x j : Operand} (hu : P.underlying t = some (.slice et)) (hie : TOk P et ie) (ho : o.op = .indexAddr t x j) {sz : Nat} (hsz : sz = ie.sz) {k : IntKind} {m : Int} (hj : ev σ j = .c (.int k m)) {N : Nat} (h0 : 0 ≤ m) (h1 : m < N)
    {id : Nat} (hx : ev σ x = .rw id) (hvf : ∀ {w0 : World} {L0 : Old} {F0 F : Nat → Prop} {V : Nat → Value} {B : Nat → List Nat} {a : Act} {w : World}, Sim n w0 L0 F0 F V B σ a w → ∃ g cap, V id = .slice (some ⟨g, 0, none⟩) N cap) : Val P n o σ (σ.upd o.dst (.re sz id m.toNat 0) []) :=
  val_pure hd fun {w0 L0 F0 F V B a w} hs => by
    have hjv := rep_int (by rw [← hj]; exact hs.rep j)
    have hr := hs.rep x
    have hids := hs.repIds x
    rw [hx] at hr hids
    generalize hpv : Act.eval _ x = pv at hr
    obtain ⟨g, cap, hvf⟩ := hvf hs
    cases hr
    refine ⟨⟨_, by simp only [execOp, ho, hpv, hjv]; rw [hvf]; simp [run_indexAt_ hu hie h0 h1]; rfl, ?_⟩, by simpa [A.all] using hids⟩
    have h2 := RepA.re (F := F) (V := V) (w := w) sz id m.toNat 0 g _ _ hvf
    rw [← hsz, add_at', Nat.zero_add]
    simpa using h2
theorem rowR.at_ {w : World} {e : Ty} {v : Value} {n : Nat} {us : List Value} (h : rowR w e v n us) (hn : 0 < n) : ∃ g cap, v = .slice (some ⟨g, 0, none⟩) n cap := by
  obtain ⟨A0, c, h1, _, hA⟩ := h.cells
  obtain ⟨g, rfl, _⟩ := hA hn
  exact ⟨g, c, h1⟩
theorem val_indexR {n : Nat} {o : Oper} (hd : ∀ d, o.dst = some d → d < n) {σ : St} {t et : Nat} {ie : TI} {x j : Operand} (hu : P.underlying t = some (.slice et)) (hie : TOk P et ie) (ho : o.op = .indexAddr t x j) {e : Ty} {xs : List (El e)} (hsz : szE e = ie.sz) {k : IntKind} {m : Int} (hj : ev σ j = .c (.int k m)) (h0 : 0 ≤ m) (h1 : m < xs.length)
    {id : Nat} (hx : ev σ x = .rw id) (hg : get σ.hp id = some (.row e xs) ∨ get σ.hp id = some (.dp e xs)) : Val P n o σ (σ.upd o.dst (.re (szE e) id m.toNat 0) []) :=
  val_indexP hd hu hie ho hsz hj h0 h1 hx fun hs => by
    rcases hg with hg | hg
    · have hob := hs.hp.ob id _ hg
      cases hob with
      | row _ _ us hown hr' hb => exact hown.at_ (by omega)
    · have hob := hs.hp.ob id _ hg
      cases hob with
      | dp _ _ hown =>
        obtain ⟨us, b0, hb, hro, _⟩ := hown.inv
        exact hro.at_ (by omega)
theorem val_indexF {n : Nat} {o : Oper} (hd : ∀ d, o.dst = some d → d < n) {σ : St} {t et : Nat} {ie : TI} {x j : Operand} (hu : P.underlying t = some (.slice et)) (hie : TOk P et ie) (ho : o.op = .indexAddr t x j) {e : Ty} {pre post : List (El e)} {cs : List A} (hsz : szE e = ie.sz) {k : IntKind} {m : Int} (hj : ev σ j = .c (.int k m)) (h0 : m = pre.length)
    {id : Nat} (hx : ev σ x = .rw id) (hg : get σ.hp id = some (.fo e pre cs post)) : Val P n o σ (σ.upd o.dst (.re (szE e) id pre.length 0) []) := by
  subst h0
  exact val_indexP hd hu hie ho hsz hj (N := pre.length + (1 + post.length)) (by omega) (by omega) hx fun hs => by
    have hob := hs.hp.ob id _ hg
    cases hob with
    | fo _ _ _ _ us1 vs us2 b1 b2 _ hcl hro hr1 hr2 hv0 h1 _ _ => exact hro.at_ (by omega)
theorem frz_rep {n : Nat} {w0 : World} {L0 : Old} {F0 F : Nat → Prop} {V : Nat → Value} {B : Nat → List Nat} {σ : St} {a : Act} {w : World} (hs : Sim n w0 L0 F0 F V B σ a w) {x : Operand} {id : Nat} (hx : ev σ x = .rw id) {e : Ty} {xs : List (El e)} (hg : get σ.hp id = some (.fz e xs)) : RepC F w (a.eval x) (.sl e xs) := by
  have hr := hs.rep x
  rw [hx] at hr
  have hob := hs.hp.ob id _ hg
  generalize hpv : a.eval x = pv at hr
  cases hr
  cases hob with
  | fz _ _ h => exact h
theorem c_rep {n : Nat} {w0 : World} {L0 : Old} {F0 F : Nat → Prop} {V : Nat → Value} {B : Nat → List Nat} {σ : St} {a : Act} {w : World} (hs : Sim n w0 L0 F0 F V B σ a w) {x : Operand} {c : C} (hx : ev σ x = .c c) : RepC F w (a.eval x) c := by
  have hr := hs.rep x
  rw [hx] at hr
  generalize a.eval x = pv at hr
  cases hr with
  | c h => exact h
end Go.Proofs.YthbpdhppelaihaaGreat
