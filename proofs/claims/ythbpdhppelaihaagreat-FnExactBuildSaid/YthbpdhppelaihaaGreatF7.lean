/- The conditions of F4 are sound: what makes memory, what freezes, what is stored. Conditions: none. -/
import Derived.Test.YthbpdhppelaihaaGreatF6
set_option linter.unusedVariables false
set_option linter.unusedSimpArgs false
namespace Go.Proofs.YthbpdhppelaihaaGreat
open Go.RowKit
variable {P : Program} {T : List (Nat × TI)}

theorem frz_spec {h : Nat → Option Ob} {id : Nat} {o : Ob} : ∀ {l : List A}, get (frz h l) id = some o → ∃ e xs, o = .fz e xs ∧ (h id = some (.row e xs) ∨ h id = some (.dp e xs))
  | [], hg => by simp [frz, get] at hg
  | a :: l, hg => by
    unfold frz at hg
    split at hg
    · rename_i heq; cases heq
    · rename_i id' l' heq
      cases heq
      split at hg
      · rename_i e xs hr
        rw [get_cons] at hg
        split at hg
        · rename_i he; subst he; cases hg; exact ⟨e, xs, rfl, .inl hr⟩
        · exact frz_spec hg
      · rename_i e xs hr
        rw [get_cons] at hg
        split at hg
        · rename_i he; subst he; cases hg; exact ⟨e, xs, rfl, .inr hr⟩
        · exact frz_spec hg
      · exact frz_spec hg
    · rename_i heq
      cases heq
      exact frz_spec hg
theorem frz_mem {h : Nat → Option Ob} {id : Nat} {e : Ty} {xs : List (El e)} (hr : h id = some (.row e xs) ∨ h id = some (.dp e xs)) : ∀ {l : List A}, .rw id ∈ l → get (frz h l) id = some (.fz e xs)
  | [], hm => by simp at hm
  | a :: l, hm => by
    unfold frz
    split
    · rename_i heq; cases heq
    · rename_i id' l' heq
      cases heq
      by_cases he : id' = id
      · subst he; rcases hr with hr | hr <;> (rw [hr]; simp [get_cons])
      · have hm' : A.rw id ∈ l := by
          rcases List.mem_cons.1 hm with h1 | h1
          · cases h1; exact (he rfl).elim
          · exact h1
        split
        · rename_i e' xs' hr'
          rw [get_cons, if_neg he]
          exact frz_mem hr hm'
        · rename_i e' xs' hr'
          rw [get_cons, if_neg he]
          exact frz_mem hr hm'
        · exact frz_mem hr hm'
    · rename_i hne heq
      cases heq
      have hm' : A.rw id ∈ l := by
        rcases List.mem_cons.1 hm with h1 | h1
        · exact (hne _ h1.symm).elim
        · exact h1
      exact frz_mem hr hm'
theorem rowR_rep {F : Nat → Prop} {w : World} {e : Ty} {v : Value} {xs : List (El e)} {us : List Value} (ho : rowR w e v xs.length us) (hr : RepL F w us (xs.flatMap (cells e))) (hbb : xs.length * byE e ≤ 140737488355328) (hb : ∀ b, blk v = some b → F b) : RepC F w v (.sl e xs) := by
  obtain ⟨A0, c, rfl, hc, hA⟩ := ho.cells
  exact .sl e xs A0 c us hc hbb (fun hp => by
    obtain ⟨g, h1, h2, h3⟩ := hA hp
    exact ⟨_, h1, hb g h2, h3⟩) hr
theorem row_rep {F : Nat → Prop} {V : Nat → Value} {B : Nat → List Nat} {w : World} {hp : Hp} {id : Nat} {e : Ty} {xs : List (El e)} (h : ∀ o, get hp id = some o → ObR F V B w id o) (hg : get hp id = some (.row e xs) ∨ get hp id = some (.dp e xs)) {F' : Nat → Prop} (hF : ∀ b, F b → F' b) (hb : ∀ b, owns hp V B id b → F' b) : RepC F' w (V id) (.sl e xs) := by
  rcases hg with hg | hg
  · have hob := h _ hg
    cases hob with
    | row _ _ us hown hr hbb => exact rowR_rep hown (hr.move hF (w' := w) (fun _ _ => rfl)) hbb fun b hb' => hb b (by unfold owns; rw [hg]; exact hb')
  · have hob := h _ hg
    cases hob with
    | dp _ _ h0 => exact h0.rep fun b hb' => hb b (by unfold owns; rw [hg]; exact hb')
theorem Sim.freeze {n : Nat} {w0 : World} {L0 : Old} {F0 F : Nat → Prop} {V : Nat → Value} {B : Nat → List Nat} {σ : St} {a : Act} {w : World} (hs : Sim n w0 L0 F0 F V B σ a w) (l : List A) : ∃ F' : Nat → Prop, (∀ b, F b → F' b) ∧ Sim n w0 L0 F0 F' V B { σ with hp := frz (get σ.hp) l ++ σ.hp } a w := by
  refine ⟨fun b => F b ∨ ∃ id, (∃ o, get (frz (get σ.hp) l) id = some o) ∧ owns σ.hp V B id b, fun b hb => .inl hb, ?_⟩
  refine hs.step (fun id => ∃ o, get (frz (get σ.hp) l) id = some o) rfl rfl rfl (fun _ _ _ => rfl) (Nat.le_refl _) (fun _ _ => rfl) (fun _ _ _ => rfl) (fun b hb => .inl hb) (fun b hb => ?_) (fun b hb => ?_) hs.V1 (fun id hid => ?_) (fun id hid => ?_) (fun id o hid ho => ?_) (fun id b hid ho => ?_) (fun id id' b hid hid' ho ho' => ?_)
  · rcases hb with hb | ⟨id, h1, h2⟩
    · exact .inl hb
    · exact .inr (.inr ⟨id, h1, h2⟩)
  · rcases hb with hb | ⟨id, h1, h2⟩
    · exact hs.F_lt b hb
    · exact hs.hp.lt id b h2
  · rw [get_append]
    cases h : get (frz (get σ.hp) l) id with
    | none => rfl
    | some o => exact (hid ⟨o, h⟩).elim
  · unfold Def at *
    rw [get_append]
    cases h : get (frz (get σ.hp) l) id with
    | none => exact hid
    | some o => rfl
  · obtain ⟨o', ho'⟩ := hid
    rw [get_append, ho'] at ho
    cases ho
    obtain ⟨e, xs, rfl, hr⟩ := frz_spec ho'
    exact ⟨.fz e xs (row_rep (hs.hp.ob id) hr (fun b hb => .inl hb) fun b hb => .inr ⟨id, ⟨_, ho'⟩, hb⟩), trivial⟩
  all_goals
    obtain ⟨o', ho''⟩ := hid
    obtain ⟨e, xs, rfl, hr⟩ := frz_spec ho''
    unfold owns at ho
    rw [get_append, ho''] at ho
    exact ho.elim
/-- What is data after the freezing. -/
theorem toC_rep {n : Nat} {w0 : World} {L0 : Old} {F0 F F' : Nat → Prop} {V : Nat → Value} {B : Nat → List Nat} {σ : St} {a : Act} {w : World} {l : List A} (hF : ∀ b, F b → F' b) (hs' : Sim n w0 L0 F0 F' V B { σ with hp := frz (get σ.hp) l ++ σ.hp } a w) {x : A} (hx : x ∈ l) {v : Value} (hr : RepA F V w v x) {d c : C} (hc : toC (get σ.hp) d x = some c) : RepC F' w v c := by
  have hmv : ∀ {v : Value} {c : C}, RepC F w v c → RepC F' w v c := fun h => h.move hF (fun _ _ => rfl)
  unfold toC at hc
  split at hc
  · cases hc; cases hr with | c h => exact hmv h
  · cases hc; cases hr; exact .bool _
  · split at hc
    · cases hc
      cases hr
      exact .sl _ [] none 0 [] (Nat.le_refl _) (by simp) (fun hp => by simp at hp) .nil
    · cases hc
  · rename_i id
    have hv : v = V id := by cases hr; rfl
    split at hc
    · rename_i e xs hg
      cases hc
      have h1 := frz_mem (.inl hg) hx
      have h2 := hs'.hp.ob id (.fz e xs) (by show get (frz (get σ.hp) l ++ σ.hp) id = _; rw [get_append, h1])
      rw [hv]
      cases h2 with | fz _ _ h => exact h
    · rename_i e xs hg
      cases hc
      have h2 : ObR F' V B w id (.fz e xs) := hs'.hp.ob id (.fz e xs) (by
        show get (frz (get σ.hp) l ++ σ.hp) id = _
        rw [get_append]
        cases h3 : get (frz (get σ.hp) l) id with
        | none => exact hg
        | some o => obtain ⟨e', xs', _, h4⟩ := frz_spec h3; rw [hg] at h4; rcases h4 with h4 | h4 <;> cases h4)
      rw [hv]
      cases h2 with | fz _ _ h => exact h
    · rename_i e xs hg
      cases hc
      have h1 := frz_mem (.inr hg) hx
      have h2 := hs'.hp.ob id (.fz e xs) (by show get (frz (get σ.hp) l ++ σ.hp) id = _; rw [get_append, h1])
      rw [hv]
      cases h2 with | fz _ _ h => exact h
    · cases hc
  · cases hc
theorem toCs_rep {n : Nat} {w0 : World} {L0 : Old} {F0 F F' : Nat → Prop} {V : Nat → Value} {B : Nat → List Nat} {σ : St} {a : Act} {w : World} {l0 : List A} (hF : ∀ b, F b → F' b) (hs' : Sim n w0 L0 F0 F' V B { σ with hp := frz (get σ.hp) l0 ++ σ.hp } a w) : ∀ {l : List A}, (∀ x ∈ l, x ∈ l0) → ∀ {us : List Value}, RepAs F V w us l → ∀ {ds cs : List C}, toCs (get σ.hp) ds l = some cs → RepL F' w us cs
  | [], _, _, hr, ds, cs, hc => by
    cases hr
    cases ds with
    | nil => simp [toCs] at hc; subst hc; exact .nil
    | cons d ds => simp [toCs] at hc
  | x :: l, hm, _, hr, ds, cs, hc => by
    cases hr with
    | cons h t =>
      cases ds with
      | nil => simp [toCs] at hc
      | cons d ds =>
        simp only [toCs] at hc
        split at hc
        · rename_i c cs' h1 h2
          cases hc
          exact .cons (toC_rep hF hs' (hm x (by simp)) h h1) (toCs_rep hF hs' (fun y hy => hm y (by simp [hy])) t h2)
        · cases hc
def updV (V : Nat → Value) (id : Nat) (v : Value) : Nat → Value := fun k => if k = id then v else V k
theorem Sim.new {n : Nat} {w0 : World} {L0 : Old} {F0 F : Nat → Prop} {V : Nat → Value} {B : Nat → List Nat} {σ : St} {a : Act} {w w' : World} (hs : Sim n w0 L0 F0 F V B σ a w) {id : Nat} (hid : get σ.hp id = none) {v : Value} (hv1 : v.oneCell' = true) {o : Ob} (hos : w'.os = w.os) (htape : w'.tape = w.tape) (hout : w'.output = w.output) (hsz : w.heap.size ≤ w'.heap.size)
    {B' : Nat → List Nat} (hB : ∀ k, k ≠ id → B' k = B k) (hblk : ∀ b, b < w.heap.size → w'.heap[b]? = w.heap[b]?) (ho : ObR F (updV V id v) B' w' id o) (hids : obIds (Def ((id, o) :: σ.hp)) o) (hown : ∀ b, owns ((id, o) :: σ.hp) (updV V id v) B' id b → w.heap.size ≤ b ∧ b < w'.heap.size) :
    Sim n w0 L0 F0 F (updV V id v) B' { σ with hp := (id, o) :: σ.hp } a w' := by
  refine hs.step (fun k => k = id) hos htape hout (fun b hb _ => hblk b hb) hsz (fun k hk => ?_) (fun k hk _ => hB k hk) (fun b hb => hb) (fun b hb => .inl hb) (fun b hb => Nat.lt_of_lt_of_le (hs.F_lt b hb) hsz) (fun k => ?_) (fun k hk => ?_) (fun k hk => ?_) (fun k o' hk ho' => ?_) (fun k b hk ho' => ?_) (fun k k' b hk hk' _ _ => by rw [hk, hk'])
  · unfold updV
    rw [if_neg]
    rintro rfl
    unfold Def at hk
    rw [hid] at hk
    cases hk
  · unfold updV; split
    · exact hv1
    · exact hs.V1 k
  · rw [get_cons, if_neg (fun e => hk e.symm)]
  · unfold Def at *
    rw [get_cons]
    split
    · rfl
    · exact hk
  · subst hk
    rw [get_cons, if_pos rfl] at ho'
    cases ho'
    exact ⟨ho, hids⟩
  · subst hk
    obtain ⟨h1, h2⟩ := hown b ho'
    exact ⟨h2, fun hF => absurd (hs.F_lt b hF) (by omega), .inl h1⟩
theorem allL_def_cons {σ : St} {id : Nat} {o : Ob} {l : List A} (h : allL (Def σ.hp) l) : allL (Def ((id, o) :: σ.hp)) l :=
  allL_mono (fun k hk => by unfold Def at *; rw [get_cons]; split <;> first | rfl | exact hk) h
theorem updV_ne {σ : St} {V : Nat → Value} {id : Nat} (hid : get σ.hp id = none) (v : Value) : ∀ k, Def σ.hp k → updV V id v k = V k := by
  intro k hk
  unfold updV
  rw [if_neg]
  rintro rfl
  unfold Def at hk
  rw [hid] at hk
  cases hk
theorem alloc_old (w : World) (o : Obj) (b : Nat) (hb : b < w.heap.size) : (w.alloc o).heap[b]? = w.heap[b]? := Below.heap_alloc w o b hb
theorem alloc_size (w : World) (o : Obj) : (w.alloc o).heap.size = w.heap.size + 1 := Array.size_push ..
theorem alloc_new (w : World) (o : Obj) : (w.alloc o).heap[w.heap.size]? = some o := by
  show (w.heap.push o)[w.heap.size]? = some o
  rw [Array.getElem?_push, if_pos rfl]
/-- A new variable in memory. -/
theorem val_box {n : Nat} {o : Oper} (hd : ∀ d, o.dst = some d → d < n) {σ : St} {id : Nat} (hid : get σ.hp id = none) {l : List A} {t : TypeId}
    (h : ∀ {w0 : World} {L0 : Old} {F0 F : Nat → Prop} {V : Nat → Value} {B : Nat → List Nat} {a : Act} {w : World}, Sim n w0 L0 F0 F V B σ a w → ∃ us : List Value, (execOp a.eval o).run P w = .ok (.value (.pointer (some ⟨w.heap.size, 0, none⟩))) (w.alloc (.cells us.toArray t)) ∧ RepAs F V w us l ∧ (∀ u ∈ us, u.oneCell' = true) ∧ allL (Def σ.hp) l) :
    Val P n o σ (σ.upd o.dst (.pt id 0) [(id, .box l)]) := by
  intro w0 L0 F0 F V B a w hs K Q hK
  obtain ⟨us, hrun, hr, h1, hl⟩ := h hs
  unfold Oper.wp
  rw [hrun]
  have hnew := hs.new (id := id) hid (v := .pointer (some ⟨w.heap.size, 0, none⟩)) rfl (o := .box l) (w' := w.alloc (.cells us.toArray t)) rfl rfl rfl (by rw [alloc_size]; omega) (fun _ _ => rfl) (fun b hb => alloc_old w _ b hb)
    (.box l w.heap.size us t (by simp [updV]) (alloc_new w _) (hr.move (fun _ hb => hb) (fun b hb => alloc_old w _ b (hs.F_lt b hb)) (allL_mono (updV_ne hid _) hl)) h1)
    (allL_def_cons hl) (fun b hb => by
      unfold owns at hb
      rw [get_cons, if_pos rfl] at hb
      simp [updV, blk] at hb
      subst hb
      exact ⟨Nat.le_refl _, by rw [alloc_size]; omega⟩)
  have hput := hnew.putd hd (v := .pointer (some ⟨w.heap.size, 0, none⟩)) (r := .pt id 0) (.pt id 0 w.heap.size (by simp [updV])) (by simp [A.all, Def, get_cons]) (σ.nx + 1)
  exact hK _ _ _ _ _ hput
theorem val_alloc (hT : ∀ t i, get T t = some i → TOk P t i) {n : Nat} {o : Oper} (hd : ∀ d, o.dst = some d → d < n) {σ : St} {id : Nat} (hid : get σ.hp id = none) {t : Nat} {i : TI} (hi : get T t = some i) (ho : o.op = .alloc t) (hz : allL (fun _ => False) i.z) : Val P n o σ (σ.upd o.dst (.pt id 0) [(id, .box i.z)]) :=
  val_box hd hid (t := t) fun {w0 L0 F0 F V B a w} hs => by
    obtain ⟨z, hz1, hz2, _⟩ := zero_of (hT t i hi) w
    refine ⟨z.cells.toList, ?_, hz2.reps, hz2.one, allL_mono (fun _ h => h.elim) hz⟩
    have : z.cells.toList.toArray = z.cells := by simp
    rw [this]
    simp [execOp, ho, Instr.alloc, hz1, newVar, newRow]
theorem zok_all : ∀ {us : List Value} {l : List A}, ZOk us l → allL (fun _ => False) l
  | _, _, .nil => by simp [allL]
  | _, _, .int k n t => by simp [allL, A.all, zok_all t]
  | _, _, .bool b t => by simp [allL, A.all, zok_all t]
  | _, _, .str t => by simp [allL, A.all, zok_all t]
  | _, _, .nl t => by simp [allL, A.all, zok_all t]
  | _, _, .oth v _ t => by simp [allL, A.all, zok_all t]
theorem cellsA_all {D : Nat → Prop} {a : A} {l : List A} (h : a.all D) (hl : cellsA a = some l) : allL D l := by
  cases a <;> simp [cellsA] at hl <;> subst hl <;> first | (simpa [A.all] using h) | (simp only [allL]; exact ⟨h, trivial⟩)
theorem val_boxop {n : Nat} {o : Oper} (hd : ∀ d, o.dst = some d → d < n) {σ : St} {id : Nat} (hid : get σ.hp id = none) {t : TypeId} {x : Operand} (ho : o.op = .box t x) {l : List A} (hl : cellsA (ev σ x) = some l) : Val P n o σ (σ.upd o.dst (.pt id 0) [(id, .box l)]) :=
  val_box hd hid (t := t) fun {w0 L0 F0 F V B a w} hs => by
    obtain ⟨h1, h2⟩ := cellsA_rep (hs.rep x) hl (fun id _ => hs.V1 id)
    refine ⟨(a.eval x).cells.toList, ?_, h1, h2, cellsA_all (hs.repIds x) hl⟩
    have : (a.eval x).cells.toList.toArray = (a.eval x).cells := by simp
    rw [this]
    simp [execOp, ho, Instr.box, newVar, newRow]
theorem fillA_all {D : Nat → Prop} {place : Nat → Option (Nat × Nat)} : ∀ {parts : List (Nat × A)} {z r : List A}, fillA place z parts = some r → allL D z → allL D (parts.map (·.2)) → allL D r
  | [], z, r, h, hz, _ => by simp [fillA] at h; subst h; exact hz
  | (i, a) :: parts, z, r, h, hz, hp => by
    simp only [List.map_cons, allL] at hp
    simp only [fillA] at h
    split at h
    · rename_i off size l h1 h2
      split at h
      · refine fillA_all h ?_ hp.2
        have hl := cellsA_all hp.1 h2
        clear h h1 h2
        have key : ∀ (l z : List A) (off : Nat), allL D z → allL D l → allL D (spl z off l) := by
          intro l
          induction l with
          | nil => exact fun z off hz _ => by rw [spl_nil]; exact hz
          | cons x l ih =>
            intro z off hz hl
            simp only [allL] at hl
            rw [spl_cons]
            refine ih _ _ ?_ hl.2
            clear ih
            induction z generalizing off with
            | nil => simp [allL]
            | cons y z ihz =>
              simp only [allL] at hz
              cases off with
              | zero => simp only [List.set_cons_zero, allL]; exact ⟨hl.1, hz.2⟩
              | succ off => simp only [List.set_cons_succ, allL]; exact ⟨hz.1, ihz off hz.2⟩
        exact key _ _ _ hz hl
      · cases h
    · cases h
theorem val_build (hT : ∀ t i, get T t = some i → TOk P t i) {n : Nat} {o : Oper} (hd : ∀ d, o.dst = some d → d < n) {σ : St} {t : Nat} {i : TI} {fs : List (Nat × Nat)} (hi : get T t = some i) (hk : i.k = .st fs) {parts : Array (Nat × Operand)} (ho : o.op = .build t parts) {l : List A}
    (hl : fillA (placeS T fs) i.z (parts.toList.map fun p => (p.1, ev σ p.2)) = some l) (hall : (fs.all fun p => (get T p.2).isSome) = true) : Val P n o σ (σ.upd o.dst (.ag l) []) :=
  val_pure hd fun {w0 L0 F0 F V B a w} hs => by
    have hti := hT t i hi
    obtain ⟨y, z, hy, hsz, _, hz, hzo, _⟩ := hti.inf
    have hdsc := hti.desc
    rw [hk] at hdsc
    obtain ⟨fields, hu, hm⟩ := hdsc
    have hpl : fields.toList.mapM (fun f => (P.info? f.type).map fun i => (f.offset, i.size)) = some (fs.map fun p => (p.1, match get T p.2 with | some fi => fi.sz | none => 0)) := by
      subst hm
      clear hl hu
      generalize fields.toList = fl at hall
      induction fl with
      | nil => rfl
      | cons f fl ih =>
        simp only [List.map_cons, List.all_cons, Bool.and_eq_true] at hall
        obtain ⟨hf, hall⟩ := hall
        obtain ⟨fi, hfi⟩ := Option.isSome_iff_exists.1 hf
        obtain ⟨y', _, hy', hs', _⟩ := (hT _ fi hfi).inf
        rw [List.mapM_cons, ih hall]
        simp [hy', hfi, hs']
    obtain ⟨cs, hcs, hrep, h1, _⟩ := fillA_ok (F := F) (V := V) (w := w) (placeS T fs)
      (parts.toList.map fun p => (p.1, ev σ p.2)) (parts.toList.map fun p => (p.1, a.eval p.2)) i.z z.cells l hl hzo.reps hzo.one (by simp [List.map_map, Function.comp_def]) (fun j i' v b h1 h2 => by
        rw [List.getElem?_map] at h1 h2
        cases hp : parts.toList[j]? with
        | none => rw [hp] at h1; simp at h1
        | some p =>
          rw [hp] at h1 h2
          simp at h1 h2
          obtain ⟨_, rfl⟩ := h1
          obtain ⟨_, rfl⟩ := h2
          exact hs.rep p.2) hs.V1
    have hbuilt : P.built t (parts.map fun (x : Nat × Operand) => (x.1, a.eval x.2)).toList = some cs := by
      unfold Program.built
      simp only [hy, hu, hz, hpl]
      rw [Array.toList_map]
      have hplace : (fun (x : Nat) => ((fs.map fun p => (p.1, match get T p.2 with | some fi => fi.sz | none => 0)).toArray)[x]?) = placeS T fs := by
        funext j
        unfold placeS
        simp only [List.getElem?_toArray, List.getElem?_map]
        cases hj : fs[j]? with
        | none => rfl
        | some p =>
          obtain ⟨po, pt⟩ := p
          have := List.all_eq_true.1 hall (po, pt) (List.mem_of_getElem? hj)
          obtain ⟨fi, hfi⟩ := Option.isSome_iff_exists.1 this
          simp only at hfi
          simp [hfi]
      rw [hplace]
      exact hcs
    have hrun := run_build (P := P) w t _ cs hbuilt
    refine ⟨⟨.agg cs, ?_, ?_⟩, ?_⟩
    · simp only [execOp, ho, Sem.run_bind]
      rw [hrun]
      rfl
    · have := RepA.ag (F := F) (V := V) (w := w) hrep h1
      simpa using this
    · simp only [A.all]
      refine fillA_all hl (allL_mono (fun _ h => h.elim) (zok_all hzo)) ?_
      have := (evs_rep hs (parts.toList.map (·.2))).2
      simpa [List.map_map, Function.comp_def] using this
end Go.Proofs.YthbpdhppelaihaaGreat
