/- CODE: conditions for statements, loops, what a state may be taken for, and what a function comes to. Conditions: none. -/
import Derived.Test.YthbpdhppelaihaaG9
import Derived.LoopN
set_option linter.unusedVariables false
set_option linter.unusedSimpArgs false
namespace Go.Proofs.Ythbpdhppelaihaa
open Go.RowKit
variable {P : Program} {T : List (Nat × TI)}

/-- From σ on, c ends as Q says. n: the temporaries; m: the objects that the call began with. -/
def Tri (P : Program) (n m : Nat) (c : Code) (σ : St) (Q : Exit → St → Prop) : Prop :=
  ∀ ⦃w0 : World⦄ ⦃L0 : Old⦄ ⦃F0 F : Nat → Prop⦄ ⦃V : Nat → Value⦄ ⦃a : Act⦄ ⦃w : World⦄, L0.m = m → Sim n w0 L0 F0 F V σ a w → ∀ Qw : Exit → Act → World → Prop, (∀ e σ' F' V' a' w', Q e σ' → Sim n w0 L0 F0 F' V' σ' a' w' → Qw e a' w') → c.wp P Qw a w
/-- σ may be taken for σ'. -/
def Weak (n m : Nat) (σ σ' : St) : Prop :=
  ∀ ⦃w0 : World⦄ ⦃L0 : Old⦄ ⦃F0 F : Nat → Prop⦄ ⦃V : Nat → Value⦄ ⦃a : Act⦄ ⦃w : World⦄, L0.m = m → Sim n w0 L0 F0 F V σ a w → ∃ F' V', Sim n w0 L0 F0 F' V' σ' a w
def condA (c : A) (x y : Prop) : Prop :=
  match c with
  | .kb true => x
  | .kb false => y
  | .c (.bool t) => Case t x y
  | _ => False
def onNormal (K : St → Prop) (Q : Exit → St → Prop) (e : Exit) (σ : St) : Prop :=
  match e with
  | .normal => K σ
  | e => Q e σ
def onBlock (id : Nat) (Q : Exit → St → Prop) (e : Exit) (σ : St) : Prop :=
  match e with
  | .exit id' => match Nat.beq id' id with
    | true => Q .normal σ
    | false => Q (.exit id') σ
  | e => Q e σ
/-- The condition of a statement; at a loop it stays with the loop. -/
def vc (P : Program) (T : List (Nat × TI)) (n m : Nat) : Code → St → (Exit → St → Prop) → Prop
  | .skip, σ, Q => Q .normal σ
  | .label _, σ, Q => Q .normal σ
  | .exit id, σ, Q => Q (.exit id) σ
  | .ret, σ, Q => Q .ret σ
  | .region _ ops draw, σ, Q => Rg σ (Q .normal) fun s k => vcReg P T n ops.toList draw s k
  | .seq a b, σ, Q => vc P T n m a σ (onNormal (fun σ' => vc P T n m b σ' Q) Q)
  | .cond c x y, σ, Q => condA (ev σ c) (vc P T n m x σ Q) (vc P T n m y σ Q)
  | .block id b, σ, Q => vc P T n m b σ (onBlock id Q)
  | .loop b, σ, Q => Tri P n m (.loop b) σ Q
  | _, _, _ => False
theorem Tri.mono {n m : Nat} {c : Code} {σ : St} {Q Q' : Exit → St → Prop} (h : Tri P n m c σ Q) (hq : ∀ e σ', Q e σ' → Q' e σ') : Tri P n m c σ Q' :=
  fun _ _ _ _ _ _ _ hm hs Qw hQ => h hm hs Qw fun e σ' F' V' a' w' hk hs' => hQ e σ' F' V' a' w' (hq e σ' hk) hs'
theorem Tri.weak {n m : Nat} {c : Code} {σ σ' : St} {Q : Exit → St → Prop} (hw : Weak n m σ σ') (h : Tri P n m c σ' Q) : Tri P n m c σ Q :=
  fun _ _ _ _ _ _ _ hm hs Qw hQ => by
    obtain ⟨F', V', hs'⟩ := hw hm hs
    exact h hm hs' Qw hQ
theorem Tri.seq {n m : Nat} {x y : Code} {σ : St} {Q : Exit → St → Prop} (h : Tri P n m x σ (onNormal (fun σ' => Tri P n m y σ' Q) Q)) : Tri P n m (.seq x y) σ Q :=
  fun _ _ _ _ _ _ _ hm hs Qw hQ => wp_seq (h hm hs _ fun e σ' F' V' a' w' hk hs' => by
    cases e <;> simp only [onNormal] at hk <;> simp only [Exit.then]
    case normal => exact hk hm hs' Qw hQ
    all_goals exact hQ _ _ _ _ _ _ hk hs')
theorem Tri.cond {n m : Nat} {c : Operand} {x y : Code} {σ : St} {Q : Exit → St → Prop} (h : condA (ev σ c) (Tri P n m x σ Q) (Tri P n m y σ Q)) : Tri P n m (.cond c x y) σ Q :=
  fun _ _ _ _ _ _ _ hm hs Qw hQ => by
    have hc := hs.rep c
    unfold condA at h
    split at h
    · rename_i he; rw [he] at hc
      exact wp_cond_true (rep_bool hc rfl) (h hm hs Qw hQ)
    · rename_i he; rw [he] at hc
      exact wp_cond_false (rep_bool hc rfl) (h hm hs Qw hQ)
    · rename_i t he; rw [he] at hc
      exact wp_cond_split (rep_bool hc rfl) (fun ht => h.l ht hm hs Qw hQ) (fun ht => h.r ht hm hs Qw hQ)
    · exact h.elim
theorem Tri.block {n m : Nat} {id : Nat} {b : Code} {σ : St} {Q : Exit → St → Prop} (h : Tri P n m b σ (onBlock id Q)) : Tri P n m (.block id b) σ Q :=
  fun _ _ _ _ _ _ _ hm hs Qw hQ => wp_block (h hm hs _ fun e σ' F' V' a' w' hk hs' => by
    cases e <;> simp only [onBlock] at hk <;> simp only [Exit.inBlock]
    case exit id' =>
      split at hk
      · rename_i hb
        rw [if_pos (Nat.eq_of_beq_eq_true hb)]
        exact hQ _ _ _ _ _ _ hk hs'
      · rename_i hb
        rw [if_neg (fun e => by subst e; simp at hb)]
        exact hQ _ _ _ _ _ _ hk hs'
    all_goals exact hQ _ _ _ _ _ _ hk hs')
theorem Tri.reg (hT : ∀ t i, get T t = some i → TOk P t i) (hm' : P.follows .mixedOrders = true) {n m : Nat} {id : Nat} {ops : Array Oper} {draw : Bool} {σ : St} {Q : Exit → St → Prop} (h : vcReg P T n ops.toList draw σ (Q .normal)) : Tri P n m (.region id ops draw) σ Q :=
  fun _ _ _ _ _ _ _ hm hs Qw hQ => by
    have := reg_sound hT hm' h hs (Q := Qw) (fun σ' F' V' a' w' hk hs' => hQ _ _ _ _ _ _ hk hs') (id := id)
    simpa using this
/-- A LOOP: the states S i at its head, each round to a smaller one. -/
theorem Tri.loop {n m : Nat} {b : Code} {σ : St} {Q : Exit → St → Prop} {ι : Type} (S : ι → St) (I : ι → Prop) (μ : ι → Nat) (i0 : ι) (h0 : I i0) (hw : Weak n m σ (S i0))
    (hb : ∀ i, I i → Tri P n m b (S i) (onNormal (fun σ' => ∃ j, I j ∧ μ j < μ i ∧ Weak n m σ' (S j)) Q)) : Tri P n m (.loop b) σ Q :=
  fun w0 L0 F0 F V a w hm hs Qw hQ => by
    obtain ⟨F1, V1, hs1⟩ := hw hm hs
    have key : ∀ k i F V a w, μ i < k → I i → Sim n w0 L0 F0 F V (S i) a w → Code.rounds P b Qw k a w := by
      intro k
      induction k with
      | zero => intro i F V a w h; omega
      | succ k ih =>
        intro i F V a w hk hi hs
        rw [rounds_succ]
        refine hb i hi hm hs _ fun e σ' F' V' a' w' hq hs' => ?_
        cases e <;> simp only [onNormal] at hq <;> simp only [Exit.then]
        case normal =>
          obtain ⟨j, hj, hlt, hwk⟩ := hq
          obtain ⟨F2, V2, hs2⟩ := hwk hm hs'
          exact ih j F2 V2 _ _ (by omega) hj hs2
        all_goals exact hQ _ _ _ _ _ _ hq hs'
    exact wp_loop_rounds (μ i0 + 1) (key _ i0 F1 V1 a w (Nat.lt_succ_self _) h0 hs1)
theorem vc_sound (hT : ∀ t i, get T t = some i → TOk P t i) (hm' : P.follows .mixedOrders = true) {n m : Nat} : ∀ (c : Code) (σ : St) (Q : Exit → St → Prop), vc P T n m c σ Q → Tri P n m c σ Q
  | .skip, σ, Q, h => fun _ _ _ _ _ _ _ hm hs Qw hQ => wp_skip (hQ _ _ _ _ _ _ h hs)
  | .label l, σ, Q, h => fun _ _ _ _ _ _ _ hm hs Qw hQ => wp_label (hQ _ _ _ _ _ _ h hs)
  | .exit id, σ, Q, h => fun _ _ _ _ _ _ _ hm hs Qw hQ => wp_exit (hQ _ _ _ _ _ _ h hs)
  | .ret, σ, Q, h => fun _ _ _ _ _ _ _ hm hs Qw hQ => wp_ret (hQ _ _ _ _ _ _ h hs)
  | .region id ops draw, σ, Q, h => Tri.reg hT hm' (h : Rg _ _ _).h
  | .seq a b, σ, Q, h => Tri.seq ((vc_sound hT hm' a σ _ h).mono fun e σ' he => by
      cases e <;> simp only [onNormal] at he ⊢
      case normal => exact vc_sound hT hm' b σ' Q he
      all_goals exact he)
  | .cond c x y, σ, Q, h => Tri.cond (by
      simp only [vc] at h
      unfold condA at h ⊢
      split at h
      · exact vc_sound hT hm' x σ Q h
      · exact vc_sound hT hm' y σ Q h
      · exact ⟨fun ht => vc_sound hT hm' x σ Q (h.l ht), fun ht => vc_sound hT hm' y σ Q (h.r ht)⟩
      · exact h.elim)
  | .block id b, σ, Q, h => Tri.block (vc_sound hT hm' b σ _ h)
  | .loop b, σ, Q, h => h
  | .rangeFunc .., _, _, h => (h : False).elim
  | .scope .., _, _, h => (h : False).elim
  | .goto .., _, _, h => (h : False).elim
  | .refuse .., _, _, h => (h : False).elim

/-! What a state may be taken for -/
mutual
def leA (h : Nat → Option Ob) (ρ : Nat → Nat) (a : A) : A → Prop
  | .un => True
  | .c c' => match a with
    | .c c => c = c'
    | .kb b => C.bool b = c'
    | .nl => ∃ e, C.sl e [] = c'
    | .rw id => match h id with
      | some (.fz e xs) => C.sl e xs = c'
      | _ => False
    | _ => False
  | .kb b' => match a with
    | .kb b => b = b'
    | .c c => c = .bool b'
    | _ => False
  | .ag l' => match a with
    | .ag l => leL h ρ l l'
    | _ => False
  | .tp l' => match a with
    | .tp l => leL h ρ l l'
    | _ => False
  | .nl => a = .nl
  | .pt id off => a = .pt (ρ id) off
  | .el e x off => a = .el e x off
  | .rw id => a = .rw (ρ id)
  | .re sz id i off => a = .re sz (ρ id) i off
  | .fn f l => a = .fn f (renL ρ l)
def leL (h : Nat → Option Ob) (ρ : Nat → Nat) : List A → List A → Prop
  | l, [] => l = []
  | l, a' :: l' => match l with
    | a :: l => leA h ρ a a' ∧ leL h ρ l l'
    | [] => False
end
def leOb (h : Nat → Option Ob) (ρ : Nat → Nat) (o : Option Ob) : Ob → Prop
  | .gone => True
  | .box cs' => match o with
    | some (.box cs) => leL h ρ cs cs'
    | _ => False
  | .row e xs => o = some (.row e xs)
  | .fz e xs => o = some (.fz e xs)
def leEnv (σ : St) (ρ : Nat → Nat) : List (Nat × A) → Prop
  | [] => True
  | (t, a) :: l => leA (get σ.hp) ρ (σ.tmp t) a ∧ leEnv σ ρ l
def leHp (h : Nat → Option Ob) (ρ : Nat → Nat) : Hp → Prop
  | [] => True
  | (k, o) :: l => leOb h ρ (h (ρ k)) o ∧ leHp h ρ l
def envIds (D : Nat → Prop) : List (Nat × A) → Prop
  | [] => True
  | (_, a) :: l => a.all D ∧ envIds D l
def nodupN : List Nat → Bool
  | [] => true
  | n :: l => match memN n l with
    | true => false
    | false => nodupN l
def mapN (ρ : Nat → Nat) : List Nat → List Nat
  | [] => []
  | n :: l => ρ n :: mapN ρ l
def keepM (ρ : Nat → Nat) (hp : Hp) : Nat → Prop
  | 0 => True
  | m + 1 => ρ m = m ∧ Def hp m ∧ keepM ρ hp m
/-- How ids are renamed: those that are listed, the others keep theirs. -/
def rn : List (Nat × Nat) → Nat → Nat
  | [], k => k
  | (a, b) :: l, k => match Nat.beq a k with
    | true => b
    | false => rn l k
/-- The check that σ may be taken for σ'. -/
def Wk (m : Nat) (ρ : Nat → Nat) (σ σ' : St) : Prop :=
  nodupN (mapN ρ (keys σ'.hp)) = true ∧ keepM ρ σ'.hp m ∧ leEnv σ ρ σ'.env ∧ leHp (get σ.hp) ρ σ'.hp ∧ envIds (Def σ'.hp) σ'.env ∧ obsIds (Def σ'.hp) σ'.hp
variable {F : Nat → Prop} {V : Nat → Value} {w : World}
mutual
theorem leA_rep {h : Nat → Option Ob} {ρ : Nat → Nat} (hob : ∀ id o, h id = some o → ObR F V w id o) : ∀ (a' : A) {a : A} {v : Value}, RepA F V w v a → leA h ρ a a' → RepA F (fun k => V (ρ k)) w v a'
  | .un, _, v, _, _ => .un v
  | .c c', a, v, hr, hl => by
    unfold leA at hl
    split at hl
    · subst hl; cases hr with | c h => exact .c h
    · subst hl; cases hr; exact .c (.bool _)
    · obtain ⟨e, rfl⟩ := hl
      cases hr
      exact .c (.sl e [] none 0 [] (Nat.le_refl _) (by simp) (fun hp => by simp at hp) .nil)
    · rename_i id
      split at hl
      · rename_i e xs hg
        subst hl
        have := hob id _ hg
        cases hr
        cases this with | fz _ _ h => exact .c h
      · exact hl.elim
    · exact hl.elim
  | .kb b', a, v, hr, hl => by
    unfold leA at hl
    split at hl
    · subst hl; cases hr; exact .kb _
    · subst hl; cases hr with | c h => cases h; exact .kb _
    · exact hl.elim
  | .ag l', a, v, hr, hl => by
    unfold leA at hl
    split at hl
    · cases hr with | ag h h1 => exact .ag (leL_rep hob l' h hl) h1
    · exact hl.elim
  | .tp l', a, v, hr, hl => by
    unfold leA at hl
    split at hl
    · cases hr with | tp h => exact .tp (leL_rep hob l' h hl)
    · exact hl.elim
  | .nl, a, v, hr, hl => by unfold leA at hl; subst hl; cases hr; exact .nl
  | .pt id off, a, v, hr, hl => by unfold leA at hl; subst hl; exact RepA.unren ρ (.pt id off) hr
  | .el e x off, a, v, hr, hl => by unfold leA at hl; subst hl; exact RepA.unren ρ (.el e x off) hr
  | .rw id, a, v, hr, hl => by unfold leA at hl; subst hl; exact RepA.unren ρ (.rw id) hr
  | .re sz id i off, a, v, hr, hl => by unfold leA at hl; subst hl; exact RepA.unren ρ (.re sz id i off) hr
  | .fn f l, a, v, hr, hl => by unfold leA at hl; subst hl; exact RepA.unren ρ (.fn f l) (by simpa only [A.ren] using hr)
theorem leL_rep {h : Nat → Option Ob} {ρ : Nat → Nat} (hob : ∀ id o, h id = some o → ObR F V w id o) : ∀ (l' : List A) {l : List A} {us : List Value}, RepAs F V w us l → leL h ρ l l' → RepAs F (fun k => V (ρ k)) w us l'
  | [], l, us, hr, hl => by unfold leL at hl; subst hl; cases hr; exact .nil
  | a' :: l', l, us, hr, hl => by
    unfold leL at hl
    split at hl
    · cases hr with | cons h t => exact .cons (leA_rep hob a' h hl.1) (leL_rep hob l' t hl.2)
    · exact hl.elim
end
theorem leOb_rep {h : Nat → Option Ob} {ρ : Nat → Nat} (hob : ∀ id o, h id = some o → ObR F V w id o) {k : Nat} {o : Ob} (hl : leOb h ρ (h (ρ k)) o) : ObR F (fun k => V (ρ k)) w k o := by
  cases o with
  | gone => exact .gone
  | box cs' =>
    simp only [leOb] at hl
    split at hl
    · rename_i cs hg
      have := hob _ _ hg
      cases this with | box _ g vs t hV hg' hr h1 => exact .box cs' g vs t hV hg' (leL_rep hob cs' hr hl) h1
    · exact hl.elim
  | row e xs => simp only [leOb] at hl; have := hob _ _ hl; cases this with | row _ _ us ho hr hb => exact .row e xs us ho hr hb
  | fz e xs => simp only [leOb] at hl; have := hob _ _ hl; cases this with | fz _ _ h => exact .fz e xs h
theorem leHp_get {h : Nat → Option Ob} {ρ : Nat → Nat} : ∀ {l : Hp}, leHp h ρ l → ∀ {k : Nat} {o : Ob}, get l k = some o → leOb h ρ (h (ρ k)) o
  | [], _, k, o, hg => by simp [get] at hg
  | (k', o') :: l, hl, k, o, hg => by
    simp only [leHp] at hl
    rw [get_cons] at hg
    split at hg
    · rename_i e; subst e; cases hg; exact hl.1
    · exact leHp_get hl.2 hg
theorem leEnv_get {σ : St} {ρ : Nat → Nat} : ∀ {l : List (Nat × A)}, leEnv σ ρ l → ∀ t, leA (get σ.hp) ρ (σ.tmp t) (orX (get l t))
  | [], _, t => by simp [get, orX, leA]
  | (k', a) :: l, hl, t => by
    simp only [leEnv] at hl
    rw [get_cons]
    split
    · rename_i e; subst e; exact hl.1
    · exact leEnv_get hl.2 t
theorem envIds_get {D : Nat → Prop} : ∀ {l : List (Nat × A)}, envIds D l → ∀ t, (orX (get l t)).all D
  | [], _, t => by simp [get, orX, A.all]
  | (k', a) :: l, hl, t => by
    simp only [envIds] at hl
    rw [get_cons]
    split
    · exact hl.1
    · exact envIds_get hl.2 t
theorem nodup_inj {ρ : Nat → Nat} : ∀ {l : Hp}, nodupN (mapN ρ (keys l)) = true → ∀ {j k : Nat}, Def l j → Def l k → ρ j = ρ k → j = k := by
  have hmem : ∀ {l : Hp} {k : Nat}, Def l k → ρ k ∈ mapN ρ (keys l) := by
    intro l k hk
    induction l with
    | nil => cases hk
    | cons p l ih =>
      obtain ⟨k', o⟩ := p
      unfold Def at hk
      rw [get_cons] at hk
      simp only [keys, mapN]
      split at hk
      · rename_i e; subst e; simp
      · exact List.mem_cons_of_mem _ (ih hk)
  intro l
  induction l with
  | nil => intro _ j k hj; cases hj
  | cons p l ih =>
    obtain ⟨k', o⟩ := p
    intro hn j k hj hk he
    simp only [keys, mapN, nodupN] at hn
    split at hn
    · cases hn
    · rename_i hnm
      have hcase : ∀ {j : Nat}, Def ((k', o) :: l) j → k' = j ∨ Def l j := fun {j} hj => by
        unfold Def at hj
        rw [get_cons] at hj
        split at hj
        · rename_i e; exact .inl e
        · exact .inr hj
      have hno : ∀ {j : Nat}, Def l j → ρ k' ≠ ρ j := fun {j} hj e => by
        rw [e, memN_iff.2 (hmem hj)] at hnm
        cases hnm
      rcases hcase hj with rfl | hj' <;> rcases hcase hk with rfl | hk'
      · rfl
      · exact (hno hk' he).elim
      · exact (hno hj' he.symm).elim
      · exact ih hn hj' hk' he
theorem keepM_get {ρ : Nat → Nat} {hp : Hp} : ∀ {m : Nat}, keepM ρ hp m → ∀ {k : Nat}, k < m → ρ k = k ∧ Def hp k
  | 0, _, k, h => by omega
  | m + 1, hk, k, h => by
    simp only [keepM] at hk
    rcases Nat.lt_or_ge k m with h1 | h1
    · exact keepM_get hk.2.2 h1
    · have : k = m := by omega
      subst this
      exact ⟨hk.1, hk.2.1⟩
theorem Wk.ok {n m : Nat} {ρ : Nat → Nat} {σ σ' : St} (h : Wk m ρ σ σ') : Weak n m σ σ' := by
  intro w0 L0 F0 F V a w hm hs
  obtain ⟨hnd, hkp, henv, hhp, hei, hoi⟩ := h
  refine ⟨F, fun k => V (ρ k), ?_⟩
  have hown : ∀ id b, owns σ'.hp (fun k => V (ρ k)) id b → owns σ.hp V (ρ id) b := fun id b hb => by
    unfold owns at hb ⊢
    cases hg : get σ'.hp id with
    | none => rw [hg] at hb; exact hb.elim
    | some o =>
      rw [hg] at hb
      have := leHp_get hhp hg
      cases o with
      | gone => exact hb.elim
      | fz e xs => exact hb.elim
      | row e xs => simp only [leOb] at this; rw [this]; exact hb
      | box cs =>
        simp only [leOb] at this
        split at this
        · rename_i cs' hg'; rw [hg']; exact hb
        · exact this.elim
  refine ⟨hs.fr, hs.df, hs.tsz, fun id => hs.V1 _, hs.F_lt, hs.F_new, hs.F0_F, ⟨fun id o hg => leOb_rep hs.hp.ob (leHp_get hhp hg), fun id o hg => obsIds_get hoi hg, fun id b hb => hs.hp.lt _ b (hown id b hb), fun id b hb => hs.hp.nF _ b (hown id b hb), fun id id' b hb hb' => ?_⟩, fun id b hb => hs.own _ b (hown id b hb), fun t => leA_rep hs.hp.ob _ (hs.env t) (leEnv_get henv t), fun t => envIds_get hei t, fun id hid => ?_⟩
  · exact nodup_inj hnd (owns_def hb) (owns_def hb') (hs.hp.apart _ _ b (hown id b hb) (hown id' b hb'))
  · obtain ⟨h1, h2⟩ := keepM_get hkp (by rw [← hm]; exact hid)
    rw [h1]
    exact ⟨(hs.keep id hid).1, h2⟩
theorem Weak.trans {n m : Nat} {σ σ' σ'' : St} (h : Weak n m σ σ') (h' : Weak n m σ' σ'') : Weak n m σ σ'' := fun _ _ _ _ _ _ _ hm hs => by
  obtain ⟨F', V', hs'⟩ := h hm hs
  exact h' hm hs'
/-- Rows that are only read from now on. -/
theorem Weak.frz {n m : Nat} {σ : St} (l : List A) : Weak n m σ { σ with hp := frz (get σ.hp) l ++ σ.hp } := fun _ _ _ _ _ _ _ hm hs => by
  obtain ⟨F', _, hs'⟩ := hs.freeze l
  exact ⟨F', _, hs'⟩
/-- The rows l are only read from now on, and then σ is taken for σ'. -/
def WkF (m : Nat) (l : List Nat) (ρ : List (Nat × Nat)) (σ σ' : St) : Prop := Wk m (rn ρ) { σ with hp := Go.Proofs.Ythbpdhppelaihaa.frz (get σ.hp) (l.map A.rw) ++ σ.hp } σ'
theorem WkF.ok {n m : Nat} {l : List Nat} {ρ : List (Nat × Nat)} {σ σ' : St} (h : WkF m l ρ σ σ') : Weak n m σ σ' := (Weak.frz _).trans (Wk.ok h)
end Go.Proofs.Ythbpdhppelaihaa
