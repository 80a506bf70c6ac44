/- CODE: conditions for statements, loops, what a state may be taken for, and what a function comes to. Conditions: none. -/
import Derived.Test.YthbpdhppelaihaaGreatG9
import Derived.LoopN
set_option linter.unusedVariables false
set_option linter.unusedSimpArgs false
namespace Go.Proofs.YthbpdhppelaihaaGreat
open Go.RowKit
variable {P : Program} {T : List (Nat × TI)}

/-- From σ on, c ends as Q says. n: the temporaries; m: the objects that the call began with. -/
def Tri (P : Program) (n m : Nat) (c : Code) (σ : St) (Q : Exit → St → Prop) : Prop :=
  ∀ ⦃w0 : World⦄ ⦃L0 : Old⦄ ⦃F0 F : Nat → Prop⦄ ⦃V : Nat → Value⦄ ⦃B : Nat → List Nat⦄ ⦃a : Act⦄ ⦃w : World⦄, L0.m = m → Sim n w0 L0 F0 F V B σ a w → ∀ Qw : Exit → Act → World → Prop, (∀ e σ' F' V' B' a' w', Q e σ' → Sim n w0 L0 F0 F' V' B' σ' a' w' → Qw e a' w') → c.wp P Qw a w
/-- σ may be taken for σ'. -/
def Weak (n m : Nat) (σ σ' : St) : Prop :=
  ∀ ⦃w0 : World⦄ ⦃L0 : Old⦄ ⦃F0 F : Nat → Prop⦄ ⦃V : Nat → Value⦄ ⦃B : Nat → List Nat⦄ ⦃a : Act⦄ ⦃w : World⦄, L0.m = m → Sim n w0 L0 F0 F V B σ a w → ∃ F' V' B', Sim n w0 L0 F0 F' V' B' σ' a w
def condA (c : A) (x y : Prop) : Prop :=
  match c with
  | .kb true => x
  | .kb false => y
  | .c (.bool t) => Case t x y
  | _ => False
def condM (h : Nat → Option Ob) (c : A) (x y : Prop) : Prop :=
  match c with
  | .rw id => match h id with
    | some (.mb t) => Maybe t x y
    | _ => False
  | c => condA c x y
def onNormal (K : St → Prop) (Q : Exit → St → Prop) (e : Exit) (σ : St) : Prop :=
  match e with
  | .normal => K σ
  | e => Q e σ
def onBlock (id : Nat) (Q : Exit → St → Prop) (e : Exit) (σ : St) : Prop :=
  match e with
  | .exit id' => match Nat.beq id' id with
    | true => Q .normal σ
    | false => Q (.exit id') σ
  | e => Q e σ
/-- The condition of a statement; at a loop it stays with the loop. -/
def vc (P : Program) (T : List (Nat × TI)) (n m : Nat) : Code → St → (Exit → St → Prop) → Prop
  | .skip, σ, Q => Q .normal σ
  | .label _, σ, Q => Q .normal σ
  | .exit id, σ, Q => Q (.exit id) σ
  | .ret, σ, Q => Q .ret σ
  | .region _ ops draw, σ, Q => Rg σ (Q .normal) fun s k => vcReg P T n ops.toList draw s k
  | .seq a b, σ, Q => vc P T n m a σ (onNormal (fun σ' => vc P T n m b σ' Q) Q)
  | .cond c x y, σ, Q => condM (get σ.hp) (ev σ c) (vc P T n m x σ Q) (vc P T n m y σ Q)
  | .block id b, σ, Q => vc P T n m b σ (onBlock id Q)
  | .loop b, σ, Q => Tri P n m (.loop b) σ Q
  | _, _, _ => False
theorem Tri.mono {n m : Nat} {c : Code} {σ : St} {Q Q' : Exit → St → Prop} (h : Tri P n m c σ Q) (hq : ∀ e σ', Q e σ' → Q' e σ') : Tri P n m c σ Q' :=
  fun _ _ _ _ _ _ _ _ hm hs Qw hQ => h hm hs Qw fun e σ' F' V' B' a' w' hk hs' => hQ e σ' F' V' B' a' w' (hq e σ' hk) hs'
theorem Tri.weak {n m : Nat} {c : Code} {σ σ' : St} {Q : Exit → St → Prop} (hw : Weak n m σ σ') (h : Tri P n m c σ' Q) : Tri P n m c σ Q :=
  fun _ _ _ _ _ _ _ _ hm hs Qw hQ => by
    obtain ⟨F', V', B', hs'⟩ := hw hm hs
    exact h hm hs' Qw hQ
theorem Tri.seq {n m : Nat} {x y : Code} {σ : St} {Q : Exit → St → Prop} (h : Tri P n m x σ (onNormal (fun σ' => Tri P n m y σ' Q) Q)) : Tri P n m (.seq x y) σ Q :=
  fun _ _ _ _ _ _ _ _ hm hs Qw hQ => wp_seq (h hm hs _ fun e σ' F' V' B' a' w' hk hs' => by
    cases e <;> simp only [onNormal] at hk <;> simp only [Exit.then]
    case normal => exact hk hm hs' Qw hQ
    all_goals exact hQ _ _ _ _ _ _ _ hk hs')
theorem Tri.cond {n m : Nat} {c : Operand} {x y : Code} {σ : St} {Q : Exit → St → Prop} (h : condM (get σ.hp) (ev σ c) (Tri P n m x σ Q) (Tri P n m y σ Q)) : Tri P n m (.cond c x y) σ Q :=
  fun _ _ _ _ _ _ _ _ hm hs Qw hQ => by
    have hc := hs.rep c
    unfold condM at h
    split at h
    · rename_i id he
      split at h
      · rename_i t hg
        have hob := hs.hp.ob _ _ hg
        cases hob with
        | mb _ b hV hb => exact wp_cond_split ((rw_rep hs he).trans hV) (fun ht => h.l (hb ht) hm hs Qw hQ) (fun ht => h.r hm hs Qw hQ)
      · exact h.elim
    unfold condA at h
    split at h
    · rename_i he; rw [he] at hc
      exact wp_cond_true (rep_bool hc rfl) (h hm hs Qw hQ)
    · rename_i he; rw [he] at hc
      exact wp_cond_false (rep_bool hc rfl) (h hm hs Qw hQ)
    · rename_i t he; rw [he] at hc
      exact wp_cond_split (rep_bool hc rfl) (fun ht => h.l ht hm hs Qw hQ) (fun ht => h.r ht hm hs Qw hQ)
    · exact h.elim
theorem Tri.block {n m : Nat} {id : Nat} {b : Code} {σ : St} {Q : Exit → St → Prop} (h : Tri P n m b σ (onBlock id Q)) : Tri P n m (.block id b) σ Q :=
  fun _ _ _ _ _ _ _ _ hm hs Qw hQ => wp_block (h hm hs _ fun e σ' F' V' B' a' w' hk hs' => by
    cases e <;> simp only [onBlock] at hk <;> simp only [Exit.inBlock]
    case exit id' =>
      split at hk
      · rename_i hb
        rw [if_pos (Nat.eq_of_beq_eq_true hb)]
        exact hQ _ _ _ _ _ _ _ hk hs'
      · rename_i hb
        rw [if_neg (fun e => by subst e; simp at hb)]
        exact hQ _ _ _ _ _ _ _ hk hs'
    all_goals exact hQ _ _ _ _ _ _ _ hk hs')
theorem Tri.reg (hT : ∀ t i, get T t = some i → TOk P t i) (hm' : P.follows .mixedOrders = true) {n m : Nat} {id : Nat} {ops : Array Oper} {draw : Bool} {σ : St} {Q : Exit → St → Prop} (h : vcReg P T n ops.toList draw σ (Q .normal)) : Tri P n m (.region id ops draw) σ Q :=
  fun _ _ _ _ _ _ _ _ hm hs Qw hQ => by
    have := reg_sound hT hm' h hs (Q := Qw) (fun σ' F' V' B' a' w' hk hs' => hQ _ _ _ _ _ _ _ hk hs') (id := id)
    simpa using this
/-- A LOOP: the states S i at its head, each round to a smaller one. -/
theorem Tri.loop {n m : Nat} {b : Code} {σ : St} {Q : Exit → St → Prop} {ι : Type} (S : ι → St) (I : ι → Prop) (μ : ι → Nat) (i0 : ι) (h0 : I i0) (hw : Weak n m σ (S i0))
    (hb : ∀ i, I i → Tri P n m b (S i) (onNormal (fun σ' => ∃ j, I j ∧ μ j < μ i ∧ Weak n m σ' (S j)) Q)) : Tri P n m (.loop b) σ Q :=
  fun w0 L0 F0 F V B a w hm hs Qw hQ => by
    obtain ⟨F1, V1, B1, hs1⟩ := hw hm hs
    have key : ∀ k i F V B a w, μ i < k → I i → Sim n w0 L0 F0 F V B (S i) a w → Code.rounds P b Qw k a w := by
      intro k
      induction k with
      | zero => intro i F V B a w h; omega
      | succ k ih =>
        intro i F V B a w hk hi hs
        rw [rounds_succ]
        refine hb i hi hm hs _ fun e σ' F' V' B' a' w' hq hs' => ?_
        cases e <;> simp only [onNormal] at hq <;> simp only [Exit.then]
        case normal =>
          obtain ⟨j, hj, hlt, hwk⟩ := hq
          obtain ⟨F2, V2, B2, hs2⟩ := hwk hm hs'
          exact ih j F2 V2 B2 _ _ (by omega) hj hs2
        all_goals exact hQ _ _ _ _ _ _ _ hq hs'
    exact wp_loop_rounds (μ i0 + 1) (key _ i0 F1 V1 B1 a w (Nat.lt_succ_self _) h0 hs1)
theorem vc_sound (hT : ∀ t i, get T t = some i → TOk P t i) (hm' : P.follows .mixedOrders = true) {n m : Nat} : ∀ (c : Code) (σ : St) (Q : Exit → St → Prop), vc P T n m c σ Q → Tri P n m c σ Q
  | .skip, σ, Q, h => fun _ _ _ _ _ _ _ _ hm hs Qw hQ => wp_skip (hQ _ _ _ _ _ _ _ h hs)
  | .label l, σ, Q, h => fun _ _ _ _ _ _ _ _ hm hs Qw hQ => wp_label (hQ _ _ _ _ _ _ _ h hs)
  | .exit id, σ, Q, h => fun _ _ _ _ _ _ _ _ hm hs Qw hQ => wp_exit (hQ _ _ _ _ _ _ _ h hs)
  | .ret, σ, Q, h => fun _ _ _ _ _ _ _ _ hm hs Qw hQ => wp_ret (hQ _ _ _ _ _ _ _ h hs)
  | .region id ops draw, σ, Q, h => Tri.reg hT hm' (h : Rg _ _ _).h
  | .seq a b, σ, Q, h => Tri.seq ((vc_sound hT hm' a σ _ h).mono fun e σ' he => by
      cases e <;> simp only [onNormal] at he ⊢
      case normal => exact vc_sound hT hm' b σ' Q he
      all_goals exact he)
  | .cond c x y, σ, Q, h => Tri.cond (by
      simp only [vc] at h
      unfold condM at h ⊢
      split at h
      · split at h
        · exact ⟨fun ht => vc_sound hT hm' x σ Q (h.l ht), vc_sound hT hm' y σ Q h.r⟩
        · exact h.elim
      unfold condA at h ⊢
      split at h
      · exact vc_sound hT hm' x σ Q h
      · exact vc_sound hT hm' y σ Q h
      · exact ⟨fun ht => vc_sound hT hm' x σ Q (h.l ht), fun ht => vc_sound hT hm' y σ Q (h.r ht)⟩
      · exact h.elim)
  | .block id b, σ, Q, h => Tri.block (vc_sound hT hm' b σ _ h)
  | .loop b, σ, Q, h => h
  | .rangeFunc .., _, _, h => (h : False).elim
  | .scope .., _, _, h => (h : False).elim
  | .goto .., _, _, h => (h : False).elim
  | .refuse .., _, _, h => (h : False).elim

/-! What a state may be taken for -/
def leOb (h : Nat → Option Ob) (ρ : Nat → Nat) (o : Option Ob) : Ob → Prop
  | .gone => True
  | .box cs' => match o with
    | some (.box cs) => leL h ρ cs cs'
    | _ => False
  | .row e xs => match o with
    | none => xs = []
    | some o => some o = some (.row e xs)
  | .fz e xs => o = some (.fz e xs)
  | .dp e xs => match o with
    | none => xs = []
    | some (.dp e' xs') => some (Ob.dp e' xs') = some (.dp e xs)
    | some (.row e' xs') => match flat e', xs' with
      | true, xs' => some (Ob.row e' xs') = some (.row e xs)
      | false, [] => some (Ob.row e' []) = some (.row e xs)
      | _, _ => False
    | _ => False
  | .fo e pre cs post => match o with
    | some (.fo e' pre' cs0 post') => leL h ρ cs0 cs ∧ some (Ob.fo e' pre' [] post') = some (.fo e pre [] post)
    | _ => False
  | .vw sz id off n => o = some (.vw sz (ρ id) off n) ∧ (h (ρ id)).isSome = true
  | .mb _ => False
def leEnv (σ : St) (ρ : Nat → Nat) : List (Nat × A) → Prop
  | [] => True
  | (t, a) :: l => leA (get σ.hp) ρ (σ.tmp t) a ∧ leEnv σ ρ l
def leHp (h : Nat → Option Ob) (ρ : Nat → Nat) : Hp → Prop
  | [] => True
  | (k, o) :: l => leOb h ρ (h (ρ k)) o ∧ leHp h ρ l
def envIds (D : Nat → Prop) : List (Nat × A) → Prop
  | [] => True
  | (_, a) :: l => a.all D ∧ envIds D l
def mapN (ρ : Nat → Nat) : List Nat → List Nat
  | [] => []
  | n :: l => ρ n :: mapN ρ l
def keepM (ρ : Nat → Nat) (hp : Hp) : Nat → Prop
  | 0 => True
  | m + 1 => ρ m = m ∧ Def hp m ∧ keepM ρ hp m
/-- How ids are renamed: those that are listed, the others keep theirs. -/
def rn : List (Nat × Nat) → Nat → Nat
  | [], k => k
  | (a, b) :: l, k => match Nat.beq a k with
    | true => b
    | false => rn l k
/-- The objects that are there still. -/
def live : Hp → List Nat
  | [] => []
  | (k, o) :: l => match o with
    | .gone => live l
    | _ => k :: live l
/-- The check that σ may be taken for σ'. -/
def Wk (m : Nat) (ρ : Nat → Nat) (σ σ' : St) : Prop :=
  nodupN (mapN ρ (live σ'.hp)) = true ∧ keepM ρ σ'.hp m ∧ leEnv σ ρ σ'.env ∧ leHp (get σ.hp) ρ σ'.hp ∧ envIds (Def σ'.hp) σ'.env ∧ obsIds (Def σ'.hp) σ'.hp
variable {F : Nat → Prop} {V : Nat → Value} {B : Nat → List Nat} {w : World}
theorem leL_len {h : Nat → Option Ob} {ρ : Nat → Nat} : ∀ {l' l : List A}, leL h ρ l l' → l.length = l'.length
  | [], l, hl => by unfold leL at hl; subst hl; rfl
  | a' :: l', l, hl => by
    unfold leL at hl
    cases l with
    | nil => exact hl.elim
    | cons a l => simp [leL_len hl.2]
/-- Which blocks the renamed ids have. -/
def BN (h : Nat → Option Ob) (V : Nat → Value) (B : Nat → List Nat) (ρ : Nat → Nat) (h' : Nat → Option Ob) (k : Nat) : List Nat :=
  match h (ρ k), h' k with
  | some (.row _ _), some (.dp _ _) => bkl (V (ρ k))
  | none, some (.dp _ _) => []
  | _, _ => B (ρ k)
theorem leOb_rep {h h' : Nat → Option Ob} {ρ : Nat → Nat} (hob : ∀ id o, h id = some o → ObR F V B w id o) (hids : ∀ id o, h id = some o → obIds (fun k => (h k).isSome = true) o) {k : Nat} {o : Ob} (hk : h' k = some o) (hl : leOb h ρ (h (ρ k)) o) : ObR F (VN h V ρ) (BN h V B ρ h') w k o ∧ ∀ b, (match o with | .box _ => blk (VN h V ρ k) = some b | .row _ _ => blk (VN h V ρ k) = some b | .dp _ _ => b ∈ BN h V B ρ h' k | .fo _ _ _ _ => b ∈ BN h V B ρ h' k | _ => False) → ∃ o', h (ρ k) = some o' ∧ (match o' with | .box _ => blk (V (ρ k)) = some b | .row _ _ => blk (V (ρ k)) = some b | .dp _ _ => b ∈ B (ρ k) | .fo _ _ _ _ => b ∈ B (ρ k) | _ => False) := by
  have hfz : ∀ id e xs, h id = some (.fz e xs) → RepC F w (V id) (.sl e xs) := fun id e xs hg => by
    have := hob id _ hg
    cases this with | fz _ _ h => exact h
  cases o with
  | gone => exact ⟨.gone, fun b hb => hb.elim⟩
  | box cs' =>
    simp only [leOb] at hl
    split at hl
    · rename_i cs hg
      have hv : VN h V ρ k = V (ρ k) := VN_some (by rw [hg]; rfl)
      have := hob _ _ hg
      have hi := hids _ _ hg
      refine ⟨?_, fun b hb => ⟨_, hg, by rw [hv] at hb; exact hb⟩⟩
      cases this with | box _ g vs t hV hg' hr h1 => exact .box cs' g vs t (by rw [hv]; exact hV) hg' (leL_rep hfz cs' hr hi hl) h1
    · exact hl.elim
  | row e xs =>
    simp only [leOb] at hl
    split at hl
    · rename_i hg
      subst hl
      have hv : VN h V ρ k = .slice none 0 0 := by unfold VN; rw [hg]
      exact ⟨.row e [] [] (by rw [hv]; exact ⟨by simp, .inl ⟨none, rfl, rfl⟩⟩) .nil (by simp), fun b hb => by simp [hv, blk] at hb⟩
    · rename_i o hg
      cases hl
      have hv : VN h V ρ k = V (ρ k) := VN_some (by rw [hg]; rfl)
      have := hob _ _ hg
      refine ⟨?_, fun b hb => ⟨_, hg, by rw [hv] at hb; exact hb⟩⟩
      cases this with | row _ _ us ho hr hb => exact .row e xs us (by rw [hv]; exact ho) hr hb
  | fz e xs =>
    simp only [leOb] at hl
    have hv : VN h V ρ k = V (ρ k) := VN_some (by rw [hl]; rfl)
    have := hob _ _ hl
    refine ⟨?_, fun b hb => hb.elim⟩
    cases this with | fz _ _ h => exact .fz e xs (by rw [hv]; exact h)
  | dp e xs =>
    simp only [leOb] at hl
    split at hl
    · rename_i hg
      subst hl
      have hv : VN h V ρ k = .slice none 0 0 := by unfold VN; rw [hg]
      have hb : BN h V B ρ h' k = [] := by unfold BN; rw [hg, hk]
      exact ⟨.dp e [] (by rw [hv, hb]; exact own_nil e), fun b hb' => by simp [hb] at hb'⟩
    · rename_i e' xs' hg
      cases hl
      have hv : VN h V ρ k = V (ρ k) := VN_some (by rw [hg]; rfl)
      have hb : BN h V B ρ h' k = B (ρ k) := by unfold BN; rw [hg, hk]
      have := hob _ _ hg
      refine ⟨?_, fun b hb' => ⟨_, hg, by rw [hb] at hb'; exact hb'⟩⟩
      cases this with | dp _ _ ho => exact .dp e xs (by rw [hv, hb]; exact ho)
    · rename_i e' xs' hg
      have key : (flat e' = true ∨ xs' = []) ∧ some (Ob.row e' xs') = some (.row e xs) := by
        split at hl
        · rename_i hf; exact ⟨.inl hf, hl⟩
        · exact ⟨.inr rfl, hl⟩
        · exact hl.elim
      obtain ⟨hf, he⟩ := key
      cases he
      have hv : VN h V ρ k = V (ρ k) := VN_some (by rw [hg]; rfl)
      have hb : BN h V B ρ h' k = bkl (V (ρ k)) := by unfold BN; rw [hg, hk]
      have := hob _ _ hg
      refine ⟨?_, fun b hb' => ⟨_, hg, by rw [hb] at hb'; exact bkl_mem.1 hb'⟩⟩
      cases this with | row _ _ us ho hr hbb => exact .dp e xs (by rw [hv, hb]; exact own_of_row ho hr hbb hf)
    · exact hl.elim
  | fo e pre cs post =>
    simp only [leOb] at hl
    split at hl
    · rename_i e' pre' cs0 post' hg
      obtain ⟨hl, he⟩ := hl
      cases he
      have hv : VN h V ρ k = V (ρ k) := VN_some (by rw [hg]; rfl)
      have hb : BN h V B ρ h' k = B (ρ k) := by unfold BN; rw [hg, hk]
      have := hob _ _ hg
      have hi := hids _ _ hg
      refine ⟨?_, fun b hb' => ⟨_, hg, by rw [hb] at hb'; exact hb'⟩⟩
      cases this with | fo _ _ _ _ us1 vs us2 b1 b2 hbb hc ho hr1 hr2 hr h1 hB hn => exact .fo e pre cs post us1 vs us2 b1 b2 hbb (by rw [← hc]; exact (leL_len hl).symm) (by rw [hv]; exact ho) hr1 hr2 (leL_rep hfz cs hr hi hl) h1 (by rw [hv, hb]; exact hB) (by rw [hb]; exact hn)
    · exact hl.elim
  | vw sz base off n =>
    simp only [leOb] at hl
    obtain ⟨hg, hd⟩ := hl
    have hv : VN h V ρ k = V (ρ k) := VN_some (by rw [hg]; rfl)
    have hv' : VN h V ρ base = V (ρ base) := VN_some hd
    have := hob _ _ hg
    refine ⟨?_, fun b hb => hb.elim⟩
    cases this with | vw _ _ _ _ g p N C hV hp hb hn => exact .vw sz base off n g p N C (by rw [hv]; exact hV) hp (by rw [hv']; exact hb) hn
  | mb c => exact hl.elim
theorem leHp_get {h : Nat → Option Ob} {ρ : Nat → Nat} : ∀ {l : Hp}, leHp h ρ l → ∀ {k : Nat} {o : Ob}, get l k = some o → leOb h ρ (h (ρ k)) o
  | [], _, k, o, hg => by simp [get] at hg
  | (k', o') :: l, hl, k, o, hg => by
    simp only [leHp] at hl
    rw [get_cons] at hg
    split at hg
    · rename_i e; subst e; cases hg; exact hl.1
    · exact leHp_get hl.2 hg
theorem leEnv_get {σ : St} {ρ : Nat → Nat} : ∀ {l : List (Nat × A)}, leEnv σ ρ l → ∀ t, leA (get σ.hp) ρ (σ.tmp t) (orX (get l t))
  | [], _, t => by simp [get, orX, leA]
  | (k', a) :: l, hl, t => by
    simp only [leEnv] at hl
    rw [get_cons]
    split
    · rename_i e; subst e; exact hl.1
    · exact leEnv_get hl.2 t
theorem envIds_get {D : Nat → Prop} : ∀ {l : List (Nat × A)}, envIds D l → ∀ t, (orX (get l t)).all D
  | [], _, t => by simp [get, orX, A.all]
  | (k', a) :: l, hl, t => by
    simp only [envIds] at hl
    rw [get_cons]
    split
    · exact hl.1
    · exact envIds_get hl.2 t
theorem live_mem {l : Hp} {k : Nat} {o : Ob} (hg : get l k = some o) (ho : o ≠ .gone) : k ∈ live l := by
  induction l with
  | nil => simp [get] at hg
  | cons p l ih =>
    obtain ⟨k', o'⟩ := p
    rw [get_cons] at hg
    split at hg
    · rename_i e
      subst e
      cases hg
      unfold live
      split
      · exact (ho rfl).elim
      · exact List.mem_cons_self ..
    · have := ih hg
      unfold live
      split
      · exact this
      · exact List.mem_cons_of_mem _ this
theorem mapN_mem {ρ : Nat → Nat} {l : List Nat} {k : Nat} (h : k ∈ l) : ρ k ∈ mapN ρ l := by
  induction l with
  | nil => simp at h
  | cons x l ih =>
    simp only [mapN]
    rcases List.mem_cons.1 h with rfl | h
    · exact List.mem_cons_self ..
    · exact List.mem_cons_of_mem _ (ih h)
theorem nodup_inj {ρ : Nat → Nat} : ∀ {l : List Nat}, nodupN (mapN ρ l) = true → ∀ {j k : Nat}, j ∈ l → k ∈ l → ρ j = ρ k → j = k
  | [], _, j, k, hj, _, _ => by simp at hj
  | x :: l, hn, j, k, hj, hk, he => by
    simp only [mapN, nodupN] at hn
    split at hn
    · cases hn
    · rename_i hnm
      have hno : ∀ {j : Nat}, j ∈ l → ρ x ≠ ρ j := fun {j} hj e => by
        rw [e, memN_iff.2 (mapN_mem hj)] at hnm
        cases hnm
      rcases List.mem_cons.1 hj with rfl | hj' <;> rcases List.mem_cons.1 hk with rfl | hk'
      · rfl
      · exact (hno hk' he).elim
      · exact (hno hj' he.symm).elim
      · exact nodup_inj hn hj' hk' he
theorem keepM_get {ρ : Nat → Nat} {hp : Hp} : ∀ {m : Nat}, keepM ρ hp m → ∀ {k : Nat}, k < m → ρ k = k ∧ Def hp k
  | 0, _, k, h => by omega
  | m + 1, hk, k, h => by
    simp only [keepM] at hk
    rcases Nat.lt_or_ge k m with h1 | h1
    · exact keepM_get hk.2.2 h1
    · have : k = m := by omega
      subst this
      exact ⟨hk.1, hk.2.1⟩
theorem owns_live {hp : Hp} {V : Nat → Value} {B : Nat → List Nat} {id b : Nat} (h : owns hp V B id b) : id ∈ live hp := by
  unfold owns at h
  cases hg : get hp id with
  | none => rw [hg] at h; exact h.elim
  | some o => exact live_mem hg (by rintro rfl; rw [hg] at h; exact h)
theorem Wk.ok {n m : Nat} {ρ : Nat → Nat} {σ σ' : St} (h : Wk m ρ σ σ') : Weak n m σ σ' := by
  intro w0 L0 F0 F V B a w hm hs
  obtain ⟨hnd, hkp, henv, hhp, hei, hoi⟩ := h
  refine ⟨F, VN (get σ.hp) V ρ, BN (get σ.hp) V B ρ (get σ'.hp), ?_⟩
  have hids : ∀ id o, get σ.hp id = some o → obIds (fun k => (get σ.hp k).isSome = true) o := hs.hp.ids
  have hfz : ∀ id e xs, get σ.hp id = some (.fz e xs) → RepC F w (V id) (.sl e xs) := fun id e xs hg => by
    have := hs.hp.ob id _ hg
    cases this with | fz _ _ h => exact h
  have hown : ∀ id b, owns σ'.hp (VN (get σ.hp) V ρ) (BN (get σ.hp) V B ρ (get σ'.hp)) id b → owns σ.hp V B (ρ id) b := fun id b hb => by
    unfold owns at hb
    cases hg : get σ'.hp id with
    | none => rw [hg] at hb; exact hb.elim
    | some o =>
      rw [hg] at hb
      obtain ⟨o', h1, h2⟩ := (leOb_rep hs.hp.ob hids hg (leHp_get hhp hg)).2 b (by cases o <;> exact hb)
      unfold owns
      rw [h1]
      cases o' <;> exact h2
  refine ⟨hs.fr, hs.df, hs.tsz, fun id => ?_, hs.F_lt, hs.F_new, hs.F0_F, ⟨fun id o hg => (leOb_rep hs.hp.ob hids hg (leHp_get hhp hg)).1, fun id o hg => obsIds_get hoi hg, fun id b hb => hs.hp.lt _ b (hown id b hb), fun id b hb => hs.hp.nF _ b (hown id b hb), fun id id' b hb hb' => ?_⟩, fun id b hb => hs.own _ b (hown id b hb), fun t => leA_rep hfz _ (hs.env t) (hs.ids t) (leEnv_get henv t), fun t => envIds_get hei t, fun id hid => ?_⟩
  · unfold VN
    split
    · rfl
    · exact hs.V1 _
  · exact nodup_inj hnd (owns_live hb) (owns_live hb') (hs.hp.apart _ _ b (hown id b hb) (hown id' b hb'))
  · obtain ⟨h1, h2⟩ := keepM_get hkp (by rw [← hm]; exact hid)
    have h3 := hs.keep id hid
    refine ⟨?_, h2⟩
    rw [VN_some (by rw [h1]; exact h3.2), h1]
    exact h3.1
theorem Weak.trans {n m : Nat} {σ σ' σ'' : St} (h : Weak n m σ σ') (h' : Weak n m σ' σ'') : Weak n m σ σ'' := fun _ _ _ _ _ _ _ _ hm hs => by
  obtain ⟨F', V', B', hs'⟩ := h hm hs
  exact h' hm hs'
/-- Rows that are only read from now on. -/
theorem Weak.frz {n m : Nat} {σ : St} (l : List A) : Weak n m σ { σ with hp := frz (get σ.hp) l ++ σ.hp } := fun _ _ _ _ _ _ _ _ hm hs => by
  obtain ⟨F', _, hs'⟩ := hs.freeze l
  exact ⟨F', _, _, hs'⟩
/-- The rows l are only read from now on, and then σ is taken for σ'. -/
def WkF (m : Nat) (l : List Nat) (ρ : List (Nat × Nat)) (σ σ' : St) : Prop := Wk m (rn ρ) { σ with hp := Go.Proofs.YthbpdhppelaihaaGreat.frz (get σ.hp) (l.map A.rw) ++ σ.hp } σ'
theorem WkF.ok {n m : Nat} {l : List Nat} {ρ : List (Nat × Nat)} {σ σ' : St} (h : WkF m l ρ σ σ') : Weak n m σ σ' := (Weak.frz _).trans (Wk.ok h)
end Go.Proofs.YthbpdhppelaihaaGreat
