/- Joined: H1 H2 H3. -/
import Derived.Test.YthbpdhppelaihaaGreatTC
import Derived.LoopN
import Derived.KernelRfl
/- CODE: conditions for statements, loops, what a state may be taken for, and what a function comes to. Conditions: none. -/
set_option linter.unusedVariables false
set_option linter.unusedSimpArgs false
namespace Go.Proofs.YthbpdhppelaihaaGreat
open Go.RowKit
variable {P : Program} {T : List (Nat × TI)}
def Tri (P : Program) (n m : Nat) (c : Code) (σ : St) (Q : Exit → St → Prop) : Prop :=
 ∀ ⦃w0 : World⦄ ⦃L0 : Old⦄ ⦃F0 F : Nat → Prop⦄ ⦃V : Nat → Value⦄ ⦃B : Nat → List Nat⦄ ⦃a : Act⦄ ⦃w : World⦄, L0.m = m → Sim n w0 L0 F0 F V B σ a w → ∀ Qw : Exit → Act → World → Prop, (∀ e σ' F' V' B' a' w', Q e σ' → Sim n w0 L0 F0 F' V' B' σ' a' w' → Qw e a' w') → c.wp P Qw a w
def Weak (n m : Nat) (σ σ' : St) : Prop :=
 ∀ ⦃w0 : World⦄ ⦃L0 : Old⦄ ⦃F0 F : Nat → Prop⦄ ⦃V : Nat → Value⦄ ⦃B : Nat → List Nat⦄ ⦃a : Act⦄ ⦃w : World⦄, L0.m = m → Sim n w0 L0 F0 F V B σ a w → ∃ F' V' B', Sim n w0 L0 F0 F' V' B' σ' a w
def condA (c : A) (x y : Prop) : Prop :=
 match c with
 | .kb true => x
 | .kb false => y
 | .c (.bool t) => Case t x y
 | _ => False
def condM (h : Nat → Option Ob) (c : A) (x y : Prop) : Prop :=
 match c with
 | .rw id => match h id with
   | some (.mb t) => Maybe t x y
   | _ => False
 | c => condA c x y
def onNormal (K : St → Prop) (Q : Exit → St → Prop) (e : Exit) (σ : St) : Prop :=
 match e with
 | .normal => K σ
 | e => Q e σ
def onBlock (id : Nat) (Q : Exit → St → Prop) (e : Exit) (σ : St) : Prop :=
 match e with
 | .exit id' => match Nat.beq id' id with
   | true => Q .normal σ
   | false => Q (.exit id') σ
 | e => Q e σ
def vc (P : Program) (T : List (Nat × TI)) (n m : Nat) : Code → St → (Exit → St → Prop) → Prop
 | .skip, σ, Q => Q .normal σ
 | .label _, σ, Q => Q .normal σ
 | .exit id, σ, Q => Q (.exit id) σ
 | .ret, σ, Q => Q .ret σ
 | .region _ ops draw, σ, Q => Rg σ (Q .normal) fun s k => vcReg P T n ops.toList draw s k
 | .seq a b, σ, Q => vc P T n m a σ (onNormal (fun σ' => vc P T n m b σ' Q) Q)
 | .cond c x y, σ, Q => condM (get σ.hp) (ev σ c) (vc P T n m x σ Q) (vc P T n m y σ Q)
 | .block id b, σ, Q => vc P T n m b σ (onBlock id Q)
 | .loop b, σ, Q => Tri P n m (.loop b) σ Q
 | _, _, _ => False
theorem Tri.mono {n m : Nat} {c : Code} {σ : St} {Q Q' : Exit → St → Prop} (h : Tri P n m c σ Q) (hq : ∀ e σ', Q e σ' → Q' e σ') : Tri P n m c σ Q' :=
 fun _ _ _ _ _ _ _ _ hm hs Qw hQ => h hm hs Qw fun e σ' F' V' B' a' w' hk hs' => hQ e σ' F' V' B' a' w' (hq e σ' hk) hs'
theorem Tri.seq {n m : Nat} {x y : Code} {σ : St} {Q : Exit → St → Prop} (h : Tri P n m x σ (onNormal (fun σ' => Tri P n m y σ' Q) Q)) : Tri P n m (.seq x y) σ Q :=
 fun _ _ _ _ _ _ _ _ hm hs Qw hQ => wp_seq (h hm hs _ fun e σ' F' V' B' a' w' hk hs' => by
  cases e <;> simp only [onNormal] at hk <;> simp only [Exit.then]
  case normal => exact hk hm hs' Qw hQ
  all_goals exact hQ _ _ _ _ _ _ _ hk hs')
theorem Tri.cond {n m : Nat} {c : Operand} {x y : Code} {σ : St} {Q : Exit → St → Prop} (h : condM (get σ.hp) (ev σ c) (Tri P n m x σ Q) (Tri P n m y σ Q)) : Tri P n m (.cond c x y) σ Q :=
 fun _ _ _ _ _ _ _ _ hm hs Qw hQ => by
  have hc := hs.rep c
  unfold condM at h
  split at h
  · rename_i id he
    split at h
    · rename_i t hg
      have hob := hs.hp.ob _ _ hg
      cases hob with
      | mb _ b hV hb => exact wp_cond_split ((rw_rep hs he).trans hV) (fun ht => h.l (hb ht) hm hs Qw hQ) (fun ht => h.r hm hs Qw hQ)
    · exact h.elim
  unfold condA at h
  split at h
  · rename_i he; rw [he] at hc
    exact wp_cond_true (rep_bool hc rfl) (h hm hs Qw hQ)
  · rename_i he; rw [he] at hc
    exact wp_cond_false (rep_bool hc rfl) (h hm hs Qw hQ)
  · rename_i t he; rw [he] at hc
    exact wp_cond_split (rep_bool hc rfl) (fun ht => h.l ht hm hs Qw hQ) (fun ht => h.r ht hm hs Qw hQ)
  · exact h.elim
theorem Tri.block {n m : Nat} {id : Nat} {b : Code} {σ : St} {Q : Exit → St → Prop} (h : Tri P n m b σ (onBlock id Q)) : Tri P n m (.block id b) σ Q :=
 fun _ _ _ _ _ _ _ _ hm hs Qw hQ => wp_block (h hm hs _ fun e σ' F' V' B' a' w' hk hs' => by
  cases e <;> simp only [onBlock] at hk <;> simp only [Exit.inBlock]
  case exit id' =>
   split at hk
   · rename_i hb
     rw [if_pos (Nat.eq_of_beq_eq_true hb)]
     exact hQ _ _ _ _ _ _ _ hk hs'
   · rename_i hb
     rw [if_neg (fun e => by subst e; simp at hb)]
     exact hQ _ _ _ _ _ _ _ hk hs'
  all_goals exact hQ _ _ _ _ _ _ _ hk hs')
theorem Tri.reg (hT : ∀ t i, get T t = some i → TOk P t i) (hm' : P.follows .mixedOrders = true) {n m : Nat} {id : Nat} {ops : Array Oper} {draw : Bool} {σ : St} {Q : Exit → St → Prop} (h : vcReg P T n ops.toList draw σ (Q .normal)) : Tri P n m (.region id ops draw) σ Q :=
 fun _ _ _ _ _ _ _ _ hm hs Qw hQ => by
  have := reg_sound hT hm' h hs (Q := Qw) (fun σ' F' V' B' a' w' hk hs' => hQ _ _ _ _ _ _ _ hk hs') (id := id)
  simpa using this
theorem Tri.loop {n m : Nat} {b : Code} {σ : St} {Q : Exit → St → Prop} {ι : Type} (S : ι → St) (I : ι → Prop) (μ : ι → Nat) (i0 : ι) (h0 : I i0) (hw : Weak n m σ (S i0))
 (hb : ∀ i, I i → Tri P n m b (S i) (onNormal (fun σ' => ∃ j, I j ∧ μ j < μ i ∧ Weak n m σ' (S j)) Q)) : Tri P n m (.loop b) σ Q :=
 fun w0 L0 F0 F V B a w hm hs Qw hQ => by
  obtain ⟨F1, V1, B1, hs1⟩ := hw hm hs
  have key : ∀ k i F V B a w, μ i < k → I i → Sim n w0 L0 F0 F V B (S i) a w → Code.rounds P b Qw k a w := by
   intro k
   induction k with
   | zero => intro i F V B a w h; omega
   | succ k ih =>
     intro i F V B a w hk hi hs
     rw [rounds_succ]
     refine hb i hi hm hs _ fun e σ' F' V' B' a' w' hq hs' => ?_
     cases e <;> simp only [onNormal] at hq <;> simp only [Exit.then]
     case normal =>
      obtain ⟨j, hj, hlt, hwk⟩ := hq
      obtain ⟨F2, V2, B2, hs2⟩ := hwk hm hs'
      exact ih j F2 V2 B2 _ _ (by omega) hj hs2
     all_goals exact hQ _ _ _ _ _ _ _ hq hs'
  exact wp_loop_rounds (μ i0 + 1) (key _ i0 F1 V1 B1 a w (Nat.lt_succ_self _) h0 hs1)
theorem vc_sound (hT : ∀ t i, get T t = some i → TOk P t i) (hm' : P.follows .mixedOrders = true) {n m : Nat} : ∀ (c : Code) (σ : St) (Q : Exit → St → Prop), vc P T n m c σ Q → Tri P n m c σ Q
 | .skip, σ, Q, h => fun _ _ _ _ _ _ _ _ hm hs Qw hQ => wp_skip (hQ _ _ _ _ _ _ _ h hs)
 | .label l, σ, Q, h => fun _ _ _ _ _ _ _ _ hm hs Qw hQ => wp_label (hQ _ _ _ _ _ _ _ h hs)
 | .exit id, σ, Q, h => fun _ _ _ _ _ _ _ _ hm hs Qw hQ => wp_exit (hQ _ _ _ _ _ _ _ h hs)
 | .ret, σ, Q, h => fun _ _ _ _ _ _ _ _ hm hs Qw hQ => wp_ret (hQ _ _ _ _ _ _ _ h hs)
 | .region id ops draw, σ, Q, h => Tri.reg hT hm' (h : Rg _ _ _).h
 | .seq a b, σ, Q, h => Tri.seq ((vc_sound hT hm' a σ _ h).mono fun e σ' he => by
    cases e <;> simp only [onNormal] at he ⊢
    case normal => exact vc_sound hT hm' b σ' Q he
    all_goals exact he)
 | .cond c x y, σ, Q, h => Tri.cond (by
    simp only [vc] at h
    unfold condM at h ⊢
    split at h
    · split at h
      · exact ⟨fun ht => vc_sound hT hm' x σ Q (h.l ht), vc_sound hT hm' y σ Q h.r⟩
      · exact h.elim
    unfold condA at h ⊢
    split at h
    · exact vc_sound hT hm' x σ Q h
    · exact vc_sound hT hm' y σ Q h
    · exact ⟨fun ht => vc_sound hT hm' x σ Q (h.l ht), fun ht => vc_sound hT hm' y σ Q (h.r ht)⟩
    · exact h.elim)
 | .block id b, σ, Q, h => Tri.block (vc_sound hT hm' b σ _ h)
 | .loop b, σ, Q, h => h
 | .rangeFunc .., _, _, h => (h : False).elim
 | .scope .., _, _, h => (h : False).elim
 | .goto .., _, _, h => (h : False).elim
 | .refuse .., _, _, h => (h : False).elim
/-! What a state may be taken for -/
def leOb (h : Nat → Option Ob) (ρ : Nat → Nat) (o : Option Ob) : Ob → Prop
 | .gone => True
 | .box cs' => match o with
   | some (.box cs) => leL h ρ cs cs'
   | _ => False
 | .row e xs => match o with
   | none => xs = []
   | some o => some o = some (.row e xs)
 | .fz e xs => o = some (.fz e xs)
 | .dp e xs => match o with
   | none => xs = []
   | some (.dp e' xs') => some (Ob.dp e' xs') = some (.dp e xs)
   | some (.row e' xs') => match flat e', xs' with
     | true, xs' => some (Ob.row e' xs') = some (.row e xs)
     | false, [] => some (Ob.row e' []) = some (.row e xs)
     | _, _ => False
   | _ => False
 | .fo e pre cs post => match o with
   | some (.fo e' pre' cs0 post') => leL h ρ cs0 cs ∧ some (Ob.fo e' pre' [] post') = some (.fo e pre [] post)
   | _ => False
 | .vw sz id off n => o = some (.vw sz (ρ id) off n) ∧ (h (ρ id)).isSome = true
 | .mb _ => False
def leEnv (σ : St) (ρ : Nat → Nat) : List (Nat × A) → Prop
 | [] => True
 | (t, a) :: l => leA (get σ.hp) ρ (σ.tmp t) a ∧ leEnv σ ρ l
def leHp (h : Nat → Option Ob) (ρ : Nat → Nat) : Hp → Prop
 | [] => True
 | (k, o) :: l => leOb h ρ (h (ρ k)) o ∧ leHp h ρ l
def envIds (D : Nat → Prop) : List (Nat × A) → Prop
 | [] => True
 | (_, a) :: l => a.all D ∧ envIds D l
def mapN (ρ : Nat → Nat) : List Nat → List Nat
 | [] => []
 | n :: l => ρ n :: mapN ρ l
def keepM (ρ : Nat → Nat) (hp : Hp) : Nat → Prop
 | 0 => True
 | m + 1 => ρ m = m ∧ Def hp m ∧ keepM ρ hp m
def rn : List (Nat × Nat) → Nat → Nat
 | [], k => k
 | (a, b) :: l, k => match Nat.beq a k with
   | true => b
   | false => rn l k
def live : Hp → List Nat
 | [] => []
 | (k, o) :: l => match o with
   | .gone => live l
   | _ => k :: live l
def Wk (m : Nat) (ρ : Nat → Nat) (σ σ' : St) : Prop :=
 nodupN (mapN ρ (live σ'.hp)) = true ∧ keepM ρ σ'.hp m ∧ leEnv σ ρ σ'.env ∧ leHp (get σ.hp) ρ σ'.hp ∧ envIds (Def σ'.hp) σ'.env ∧ obsIds (Def σ'.hp) σ'.hp
variable {F : Nat → Prop} {V : Nat → Value} {B : Nat → List Nat} {w : World}
theorem leL_len {h : Nat → Option Ob} {ρ : Nat → Nat} : ∀ {l' l : List A}, leL h ρ l l' → l.length = l'.length
 | [], l, hl => by unfold leL at hl; subst hl; rfl
 | a' :: l', l, hl => by
   unfold leL at hl
   cases l with
   | nil => exact hl.elim
   | cons a l => simp [leL_len hl.2]
def BN (h : Nat → Option Ob) (V : Nat → Value) (B : Nat → List Nat) (ρ : Nat → Nat) (h' : Nat → Option Ob) (k : Nat) : List Nat :=
 match h (ρ k), h' k with
 | some (.row _ _), some (.dp _ _) => bkl (V (ρ k))
 | none, some (.dp _ _) => []
 | _, _ => B (ρ k)
theorem leOb_rep {h h' : Nat → Option Ob} {ρ : Nat → Nat} (hob : ∀ id o, h id = some o → ObR F V B w id o) (hids : ∀ id o, h id = some o → obIds (fun k => (h k).isSome = true) o) {k : Nat} {o : Ob} (hk : h' k = some o) (hl : leOb h ρ (h (ρ k)) o) : ObR F (VN h V ρ) (BN h V B ρ h') w k o ∧ ∀ b, (match o with | .box _ => blk (VN h V ρ k) = some b | .row _ _ => blk (VN h V ρ k) = some b | .dp _ _ => b ∈ BN h V B ρ h' k | .fo _ _ _ _ => b ∈ BN h V B ρ h' k | _ => False) → ∃ o', h (ρ k) = some o' ∧ (match o' with | .box _ => blk (V (ρ k)) = some b | .row _ _ => blk (V (ρ k)) = some b | .dp _ _ => b ∈ B (ρ k) | .fo _ _ _ _ => b ∈ B (ρ k) | _ => False) := by
 have hfz : ∀ id e xs, h id = some (.fz e xs) → RepC F w (V id) (.sl e xs) := fun id e xs hg => by
  have := hob id _ hg
  cases this with | fz _ _ h => exact h
 cases o with
 | gone => exact ⟨.gone, fun b hb => hb.elim⟩
 | box cs' =>
   simp only [leOb] at hl
   split at hl
   · rename_i cs hg
     have hv : VN h V ρ k = V (ρ k) := VN_some (by rw [hg]; rfl)
     have := hob _ _ hg
     have hi := hids _ _ hg
     refine ⟨?_, fun b hb => ⟨_, hg, by rw [hv] at hb; exact hb⟩⟩
     cases this with | box _ g vs t hV hg' hr h1 => exact .box cs' g vs t (by rw [hv]; exact hV) hg' (leL_rep hfz cs' hr hi hl) h1
   · exact hl.elim
 | row e xs =>
   simp only [leOb] at hl
   split at hl
   · rename_i hg
     subst hl
     have hv : VN h V ρ k = .slice none 0 0 := by unfold VN; rw [hg]
     exact ⟨.row e [] [] (by rw [hv]; exact ⟨by simp, .inl ⟨none, rfl, rfl⟩⟩) .nil (by simp), fun b hb => by simp [hv, blk] at hb⟩
   · rename_i o hg
     cases hl
     have hv : VN h V ρ k = V (ρ k) := VN_some (by rw [hg]; rfl)
     have := hob _ _ hg
     refine ⟨?_, fun b hb => ⟨_, hg, by rw [hv] at hb; exact hb⟩⟩
     cases this with | row _ _ us ho hr hb => exact .row e xs us (by rw [hv]; exact ho) hr hb
 | fz e xs =>
   simp only [leOb] at hl
   have hv : VN h V ρ k = V (ρ k) := VN_some (by rw [hl]; rfl)
   have := hob _ _ hl
   refine ⟨?_, fun b hb => hb.elim⟩
   cases this with | fz _ _ h => exact .fz e xs (by rw [hv]; exact h)
 | dp e xs =>
   simp only [leOb] at hl
   split at hl
   · rename_i hg
     subst hl
     have hv : VN h V ρ k = .slice none 0 0 := by unfold VN; rw [hg]
     have hb : BN h V B ρ h' k = [] := by unfold BN; rw [hg, hk]
     exact ⟨.dp e [] (by rw [hv, hb]; exact own_nil e), fun b hb' => by simp [hb] at hb'⟩
   · rename_i e' xs' hg
     cases hl
     have hv : VN h V ρ k = V (ρ k) := VN_some (by rw [hg]; rfl)
     have hb : BN h V B ρ h' k = B (ρ k) := by unfold BN; rw [hg, hk]
     have := hob _ _ hg
     refine ⟨?_, fun b hb' => ⟨_, hg, by rw [hb] at hb'; exact hb'⟩⟩
     cases this with | dp _ _ ho => exact .dp e xs (by rw [hv, hb]; exact ho)
   · rename_i e' xs' hg
     have key : (flat e' = true ∨ xs' = []) ∧ some (Ob.row e' xs') = some (.row e xs) := by
      split at hl
      · rename_i hf; exact ⟨.inl hf, hl⟩
      · exact ⟨.inr rfl, hl⟩
      · exact hl.elim
     obtain ⟨hf, he⟩ := key
     cases he
     have hv : VN h V ρ k = V (ρ k) := VN_some (by rw [hg]; rfl)
     have hb : BN h V B ρ h' k = bkl (V (ρ k)) := by unfold BN; rw [hg, hk]
     have := hob _ _ hg
     refine ⟨?_, fun b hb' => ⟨_, hg, by rw [hb] at hb'; exact bkl_mem.1 hb'⟩⟩
     cases this with | row _ _ us ho hr hbb => exact .dp e xs (by rw [hv, hb]; exact own_of_row ho hr hbb hf)
   · exact hl.elim
 | fo e pre cs post =>
   simp only [leOb] at hl
   split at hl
   · rename_i e' pre' cs0 post' hg
     obtain ⟨hl, he⟩ := hl
     cases he
     have hv : VN h V ρ k = V (ρ k) := VN_some (by rw [hg]; rfl)
     have hb : BN h V B ρ h' k = B (ρ k) := by unfold BN; rw [hg, hk]
     have := hob _ _ hg
     have hi := hids _ _ hg
     refine ⟨?_, fun b hb' => ⟨_, hg, by rw [hb] at hb'; exact hb'⟩⟩
     cases this with | fo _ _ _ _ us1 vs us2 b1 b2 hbb hc ho hr1 hr2 hr h1 hB hn => exact .fo e pre cs post us1 vs us2 b1 b2 hbb (by rw [← hc]; exact (leL_len hl).symm) (by rw [hv]; exact ho) hr1 hr2 (leL_rep hfz cs hr hi hl) h1 (by rw [hv, hb]; exact hB) (by rw [hb]; exact hn)
   · exact hl.elim
 | vw sz base off n =>
   simp only [leOb] at hl
   obtain ⟨hg, hd⟩ := hl
   have hv : VN h V ρ k = V (ρ k) := VN_some (by rw [hg]; rfl)
   have hv' : VN h V ρ base = V (ρ base) := VN_some hd
   have := hob _ _ hg
   refine ⟨?_, fun b hb => hb.elim⟩
   cases this with | vw _ _ _ _ g p N C hV hp hb hn => exact .vw sz base off n g p N C (by rw [hv]; exact hV) hp (by rw [hv']; exact hb) hn
 | mb c => exact hl.elim
theorem leHp_get {h : Nat → Option Ob} {ρ : Nat → Nat} : ∀ {l : Hp}, leHp h ρ l → ∀ {k : Nat} {o : Ob}, get l k = some o → leOb h ρ (h (ρ k)) o
 | [], _, k, o, hg => by simp [get] at hg
 | (k', o') :: l, hl, k, o, hg => by
   simp only [leHp] at hl
   rw [get_cons] at hg
   split at hg
   · rename_i e; subst e; cases hg; exact hl.1
   · exact leHp_get hl.2 hg
theorem leEnv_get {σ : St} {ρ : Nat → Nat} : ∀ {l : List (Nat × A)}, leEnv σ ρ l → ∀ t, leA (get σ.hp) ρ (σ.tmp t) (orX (get l t))
 | [], _, t => by simp [get, orX, leA]
 | (k', a) :: l, hl, t => by
   simp only [leEnv] at hl
   rw [get_cons]
   split
   · rename_i e; subst e; exact hl.1
   · exact leEnv_get hl.2 t
theorem envIds_get {D : Nat → Prop} : ∀ {l : List (Nat × A)}, envIds D l → ∀ t, (orX (get l t)).all D
 | [], _, t => by simp [get, orX, A.all]
 | (k', a) :: l, hl, t => by
   simp only [envIds] at hl
   rw [get_cons]
   split
   · exact hl.1
   · exact envIds_get hl.2 t
theorem live_mem {l : Hp} {k : Nat} {o : Ob} (hg : get l k = some o) (ho : o ≠ .gone) : k ∈ live l := by
 induction l with
 | nil => simp [get] at hg
 | cons p l ih =>
   obtain ⟨k', o'⟩ := p
   rw [get_cons] at hg
   split at hg
   · rename_i e
     subst e
     cases hg
     unfold live
     split
     · exact (ho rfl).elim
     · exact List.mem_cons_self ..
   · have := ih hg
     unfold live
     split
     · exact this
     · exact List.mem_cons_of_mem _ this
theorem mapN_mem {ρ : Nat → Nat} {l : List Nat} {k : Nat} (h : k ∈ l) : ρ k ∈ mapN ρ l := by
 induction l with
 | nil => simp at h
 | cons x l ih =>
   simp only [mapN]
   rcases List.mem_cons.1 h with rfl | h
   · exact List.mem_cons_self ..
   · exact List.mem_cons_of_mem _ (ih h)
theorem nodup_inj {ρ : Nat → Nat} : ∀ {l : List Nat}, nodupN (mapN ρ l) = true → ∀ {j k : Nat}, j ∈ l → k ∈ l → ρ j = ρ k → j = k
 | [], _, j, k, hj, _, _ => by simp at hj
 | x :: l, hn, j, k, hj, hk, he => by
   simp only [mapN, nodupN] at hn
   split at hn
   · cases hn
   · rename_i hnm
     have hno : ∀ {j : Nat}, j ∈ l → ρ x ≠ ρ j := fun {j} hj e => by
      rw [e, memN_iff.2 (mapN_mem hj)] at hnm
      cases hnm
     rcases List.mem_cons.1 hj with rfl | hj' <;> rcases List.mem_cons.1 hk with rfl | hk'
     · rfl
     · exact (hno hk' he).elim
     · exact (hno hj' he.symm).elim
     · exact nodup_inj hn hj' hk' he
theorem keepM_get {ρ : Nat → Nat} {hp : Hp} : ∀ {m : Nat}, keepM ρ hp m → ∀ {k : Nat}, k < m → ρ k = k ∧ Def hp k
 | 0, _, k, h => by omega
 | m + 1, hk, k, h => by
   simp only [keepM] at hk
   rcases Nat.lt_or_ge k m with h1 | h1
   · exact keepM_get hk.2.2 h1
   · have : k = m := by omega
     subst this
     exact ⟨hk.1, hk.2.1⟩
theorem owns_live {hp : Hp} {V : Nat → Value} {B : Nat → List Nat} {id b : Nat} (h : owns hp V B id b) : id ∈ live hp := by
 unfold owns at h
 cases hg : get hp id with
 | none => rw [hg] at h; exact h.elim
 | some o => exact live_mem hg (by rintro rfl; rw [hg] at h; exact h)
theorem Wk.ok {n m : Nat} {ρ : Nat → Nat} {σ σ' : St} (h : Wk m ρ σ σ') : Weak n m σ σ' := by
 intro w0 L0 F0 F V B a w hm hs
 obtain ⟨hnd, hkp, henv, hhp, hei, hoi⟩ := h
 refine ⟨F, VN (get σ.hp) V ρ, BN (get σ.hp) V B ρ (get σ'.hp), ?_⟩
 have hids : ∀ id o, get σ.hp id = some o → obIds (fun k => (get σ.hp k).isSome = true) o := hs.hp.ids
 have hfz : ∀ id e xs, get σ.hp id = some (.fz e xs) → RepC F w (V id) (.sl e xs) := fun id e xs hg => by
  have := hs.hp.ob id _ hg
  cases this with | fz _ _ h => exact h
 have hown : ∀ id b, owns σ'.hp (VN (get σ.hp) V ρ) (BN (get σ.hp) V B ρ (get σ'.hp)) id b → owns σ.hp V B (ρ id) b := fun id b hb => by
  unfold owns at hb
  cases hg : get σ'.hp id with
  | none => rw [hg] at hb; exact hb.elim
  | some o =>
    rw [hg] at hb
    obtain ⟨o', h1, h2⟩ := (leOb_rep hs.hp.ob hids hg (leHp_get hhp hg)).2 b (by cases o <;> exact hb)
    unfold owns
    rw [h1]
    cases o' <;> exact h2
 refine ⟨hs.fr, hs.df, hs.tsz, fun id => ?_, hs.F_lt, hs.F_new, hs.F0_F, ⟨fun id o hg => (leOb_rep hs.hp.ob hids hg (leHp_get hhp hg)).1, fun id o hg => obsIds_get hoi hg, fun id b hb => hs.hp.lt _ b (hown id b hb), fun id b hb => hs.hp.nF _ b (hown id b hb), fun id id' b hb hb' => ?_⟩, fun id b hb => hs.own _ b (hown id b hb), fun t => leA_rep hfz _ (hs.env t) (hs.ids t) (leEnv_get henv t), fun t => envIds_get hei t, fun id hid => ?_⟩
 · unfold VN
   split
   · rfl
   · exact hs.V1 _
 · exact nodup_inj hnd (owns_live hb) (owns_live hb') (hs.hp.apart _ _ b (hown id b hb) (hown id' b hb'))
 · obtain ⟨h1, h2⟩ := keepM_get hkp (by rw [← hm]; exact hid)
   have h3 := hs.keep id hid
   refine ⟨?_, h2⟩
   rw [VN_some (by rw [h1]; exact h3.2), h1]
   exact h3.1
theorem Weak.trans {n m : Nat} {σ σ' σ'' : St} (h : Weak n m σ σ') (h' : Weak n m σ' σ'') : Weak n m σ σ'' := fun _ _ _ _ _ _ _ _ hm hs => by
 obtain ⟨F', V', B', hs'⟩ := h hm hs
 exact h' hm hs'
theorem Weak.frz {n m : Nat} {σ : St} (l : List A) : Weak n m σ { σ with hp := frz (get σ.hp) l ++ σ.hp } := fun _ _ _ _ _ _ _ _ hm hs => by
 obtain ⟨F', _, hs'⟩ := hs.freeze l
 exact ⟨F', _, _, hs'⟩
def WkF (m : Nat) (l : List Nat) (ρ : List (Nat × Nat)) (σ σ' : St) : Prop := Wk m (rn ρ) { σ with hp := Go.Proofs.YthbpdhppelaihaaGreat.frz (get σ.hp) (l.map A.rw) ++ σ.hp } σ'
theorem WkF.ok {n m : Nat} {l : List Nat} {ρ : List (Nat × Nat)} {σ σ' : St} (h : WkF m l ρ σ σ') : Weak n m σ σ' := (Weak.frz _).trans (Wk.ok h)
end Go.Proofs.YthbpdhppelaihaaGreat
/- FUNCTIONS: what a function comes to, out of the condition of its body; what a contract gives. Conditions: none. -/
namespace Go.Proofs.YthbpdhppelaihaaGreat
open Go.RowKit
variable {P : Program} {T : List (Nat × TI)}
def resV (T : List (Nat × TI)) (σ : St) : ResultVar → Option A
 | .tmp t => some (σ.tmp t)
 | .cell a t => match σ.tmp a with
   | .pt id o => match get σ.hp id with
     | some (.box cs) => match get T t with
       | some i => cellsOf cs o i.sz i.k.agg
       | none => none
     | _ => none
   | _ => none
def resL (T : List (Nat × TI)) (σ : St) : List ResultVar → Option (List A)
 | [] => some []
 | x :: l => match resV T σ x, resL T σ l with
   | some a, some r => some (a :: r)
   | _, _ => none
def resA (T : List (Nat × TI)) (σ : St) (l : List ResultVar) : Option A := match resL T σ l with
 | some [a] => some a
 | some r => some (.tp r)
 | none => none
def Fin (T : List (Nat × TI)) (m : Nat) (rs : List ResultVar) (r : A) (hout : Hp) (e : Exit) (σ : St) : Prop :=
 match e with
 | .normal => ∃ a, resA T σ rs = some a ∧ ∃ l ρ, WkF m l ρ ⟨[(0, a)], σ.hp, 0⟩ ⟨[(0, r)], hout, 0⟩
 | .ret => ∃ a, resA T σ rs = some a ∧ ∃ l ρ, WkF m l ρ ⟨[(0, a)], σ.hp, 0⟩ ⟨[(0, r)], hout, 0⟩
 | _ => False
def envOf : Nat → List A → List (Nat × A)
 | _, [] => []
 | k, a :: l => (k, a) :: envOf (k + 1) l
theorem envOf_get : ∀ (l : List A) (k t : Nat), get (envOf k l) t = if k ≤ t then l[t - k]? else none
 | [], k, t => by simp [envOf, get]
 | a :: l, k, t => by
   simp only [envOf]
   rw [get_cons, envOf_get l (k + 1) t]
   by_cases h : k = t
   · subst h; simp
   · rw [if_neg h]
     by_cases h2 : k ≤ t
     · rw [if_pos (by omega), if_pos h2, show t - k = (t - (k + 1)) + 1 from by omega, List.getElem?_cons_succ]
     · rw [if_neg (by omega), if_neg h2]
theorem keys_def {hp : Hp} {m : Nat} (h : keys hp = List.range m) (k : Nat) : Def hp k ↔ k < m := by
 have : Def hp k ↔ k ∈ keys hp := by
  clear h
  induction hp with
  | nil => simp [Def, get, keys]
  | cons p l ih =>
    obtain ⟨k', o⟩ := p
    unfold Def at *
    rw [get_cons]
    simp only [keys, List.mem_cons]
    split
    · rename_i e; subst e; simp
    · rename_i e
      rw [ih]
      refine ⟨.inr, fun h => ?_⟩
      rcases h with rfl | h
      · exact (e rfl).elim
      · exact h
 rw [this, h, List.mem_range]
def resF (tmps : Array Value) : ResultVar → Sem Value
 | .tmp t => pure (tmps.getD t undef)
 | .cell a t => do loadVar t (← asAddr (tmps.getD a undef))
theorem results_eq (fn : Func) (tmps : Array Value) : results fn tmps = (do let vs ← fn.results.mapM (resF tmps); pure (if h : vs.size = 1 then vs[0] else .tuple vs)) := by
 unfold results
 congr
theorem resV_run (hT : ∀ t i, get T t = some i → TOk P t i) {n : Nat} {w0 : World} {L0 : Old} {F0 F : Nat → Prop} {V : Nat → Value} {B : Nat → List Nat} {σ : St} {a : Act} {w : World} (hs : Sim n w0 L0 F0 F V B σ a w) {x : ResultVar} {r : A} (h : resV T σ x = some r) :
 ∃ v, (resF a.tmps x).run P w = .ok v w ∧ RepA F V w v r ∧ r.all (Def σ.hp) := by
 cases x with
 | tmp t =>
   simp only [resV, Option.some.injEq] at h
   subst h
   exact ⟨_, by simp [resF], hs.env t, hs.ids t⟩
 | cell b t =>
   simp only [resV] at h
   split at h
   · rename_i id o hp
     split at h
     · rename_i cs hg
       split at h
       · rename_i i hi
         have hob := hs.hp.ob id _ hg
         have hids := hs.hp.ids id _ hg
         cases hob with
         | box _ g vs bt hV hgh hr h1 =>
           obtain ⟨v, hv1, hv2⟩ := run_load_cells (hT t i hi) hr h1 (box_cells hgh) h
           refine ⟨v, ?_, hv2, cellsOf_all hids h⟩
           have hpe := hs.env b
           rw [hp] at hpe
           generalize hpv : a.tmps.getD b undef = pv at hpe
           cases hpe with
           | pt _ _ g' hV' =>
             rw [hV] at hV'
             cases hV'
             rw [add_at', Nat.zero_add] at hv1
             have hv1' : (loadVar t ⟨g, o, none⟩).run P w = .ok v w := by simpa [Instr.loadAt, Instr.sureAddr] using hv1
             simp [resF, hpv, asAddr, hv1']
       · cases h
     · cases h
   · cases h
theorem resL_run (hT : ∀ t i, get T t = some i → TOk P t i) {n : Nat} {w0 : World} {L0 : Old} {F0 F : Nat → Prop} {V : Nat → Value} {B : Nat → List Nat} {σ : St} {a : Act} {w : World} (hs : Sim n w0 L0 F0 F V B σ a w) : ∀ {l : List ResultVar} {r : List A}, resL T σ l = some r →
 ∃ vs, (l.mapM (resF a.tmps)).run P w = .ok vs w ∧ RepAs F V w vs r ∧ allL (Def σ.hp) r
 | [], r, h => by simp [resL] at h; subst h; exact ⟨[], by simp, .nil, by simp [allL]⟩
 | x :: l, r, h => by
   simp only [resL] at h
   split at h
   · rename_i b r' h1 h2
     cases h
     obtain ⟨v, hv1, hv2, hv3⟩ := resV_run hT hs h1
     obtain ⟨vs, hs1, hs2, hs3⟩ := resL_run hT hs h2
     refine ⟨v :: vs, ?_, .cons hv2 hs2, by simp only [allL]; exact ⟨hv3, hs3⟩⟩
     simp [List.mapM_cons, hv1, hs1]
   · cases h
theorem res_run (hT : ∀ t i, get T t = some i → TOk P t i) {n : Nat} {w0 : World} {L0 : Old} {F0 F : Nat → Prop} {V : Nat → Value} {B : Nat → List Nat} {σ : St} {a : Act} {w : World} (hs : Sim n w0 L0 F0 F V B σ a w) {fn : Func} {r : A} (h : resA T σ fn.results.toList = some r) :
 ∃ v, (results fn a.tmps).run P w = .ok v w ∧ RepA F V w v r ∧ r.all (Def σ.hp) := by
 unfold resA at h
 have key : ∀ vs : List Value, (fn.results.toList.mapM (resF a.tmps)).run P w = .ok vs w → (results fn a.tmps).run P w = .ok (if h : vs.toArray.size = 1 then vs.toArray[0] else .tuple vs.toArray) w := by
  intro vs hvs
  rw [results_eq, Array.mapM_eq_mapM_toList]
  simp [hvs]
 split at h
 · rename_i b hl
   cases h
   obtain ⟨vs, h1, h2, h3⟩ := resL_run hT hs hl
   cases h2 with
   | cons h2 t =>
     cases t
     simp only [allL] at h3
     exact ⟨_, key _ h1, by simpa using h2, h3.1⟩
 · rename_i l hne hl
   cases h
   obtain ⟨vs, h1, h2, h3⟩ := resL_run hT hs hl
   refine ⟨_, key _ h1, ?_, by simpa only [A.all] using h3⟩
   have hlen : vs.toArray.size ≠ 1 := by
    intro he
    have : l.length = 1 := by rw [← h2.length]; simpa using he
    obtain ⟨b, rfl⟩ := List.length_eq_one_iff.1 this
    exact hne b rfl
   rw [dif_neg hlen]
   exact .tp h2
 · cases h
theorem Sim.res {n : Nat} {w0 : World} {L0 : Old} {F0 F : Nat → Prop} {V : Nat → Value} {B : Nat → List Nat} {σ : St} {a : Act} {w : World} (hs : Sim n w0 L0 F0 F V B σ a w) {v : Value} {r : A} (hv : RepA F V w v r) (hi : r.all (Def σ.hp)) : Sim 1 w0 L0 F0 F V B ⟨[(0, r)], σ.hp, 0⟩ { tmps := #[v], defers := [] } w := by
 refine ⟨hs.fr, rfl, rfl, hs.V1, hs.F_lt, hs.F_new, hs.F0_F, hs.hp, hs.own, fun t => ?_, fun t => ?_, hs.keep⟩
 · show RepA F V w _ (orX (get [(0, r)] t))
   rw [get_cons]
   by_cases h : 0 = t
   · subst h; simpa [orX] using hv
   · rw [if_neg h]; exact .un _
 · show (orX (get [(0, r)] t)).all _
   rw [get_cons]
   by_cases h : 0 = t
   · subst h; simpa [orX] using hi
   · rw [if_neg h]; simp [get, orX, A.all]
theorem ret_of (hT : ∀ t i, get T t = some i → TOk P t i) {f : Nat} {fn : Func} {c : Code} (hf : P.funcs[f]? = some fn) (hb : fn.body = some c) (hn : (fn.name == "runtime.NumGoroutine") = false) {as : List A} {hin : Hp} {r : A} {hout : Hp} {m nx : Nat} (hk : keys hin = List.range m) (hlen : as.length ≤ fn.ntmps)
 (h : Tri P fn.ntmps m c ⟨envOf 0 as, hin, nx⟩ (Fin T m fn.results.toList r hout)) : Ret P f as hin r hout := by
 refine ⟨⟨fn, hf, by rw [hb]; rfl, hn⟩, fun F V B w args hF hV1 hH hr hi => calls_of_wp hf hb ?_⟩
 have hal : args.length = as.length := hr.length
 have hs : Sim fn.ntmps w ⟨fun b => ∃ id, owns hin V B id b, m, V⟩ F F V B ⟨envOf 0 as, hin, nx⟩ { tmps := args.toArray ++ Array.replicate (fn.ntmps - args.toArray.size) undef, defers := [] } w := by
  have htm : ∀ t, (⟨envOf 0 as, hin, nx⟩ : St).tmp t = orX (as[t]?) := fun t => by
   show orX (get (envOf 0 as) t) = _
   rw [envOf_get]; simp
  refine ⟨Fr.refl _ w, rfl, by simp; omega, hV1, hF, fun b hb => .inl hb, fun b hb => hb, hH, fun id b hb => .inr ⟨id, hb⟩, fun t => ?_, fun t => ?_, fun id hid => ⟨rfl, (keys_def hk id).2 hid⟩⟩
  · rw [htm]
    cases ha : as[t]? with
    | none => exact .un _
    | some a =>
      obtain ⟨u, hu, hra⟩ := hr.get ha
      have hlt : t < args.length := by
       rcases Nat.lt_or_ge t args.length with h | h
       · exact h
       · rw [List.getElem?_eq_none h] at hu; cases hu
      have : (args.toArray ++ Array.replicate (fn.ntmps - args.toArray.size) undef).getD t undef = u := by
       rw [Array.getD_eq_getD_getElem?, Array.getElem?_append_left (by simpa using hlt)]
       simp [hu]
      rw [this]
      exact hra
  · rw [htm]
    cases ha : as[t]? with
    | none => simp [orX, A.all]
    | some a => exact allL_get hi ha
 refine h rfl hs _ fun e σ' F' V' B' a' w' hq hs' => ?_
 have fin : (∃ a, resA T σ' fn.results.toList = some a ∧ ∃ l ρ, WkF m l ρ ⟨[(0, a)], σ'.hp, 0⟩ ⟨[(0, r)], hout, 0⟩) → ∃ v, (results fn a'.tmps).run P w' = .ok v w' ∧ ∃ (v2 : Value) (F' : Nat → Prop) (V' : Nat → Value) (B' : Nat → List Nat), Ending.returned v = .returned v2 ∧ RepA F' V' w' v2 r ∧ r.all (Def hout) ∧ HeapOk F' V' B' w' hout ∧ (∀ id, (V' id).oneCell' = true) ∧
  (∀ id, Def hin id → V' id = V id ∧ Def hout id) ∧ (∀ b, F b → F' b) ∧ (∀ b, F' b → F b ∨ w.heap.size ≤ b ∨ ∃ id, owns hin V B id b) ∧ (∀ b, F' b → b < w'.heap.size) ∧
  (∀ id b, owns hout V' B' id b → w.heap.size ≤ b ∨ ∃ id', owns hin V B id' b) ∧ Fr (fun b => ∃ id, owns hin V B id b) w w' := by
  rintro ⟨a0, hres, l, ρ, hwk⟩
  obtain ⟨v, hrun, hrv, hri⟩ := res_run hT hs' hres
  obtain ⟨F2, V2, B2, hs2⟩ := hwk.ok (n := 1) rfl (hs'.res hrv hri)
  have e0 := hs2.env 0
  have i0 := hs2.ids 0
  have e1 : (⟨[(0, r)], hout, 0⟩ : St).tmp 0 = r := rfl
  rw [e1] at e0 i0
  exact ⟨v, hrun, v, F2, V2, B2, rfl, by simpa using e0, i0, hs2.hp, hs2.V1, fun id hid => hs2.keep id ((keys_def hk id).1 hid), hs2.F0_F, hs2.F_new, hs2.F_lt, hs2.own, hs2.fr⟩
 cases e <;> simp only [Fin] at hq
 case normal => exact ⟨hs'.df, fin hq⟩
 case ret => exact ⟨hs'.df, fin hq⟩
theorem ret_vc (hT : ∀ t i, get T t = some i → TOk P t i) (hm' : P.follows .mixedOrders = true) {f : Nat} {fn : Func} {c : Code} (hf : P.funcs[f]? = some fn) (hb : fn.body = some c) (hn : (fn.name == "runtime.NumGoroutine") = false) {as : List A} {hin : Hp} {r : A} {hout : Hp} {m nx : Nat} (hk : keys hin = List.range m) (hlen : as.length ≤ fn.ntmps)
 (h : vc P T fn.ntmps m c ⟨envOf 0 as, hin, nx⟩ (Fin T m fn.results.toList r hout)) : Ret P f as hin r hout := ret_of hT hf hb hn hk hlen (vc_sound hT hm' _ _ _ h)
/-! Renamings and freezings, found by computing -/
def memP : Nat → List (Nat × Nat) → Bool
 | _, [] => false
 | k, (a, _) :: l => match Nat.beq a k with
   | true => true
   | false => memP k l
def zipA : List A → List A → List (A × A)
 | a :: l, b :: l' => (a, b) :: zipA l l'
 | _, _ => []
def appP : List (A × A) → List (A × A) → List (A × A)
 | [], l => l
 | p :: r, l => p :: appP r l
def subP (h h' : Nat → Option Ob) (k k' : Nat) : List (A × A) :=
 match h k, h' k' with
 | some (.box cs), some (.box cs') => zipA cs cs'
 | some (.fo _ _ cs _), some (.fo _ _ cs' _) => zipA cs cs'
 | _, _ => []
def auK (h h' : Nat → Option Ob) (K : List (Nat × Nat) → List Nat → Prop) : Nat → List (A × A) → List (Nat × Nat) → List Nat → Prop
 | 0, _, _, _ => False
 | _ + 1, [], ρ, fz => K ρ fz
 | f + 1, (a, a') :: l, ρ, fz => match a' with
   | .rw k' => match memP k' ρ with
     | true => auK h h' K f l ρ fz
     | false => match a with
       | .rw k => auK h h' K f (appP (subP h h' k k') l) ((k', k) :: ρ) fz
       | _ => auK h h' K f l ((k', 3000 + k') :: ρ) fz
   | .pt k' _ => match memP k' ρ, a with
     | false, .pt k _ => auK h h' K f (appP (subP h h' k k') l) ((k', k) :: ρ) fz
     | _, _ => auK h h' K f l ρ fz
   | .re _ k' _ _ => match memP k' ρ, a with
     | false, .re _ k _ _ => auK h h' K f (appP (subP h h' k k') l) ((k', k) :: ρ) fz
     | _, _ => auK h h' K f l ρ fz
   | .c _ => match a with
     | .rw k => auK h h' K f l ρ (k :: fz)
     | _ => auK h h' K f l ρ fz
   | .ag l' => match a with
     | .ag la => auK h h' K f (appP (zipA la l') l) ρ fz
     | _ => auK h h' K f l ρ fz
   | .tp l' => match a with
     | .tp la => auK h h' K f (appP (zipA la l') l) ρ fz
     | _ => auK h h' K f l ρ fz
   | .fn _ l' => match a with
     | .fn _ la => auK h h' K f (appP (zipA la l') l) ρ fz
     | _ => auK h h' K f l ρ fz
   | _ => auK h h' K f l ρ fz
theorem auK_ok {h h' : Nat → Option Ob} {K : List (Nat × Nat) → List Nat → Prop} : ∀ {f : Nat} {l : List (A × A)} {ρ : List (Nat × Nat)} {fz : List Nat}, auK h h' K f l ρ fz → ∃ ρ fz, K ρ fz
 | 0, _, _, _, h => h.elim
 | _ + 1, [], ρ, fz, h => ⟨ρ, fz, h⟩
 | f + 1, (a, a') :: l, ρ, fz, h => by
   unfold auK at h
   split at h
   · split at h
     · exact auK_ok h
     · split at h <;> exact auK_ok h
   · split at h <;> exact auK_ok h
   · split at h <;> exact auK_ok h
   · split at h <;> exact auK_ok h
   · split at h <;> exact auK_ok h
   · split at h <;> exact auK_ok h
   · split at h <;> exact auK_ok h
   · exact auK_ok h
def keepP : Nat → List (A × A) → List (A × A)
 | 0, l => l
 | m + 1, l => keepP m ((.rw m, .rw m) :: l)
def envP (σ : St) : List (Nat × A) → List (A × A)
 | [] => []
 | (t, a) :: l => (σ.tmp t, a) :: envP σ l
def workP (m : Nat) (σ σ' : St) : List (A × A) := keepP m (envP σ σ'.env)
theorem WkF.au {n m : Nat} {σ σ' : St} (h : auK (get σ.hp) (get σ'.hp) (fun ρ fz => WkF m fz ρ σ σ') 200 (workP m σ σ') [] []) : Weak n m σ σ' := by
 obtain ⟨_, _, h⟩ := auK_ok h
 exact WkF.ok h
theorem fin_au {m : Nat} {σ : St} {rs : List ResultVar} {r : A} {hout : Hp} {a : A} (h1 : resA T σ rs = some a) (h : auK (get σ.hp) (get hout) (fun ρ fz => WkF m fz ρ ⟨[(0, a)], σ.hp, 0⟩ ⟨[(0, r)], hout, 0⟩) 200 (workP m ⟨[(0, a)], σ.hp, 0⟩ ⟨[(0, r)], hout, 0⟩) [] []) : ∃ a, resA T σ rs = some a ∧ ∃ l ρ, WkF m l ρ ⟨[(0, a)], σ.hp, 0⟩ ⟨[(0, r)], hout, 0⟩ := by
 obtain ⟨_, _, h⟩ := auK_ok h
 exact ⟨a, h1, _, _, h⟩
end Go.Proofs.YthbpdhppelaihaaGreat
/- THE TYPES' TABLE, checked by a Bool. Conditions: none. -/
namespace Go.Proofs.YthbpdhppelaihaaGreat
open Go.RowKit
variable {P : Program}
def zChk : List Value → List A → Bool
 | [], [] => true
 | v :: us, a :: l => (match v, a with
   | .int k n, .c (.int k' n') => eqK k k' && decide (n = n')
   | .bool b, .kb b' => (b == b')
   | .string s, .c (.str []) => match s.data.toList with | [] => true | _ => false
   | .slice none 0 0, .nl => true
   | v, .un => v.oneCell'
   | _, _ => false) && zChk us l
 | _, _ => false
def nnEq : List (Nat × Nat) → List (Nat × Nat) → Bool
 | [], [] => true
 | (a, b) :: l, (c, d) :: l' => Nat.beq a c && Nat.beq b d && nnEq l l'
 | _, _ => false
def TK.chk (u : Option TypeDesc) : TK → Bool
 | .int k => match u with | some (.int k') => eqK k k' | _ => false
 | .bool => match u with | some .bool => true | _ => false
 | .str => match u with | some .string => true | _ => false
 | .ptr => match u with | some (.pointer _) => true | _ => false
 | .fn => match u with | some (.func _ _ _) => true | _ => false
 | .sl _ et => match u with | some (.slice e) => Nat.beq e et | _ => false
 | .st fs => match u with | some (.struct fields) => nnEq (fields.toList.map fun f => (f.offset, f.type)) fs | _ => false
def chkT (P : Program) (t : Nat) (i : TI) : Bool :=
 i.k.chk (P.underlying t) && (match P.info? t with
  | some y => Nat.beq y.size i.sz && Nat.beq y.bytes i.by_ && (match y.zero with
    | some z => zChk z.cells.toList i.z && Nat.beq z.cells.size i.sz
    | none => false)
  | none => false)
def chkAll (P : Program) : List (Nat × TI) → Bool
 | [] => true
 | (t, i) :: l => chkT P t i && chkAll P l
theorem nnEq_eq : ∀ {l l' : List (Nat × Nat)}, nnEq l l' = true → l = l'
 | [], [], _ => rfl
 | [], _ :: _, h => by simp [nnEq] at h
 | _ :: _, [], h => by simp [nnEq] at h
 | (a, b) :: l, (c, d) :: l', h => by
   simp only [nnEq, Bool.and_eq_true] at h
   obtain ⟨⟨h1, h2⟩, h3⟩ := h
   rw [Nat.eq_of_beq_eq_true h1, Nat.eq_of_beq_eq_true h2, nnEq_eq h3]
theorem zChk_ok : ∀ {us : List Value} {l : List A}, zChk us l = true → ZOk us l
 | [], [], _ => .nil
 | [], _ :: _, h => by simp [zChk] at h
 | _ :: _, [], h => by simp [zChk] at h
 | v :: us, a :: l, h => by
   simp only [zChk, Bool.and_eq_true] at h
   obtain ⟨h1, h2⟩ := h
   have ih := zChk_ok h2
   split at h1
   · simp only [Bool.and_eq_true, decide_eq_true_eq] at h1
     obtain ⟨hk, rfl⟩ := h1
     obtain rfl := eqK_eq hk
     exact .int _ _ ih
   · have := eq_of_beq h1; subst this; exact .bool _ ih
   · rename_i s
     split at h1
     · rename_i he
       obtain ⟨⟨d⟩⟩ := s
       simp only at he
       subst he
       exact .str ih
     · cases h1
   · exact .nl ih
   · exact .oth _ h1 ih
   · cases h1
theorem TK.chk_ok {t : Nat} {k : TK} (h : k.chk (P.underlying t) = true) : k.desc P t := by
 cases k <;> simp only [TK.chk] at h <;> split at h <;> try (cases h; done)
 · rename_i hu; obtain rfl := eqK_eq h; exact hu
 · rename_i hu; exact hu
 · rename_i hu; exact hu
 · rename_i hu; exact ⟨_, hu⟩
 · rename_i hu; exact ⟨_, _, _, hu⟩
 · rename_i hu; simp only [TK.desc]; rw [hu, Nat.eq_of_beq_eq_true h]
 · rename_i hu; exact ⟨_, hu, nnEq_eq h⟩
theorem chkT_ok {t : Nat} {i : TI} (h : chkT P t i = true) : TOk P t i := by
 simp only [chkT, Bool.and_eq_true] at h
 obtain ⟨h1, h2⟩ := h
 refine ⟨TK.chk_ok h1, ?_⟩
 split at h2
 · rename_i y hy
   simp only [Bool.and_eq_true] at h2
   obtain ⟨⟨h3, h4⟩, h5⟩ := h2
   split at h5
   · rename_i z hz
     simp only [Bool.and_eq_true] at h5
     exact ⟨y, z, hy, Nat.eq_of_beq_eq_true h3, Nat.eq_of_beq_eq_true h4, hz, zChk_ok h5.1, Nat.eq_of_beq_eq_true h5.2⟩
   · cases h5
 · cases h2
theorem chkAll_ok : ∀ {T : List (Nat × TI)}, chkAll P T = true → ∀ t i, get T t = some i → TOk P t i
 | [], _, t, i, h => by simp [get] at h
 | (t', i') :: l, hc, t, i, h => by
   simp only [chkAll, Bool.and_eq_true] at hc
   rw [get_cons] at h
   split at h
   · rename_i e; subst e; cases h; exact chkT_ok hc.1
   · exact chkAll_ok hc.2 t i h
theorem nx {σ : St} {K : St → Prop} (h : let s := σ; K s) : Nx σ K := ⟨h⟩
theorem rg {σ : St} {K : St → Prop} {f : St → (St → Prop) → Prop} (h : let s := σ; let k := K; f s k) : Rg σ K f := ⟨h⟩
theorem need {p K : Prop} (h : p) (k : K) : Need p K := ⟨h, k⟩
theorem giv {p K : Prop} (k : p → K) : Giv p K := ⟨k⟩
theorem may {t : Bool} {x y : Prop} (h : t = true → x) (k : y) : Maybe t x y := ⟨h, k⟩
theorem cutl {p q : Prop} (h : p) : AltC p q := .l h
theorem cutr {p q : Prop} (h : q) : AltC p q := .r h
theorem altl {p q : Prop} (h : p) : Alt p q := .l h
theorem altr {p q : Prop} (h : q) : Alt p q := .r h
theorem cas {t : Bool} {x y : Prop} (h : t = true → x) (k : t = false → y) : Case t x y := ⟨h, k⟩
end Go.Proofs.YthbpdhppelaihaaGreat