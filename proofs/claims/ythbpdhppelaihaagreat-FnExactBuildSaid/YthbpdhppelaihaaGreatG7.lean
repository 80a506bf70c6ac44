/- REGIONS: the operations one behind the other; where the tape draws, in every order that the edges leave open. Conditions: none. -/
import Derived.Test.YthbpdhppelaihaaGreatG6
import Derived.Orders
set_option linter.unusedVariables false
set_option linter.unusedSimpArgs false
namespace Go.Proofs.YthbpdhppelaihaaGreat
open Go.RowKit
variable {P : Program} {T : List (Nat × TI)}

/-- The temporary that op number g puts. -/
def dstOf : List Oper → Nat → Option Nat
  | [], _ => none
  | o :: _, 0 => o.dst
  | _ :: l, n + 1 => dstOf l n
/-- Is the operation wanted? -/
def guardSt (ops : List Oper) (σ : St) (o : Oper) : Option Bool :=
  match o.guard with
  | none => some true
  | some (g, want) => match dstOf ops g with
    | some d => match σ.tmp d with
      | .kb true => some (match want with | true => true | false => false)
      | .kb false => some (match want with | true => false | false => true)
      | .tp [] => some false
      | _ => none
    | none => none
def guardTmps (ops : List Oper) : List Oper → List Nat
  | [] => []
  | o :: l => match o.guard with
    | none => guardTmps ops l
    | some (g, _) => match dstOf ops g with
      | some d => d :: guardTmps ops l
      | none => guardTmps ops l
def isG (gs : List Nat) : Option Nat → Bool
  | some d => memN d gs
  | none => false
def splitB (b : Bool) (r : A) (K : A → Prop) : Prop :=
  match b with
  | false => K r
  | true => match r with
    | .c (.bool t) => Case t (K (.kb true)) (K (.kb false))
    | r => K r
/-- What an operation looks at and what it turns. -/
structure Ct where
  wt : List Nat
  rt : List Nat
  wi : List Nat
  ri : List Nat
def tmpsOf : List Operand → List Nat
  | [] => []
  | .tmp t :: l => t :: tmpsOf l
  | _ :: l => tmpsOf l
def optL : Option Nat → List Nat
  | some d => [d]
  | none => []
def grdL (ops : List Oper) (o : Oper) : List Nat :=
  match o.guard with
  | none => []
  | some (g, _) => optL (dstOf ops g)
def ctOf (ops : List Oper) (o : Oper) (dh : Hp) (rd : List Nat) : Ct := ⟨optL o.dst, grdL ops o ++ tmpsOf o.op.operands.toList, keys dh, rd⟩
/-- Names at which the computing stops: the state (the continuation, too) gets a name of its own. -/
structure Nx (σ : St) (K : St → Prop) : Prop where
  h : K σ
structure Rg (σ : St) (K : St → Prop) (f : St → (St → Prop) → Prop) : Prop where
  h : f σ K
def vcOps (P : Program) (T : List (Nat × TI)) (ops : List Oper) (gs : List Nat) : List Oper → St → List Ct → (St → List Ct → Prop) → Prop
  | [], σ, es, K => K σ es
  | o :: rest, σ, es, K => match guardSt ops σ o with
    | some true => opRes P T (ev σ) (get σ.hp) σ.nx o.op fun r dh rd => splitB (isG gs o.dst) r fun r' => fcA r' fun r' => fcH dh fun dh => fcN (σ.nx + dh.length) fun m => Nx { σ.upd o.dst r' dh with nx := m } fun s => vcOps P T ops gs rest s (es ++ [ctOf ops o dh rd]) K
    | some false => Nx (σ.upd o.dst (.tp []) []) fun s => vcOps P T ops gs rest s (es ++ [ctOf ops o [] []]) K
    | none => False
def inter : List Nat → List Nat → Bool
  | [], _ => false
  | n :: l, l' => match memN n l' with
    | true => true
    | false => inter l l'
theorem inter_spec {l l' : List Nat} (h : inter l l' = false) {n : Nat} (hn : n ∈ l) : n ∉ l' := by
  induction l with
  | nil => simp at hn
  | cons k l ih =>
    simp only [inter] at h
    cases hm : memN k l' with
    | true => rw [hm] at h; cases h
    | false =>
      rw [hm] at h
      rcases List.mem_cons.1 hn with rfl | h1
      · intro h2; rw [memN_iff.2 h2] at hm; cases hm
      · exact ih h h1
/-- Does it matter which of the two comes first? -/
def Ct.conf (a b : Ct) : Bool :=
  match inter a.wt b.rt, inter a.wt b.wt, inter a.rt b.wt, inter a.wi b.ri, inter a.wi b.wi, inter a.ri b.wi with
  | false, false, false, false, false, false => false
  | _, _, _, _, _, _ => true
/-- What operation number j waits for, at first hand. -/
def direct (o : Oper) : List Nat := (o.after.toList.filter fun e => Region.binds .any e).map (·.on)
def union : List Nat → List Nat → List Nat
  | [], l' => l'
  | n :: l, l' => match memN n l' with
    | true => union l l'
    | false => n :: union l l'
def unionAll (cl : List (List Nat)) : List Nat → List Nat
  | [] => []
  | i :: l => union (cl.getD i []) (unionAll cl l)
/-- What each waits for, all in all. -/
def closure : List Oper → List (List Nat) → List (List Nat)
  | [], cl => cl
  | o :: l, cl => closure l (cl ++ [union (direct o) (unionAll cl (direct o))])
/-- The earlier ones of those that must not be turned round with c have come before it for sure. -/
def ordTo (cl : List Nat) (c : Ct) : List Ct → Nat → Bool
  | [], _ => true
  | a :: l, i => match a.conf c with
    | false => ordTo cl c l (i + 1)
    | true => match memN i cl with
      | true => ordTo cl c l (i + 1)
      | false => false
def ordOk : List (List Nat) → List Ct → List Ct → Bool
  | _, _, [] => true
  | [], _, _ :: _ => false
  | cl :: cls, pre, c :: l => match ordTo cl c pre 0 with
    | true => ordOk cls (pre ++ [c]) l
    | false => false
def backOk : List Oper → Nat → Bool
  | [], _ => true
  | o :: l, j => (direct o).all (fun i => Nat.blt i j) && backOk l (j + 1)
def dstOk (n : Nat) : List Oper → Bool
  | [] => true
  | o :: l => (match o.dst with | some d => Nat.blt d n | none => true) && dstOk n l
/-- A region. -/
def vcReg (P : Program) (T : List (Nat × TI)) (n : Nat) (ops : List Oper) (draw : Bool) (σ : St) (K : St → Prop) : Prop :=
  match dstOk n ops, draw with
  | true, false => vcOps P T ops (guardTmps ops ops) ops σ [] fun σ' _ => K σ'
  | true, true => match backOk ops 0 with
    | true => vcOps P T ops (guardTmps ops ops) ops σ [] fun σ' es => Need (ordOk (closure ops []) [] es = true) (K σ')
    | false => False
  | false, _ => False

theorem tmp_upd (σ : St) (d : Option Nat) (r : A) (dh : Hp) (t : Nat) : (σ.upd d r dh).tmp t = if d = some t then r else σ.tmp t := by
  cases d with
  | none => simp [St.upd, St.tmp]
  | some d =>
    have := σ.tmp_put d r t
    simp only [St.put, St.tmp] at this
    simp only [St.upd, St.tmp, this, Option.some.injEq]
theorem Val.split {n : Nat} {o : Oper} {σ : St} {t : Bool} {dh : Hp} (h : Val P n o σ (σ.upd o.dst (.c (.bool t)) dh)) : Val P n o σ (σ.upd o.dst (.kb t) dh) := by
  intro w0 L0 F0 F V B a w hs K Q hK
  refine h hs K Q fun F' V' B' a' w' hs' => hK F' V' B' a' w' ?_
  refine ⟨hs'.fr, hs'.df, hs'.tsz, hs'.V1, hs'.F_lt, hs'.F_new, hs'.F0_F, hs'.hp, hs'.own, fun x => ?_, fun x => ?_, hs'.keep⟩
  · have := hs'.env x
    rw [tmp_upd] at this ⊢
    split
    · rename_i hd
      rw [if_pos hd] at this
      generalize a'.tmps.getD x undef = v at this
      cases this with | c h => cases h; exact .kb t
    · rename_i hd; rw [if_neg hd] at this; exact this
  · have := hs'.ids x
    rw [tmp_upd] at this ⊢
    split
    · simp [A.all]
    · rename_i hd; rw [if_neg hd] at this; exact this
theorem Snd.split {n : Nat} {o : Oper} {σ : St} {r : A} {dh : Hp} {rd : List Nat} (h : Snd P n o σ r dh rd) {b : Bool} {K : A → Prop} (hk : splitB b r K) : ∃ r', K r' ∧ Snd P n o σ r' dh rd := by
  unfold splitB at hk
  split at hk
  · exact ⟨_, hk, h⟩
  · split at hk
    · rename_i t
      cases t
      · exact ⟨_, hk.r rfl, fun σ' hs => (h σ' hs).split⟩
      · exact ⟨_, hk.l rfl, fun σ' hs => (h σ' hs).split⟩
    · exact ⟨_, hk, h⟩
theorem dstOf_get : ∀ (ops : List Oper) (g : Nat), dstOf ops g = (ops[g]?).bind (·.dst)
  | [], g => by simp [dstOf]
  | o :: l, 0 => by simp [dstOf]
  | o :: l, g + 1 => by simp [dstOf, dstOf_get l g]
theorem wanted_of {n : Nat} {w0 : World} {L0 : Old} {F0 F : Nat → Prop} {V : Nat → Value} {B : Nat → List Nat} {σ : St} {a : Act} {w : World} (hs : Sim n w0 L0 F0 F V B σ a w) {ops : List Oper} {o : Oper} {b : Bool} (hg : guardSt ops σ o = some b) : Region.wanted o (yielded ops.toArray a.tmps) = b := by
  unfold guardSt at hg
  unfold Region.wanted
  split at hg
  · rename_i h; rw [h]; simpa using hg
  · rename_i g want h
    rw [h]
    simp only
    split at hg
    · rename_i d hd
      rw [dstOf_get] at hd
      have he := hs.env d
      have key : yielded ops.toArray a.tmps g = match a.tmps[d]? with | some (.bool b) => some b | _ => none := by
        unfold yielded
        rw [List.getElem?_toArray, hd]
        rfl
      rw [key]
      rw [Array.getD_eq_getD_getElem?] at he
      split at hg
      · rename_i hr
        rw [hr] at he
        cases htm : a.tmps[d]? with
        | none => rw [htm] at he; have := rep_bool he rfl; cases this
        | some v =>
          rw [htm] at he
          have := rep_bool he rfl
          simp only [Option.getD_some] at this
          subst this
          cases hg
          cases want <;> rfl
      · rename_i hr
        rw [hr] at he
        cases htm : a.tmps[d]? with
        | none => rw [htm] at he; have := rep_bool he rfl; cases this
        | some v =>
          rw [htm] at he
          have := rep_bool he rfl
          simp only [Option.getD_some] at this
          subst this
          cases hg
          cases want <;> rfl
      · rename_i hr
        rw [hr] at he
        cases hg
        cases htm : a.tmps[d]? with
        | none => rfl
        | some v =>
          rw [htm] at he
          simp only [Option.getD_some] at he
          cases he
          rfl
      · cases hg
    · cases hg
theorem skip_sim {n : Nat} {w0 : World} {L0 : Old} {F0 F : Nat → Prop} {V : Nat → Value} {B : Nat → List Nat} {σ : St} {a : Act} {w : World} (hs : Sim n w0 L0 F0 F V B σ a w) {d : Option Nat} (hd : ∀ x, d = some x → x < n) : Sim n w0 L0 F0 F V B (σ.upd d (.tp []) []) (a.put d undef) w :=
  hs.putd hd (v := undef) (r := .tp []) (.tp .nil) (by simp [A.all, allL]) _
theorem dstOk_mem {n : Nat} : ∀ {ops : List Oper}, dstOk n ops = true → ∀ o ∈ ops, ∀ d, o.dst = some d → d < n
  | [], _, o, ho => by simp at ho
  | o' :: l, h, o, ho => by
    simp only [dstOk, Bool.and_eq_true] at h
    rcases List.mem_cons.1 ho with rfl | ho
    · intro d hd
      rw [hd] at h
      have := h.1
      simp at this
      exact this
    · exact dstOk_mem h.2 o ho
variable (hT : ∀ t i, get T t = some i → TOk P t i)
include hT
theorem ops_sound {n : Nat} {ops : List Oper} (hd : dstOk n ops = true) {gs : List Nat} {K : St → List Ct → Prop} {Q : Exit → Act → World → Prop} {w0 : World} {L0 : Old} {F0 : Nat → Prop} (hK : ∀ σ es F V B a w, K σ es → Sim n w0 L0 F0 F V B σ a w → Q .normal a w) :
    ∀ (rest : List Oper) (i : Nat) (σ : St) (es : List Ct) (F : Nat → Prop) (V : Nat → Value) (B : Nat → List Nat) (a : Act) (w : World), (∀ j, rest[j]? = ops[i + j]?) → Sim n w0 L0 F0 F V B σ a w → vcOps P T ops gs rest σ es K → wpOps P ops.toArray Q (List.range' i rest.length) a w
  | [], i, σ, es, F, V, B, a, w, hj, hs, hv => by
    simp only [List.length_nil, List.range'_zero, wpOps]
    exact hK σ es F V B a w hv hs
  | o :: rest, i, σ, es, F, V, B, a, w, hj, hs, hv => by
    have h0 : ops[i]? = some o := by have := hj 0; simpa using this.symm
    have hrest : ∀ j, rest[j]? = ops[i + 1 + j]? := fun j => by have := hj (j + 1); simpa [Nat.add_assoc, Nat.add_comm 1 j] using this
    have hdo := dstOk_mem hd o (List.mem_of_getElem? h0)
    simp only [List.length_cons, List.range'_succ, wpOps]
    rw [List.getElem?_toArray, h0]
    dsimp only
    simp only [vcOps] at hv
    split at hv
    · rename_i hg
      rw [wanted_of hs hg]
      simp only [if_true]
      obtain ⟨r, dh, rd, hk, hsd⟩ := op_sound hT hdo ⟨w0, L0, F0, F, V, B, a, w, hs⟩ hv
      obtain ⟨r', hk', hsd'⟩ := hsd.split hk
      rw [fcA_eq, fcH_eq, fcN_eq] at hk'
      exact .inl (hsd' σ ⟨fun _ _ => rfl, fun _ _ => rfl⟩ hs _ Q fun F' V' B' a' w' hs' => ops_sound hd hK rest (i + 1) _ _ F' V' B' a' w' hrest hs' hk'.h)
    · rename_i hg
      rw [wanted_of hs hg]
      simp only [Bool.false_eq_true, if_false]
      exact ops_sound hd hK rest (i + 1) _ _ F V B _ w hrest (skip_sim hs hdo) hv.h
    · exact hv.elim
end Go.Proofs.YthbpdhppelaihaaGreat
