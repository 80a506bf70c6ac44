/- FUNCTIONS: what a function comes to, out of the condition of its body; what a contract gives. Conditions: none. -/
import Derived.Test.YthbpdhppelaihaaGreatH1
set_option linter.unusedVariables false
set_option linter.unusedSimpArgs false
namespace Go.Proofs.YthbpdhppelaihaaGreat
open Go.RowKit
variable {P : Program} {T : List (Nat × TI)}

def resV (T : List (Nat × TI)) (σ : St) : ResultVar → Option A
  | .tmp t => some (σ.tmp t)
  | .cell a t => match σ.tmp a with
    | .pt id o => match get σ.hp id with
      | some (.box cs) => match get T t with
        | some i => cellsOf cs o i.sz i.k.agg
        | none => none
      | _ => none
    | _ => none
def resL (T : List (Nat × TI)) (σ : St) : List ResultVar → Option (List A)
  | [] => some []
  | x :: l => match resV T σ x, resL T σ l with
    | some a, some r => some (a :: r)
    | _, _ => none
def resA (T : List (Nat × TI)) (σ : St) (l : List ResultVar) : Option A := match resL T σ l with
  | some [a] => some a
  | some r => some (.tp r)
  | none => none
/-- How a body ends: the results are r, the objects hout. -/
def Fin (T : List (Nat × TI)) (m : Nat) (rs : List ResultVar) (r : A) (hout : Hp) (e : Exit) (σ : St) : Prop :=
  match e with
  | .normal => ∃ a, resA T σ rs = some a ∧ ∃ l ρ, WkF m l ρ ⟨[(0, a)], σ.hp, 0⟩ ⟨[(0, r)], hout, 0⟩
  | .ret => ∃ a, resA T σ rs = some a ∧ ∃ l ρ, WkF m l ρ ⟨[(0, a)], σ.hp, 0⟩ ⟨[(0, r)], hout, 0⟩
  | _ => False
def envOf : Nat → List A → List (Nat × A)
  | _, [] => []
  | k, a :: l => (k, a) :: envOf (k + 1) l
theorem envOf_get : ∀ (l : List A) (k t : Nat), get (envOf k l) t = if k ≤ t then l[t - k]? else none
  | [], k, t => by simp [envOf, get]
  | a :: l, k, t => by
    simp only [envOf]
    rw [get_cons, envOf_get l (k + 1) t]
    by_cases h : k = t
    · subst h; simp
    · rw [if_neg h]
      by_cases h2 : k ≤ t
      · rw [if_pos (by omega), if_pos h2, show t - k = (t - (k + 1)) + 1 from by omega, List.getElem?_cons_succ]
      · rw [if_neg (by omega), if_neg h2]
theorem keys_def {hp : Hp} {m : Nat} (h : keys hp = List.range m) (k : Nat) : Def hp k ↔ k < m := by
  have : Def hp k ↔ k ∈ keys hp := by
    clear h
    induction hp with
    | nil => simp [Def, get, keys]
    | cons p l ih =>
      obtain ⟨k', o⟩ := p
      unfold Def at *
      rw [get_cons]
      simp only [keys, List.mem_cons]
      split
      · rename_i e; subst e; simp
      · rename_i e
        rw [ih]
        refine ⟨.inr, fun h => ?_⟩
        rcases h with rfl | h
        · exact (e rfl).elim
        · exact h
  rw [this, h, List.mem_range]
def resF (tmps : Array Value) : ResultVar → Sem Value
  | .tmp t => pure (tmps.getD t undef)
  | .cell a t => do loadVar t (← asAddr (tmps.getD a undef))
theorem results_eq (fn : Func) (tmps : Array Value) : results fn tmps = (do let vs ← fn.results.mapM (resF tmps); pure (if h : vs.size = 1 then vs[0] else .tuple vs)) := by
  unfold results
  congr
theorem resV_run (hT : ∀ t i, get T t = some i → TOk P t i) {n : Nat} {w0 : World} {L0 : Old} {F0 F : Nat → Prop} {V : Nat → Value} {B : Nat → List Nat} {σ : St} {a : Act} {w : World} (hs : Sim n w0 L0 F0 F V B σ a w) {x : ResultVar} {r : A} (h : resV T σ x = some r) :
    ∃ v, (resF a.tmps x).run P w = .ok v w ∧ RepA F V w v r ∧ r.all (Def σ.hp) := by
  cases x with
  | tmp t =>
    simp only [resV, Option.some.injEq] at h
    subst h
    exact ⟨_, by simp [resF], hs.env t, hs.ids t⟩
  | cell b t =>
    simp only [resV] at h
    split at h
    · rename_i id o hp
      split at h
      · rename_i cs hg
        split at h
        · rename_i i hi
          have hob := hs.hp.ob id _ hg
          have hids := hs.hp.ids id _ hg
          cases hob with
          | box _ g vs bt hV hgh hr h1 =>
            obtain ⟨v, hv1, hv2⟩ := run_load_cells (hT t i hi) hr h1 (box_cells hgh) h
            refine ⟨v, ?_, hv2, cellsOf_all hids h⟩
            have hpe := hs.env b
            rw [hp] at hpe
            generalize hpv : a.tmps.getD b undef = pv at hpe
            cases hpe with
            | pt _ _ g' hV' =>
              rw [hV] at hV'
              cases hV'
              rw [add_at', Nat.zero_add] at hv1
              have hv1' : (loadVar t ⟨g, o, none⟩).run P w = .ok v w := by simpa [Instr.loadAt, Instr.sureAddr] using hv1
              simp [resF, hpv, asAddr, hv1']
        · cases h
      · cases h
    · cases h
theorem resL_run (hT : ∀ t i, get T t = some i → TOk P t i) {n : Nat} {w0 : World} {L0 : Old} {F0 F : Nat → Prop} {V : Nat → Value} {B : Nat → List Nat} {σ : St} {a : Act} {w : World} (hs : Sim n w0 L0 F0 F V B σ a w) : ∀ {l : List ResultVar} {r : List A}, resL T σ l = some r →
    ∃ vs, (l.mapM (resF a.tmps)).run P w = .ok vs w ∧ RepAs F V w vs r ∧ allL (Def σ.hp) r
  | [], r, h => by simp [resL] at h; subst h; exact ⟨[], by simp, .nil, by simp [allL]⟩
  | x :: l, r, h => by
    simp only [resL] at h
    split at h
    · rename_i b r' h1 h2
      cases h
      obtain ⟨v, hv1, hv2, hv3⟩ := resV_run hT hs h1
      obtain ⟨vs, hs1, hs2, hs3⟩ := resL_run hT hs h2
      refine ⟨v :: vs, ?_, .cons hv2 hs2, by simp only [allL]; exact ⟨hv3, hs3⟩⟩
      simp [List.mapM_cons, hv1, hs1]
    · cases h
theorem res_run (hT : ∀ t i, get T t = some i → TOk P t i) {n : Nat} {w0 : World} {L0 : Old} {F0 F : Nat → Prop} {V : Nat → Value} {B : Nat → List Nat} {σ : St} {a : Act} {w : World} (hs : Sim n w0 L0 F0 F V B σ a w) {fn : Func} {r : A} (h : resA T σ fn.results.toList = some r) :
    ∃ v, (results fn a.tmps).run P w = .ok v w ∧ RepA F V w v r ∧ r.all (Def σ.hp) := by
  unfold resA at h
  have key : ∀ vs : List Value, (fn.results.toList.mapM (resF a.tmps)).run P w = .ok vs w → (results fn a.tmps).run P w = .ok (if h : vs.toArray.size = 1 then vs.toArray[0] else .tuple vs.toArray) w := by
    intro vs hvs
    rw [results_eq, Array.mapM_eq_mapM_toList]
    simp [hvs]
  split at h
  · rename_i b hl
    cases h
    obtain ⟨vs, h1, h2, h3⟩ := resL_run hT hs hl
    cases h2 with
    | cons h2 t =>
      cases t
      simp only [allL] at h3
      exact ⟨_, key _ h1, by simpa using h2, h3.1⟩
  · rename_i l hne hl
    cases h
    obtain ⟨vs, h1, h2, h3⟩ := resL_run hT hs hl
    refine ⟨_, key _ h1, ?_, by simpa only [A.all] using h3⟩
    have hlen : vs.toArray.size ≠ 1 := by
      intro he
      have : l.length = 1 := by rw [← h2.length]; simpa using he
      obtain ⟨b, rfl⟩ := List.length_eq_one_iff.1 this
      exact hne b rfl
    rw [dif_neg hlen]
    exact .tp h2
  · cases h
/-- A state with nothing but a result. -/
theorem Sim.res {n : Nat} {w0 : World} {L0 : Old} {F0 F : Nat → Prop} {V : Nat → Value} {B : Nat → List Nat} {σ : St} {a : Act} {w : World} (hs : Sim n w0 L0 F0 F V B σ a w) {v : Value} {r : A} (hv : RepA F V w v r) (hi : r.all (Def σ.hp)) : Sim 1 w0 L0 F0 F V B ⟨[(0, r)], σ.hp, 0⟩ { tmps := #[v], defers := [] } w := by
  refine ⟨hs.fr, rfl, rfl, hs.V1, hs.F_lt, hs.F_new, hs.F0_F, hs.hp, hs.own, fun t => ?_, fun t => ?_, hs.keep⟩
  · show RepA F V w _ (orX (get [(0, r)] t))
    rw [get_cons]
    by_cases h : 0 = t
    · subst h; simpa [orX] using hv
    · rw [if_neg h]; exact .un _
  · show (orX (get [(0, r)] t)).all _
    rw [get_cons]
    by_cases h : 0 = t
    · subst h; simpa [orX] using hi
    · rw [if_neg h]; simp [get, orX, A.all]
/-- A FUNCTION'S CONTRACT, out of its body's. -/
theorem ret_of (hT : ∀ t i, get T t = some i → TOk P t i) {f : Nat} {fn : Func} {c : Code} (hf : P.funcs[f]? = some fn) (hb : fn.body = some c) (hn : (fn.name == "runtime.NumGoroutine") = false) {as : List A} {hin : Hp} {r : A} {hout : Hp} {m nx : Nat} (hk : keys hin = List.range m) (hlen : as.length ≤ fn.ntmps)
    (h : Tri P fn.ntmps m c ⟨envOf 0 as, hin, nx⟩ (Fin T m fn.results.toList r hout)) : Ret P f as hin r hout := by
  refine ⟨⟨fn, hf, by rw [hb]; rfl, hn⟩, fun F V B w args hF hV1 hH hr hi => calls_of_wp hf hb ?_⟩
  have hal : args.length = as.length := hr.length
  have hs : Sim fn.ntmps w ⟨fun b => ∃ id, owns hin V B id b, m, V⟩ F F V B ⟨envOf 0 as, hin, nx⟩ { tmps := args.toArray ++ Array.replicate (fn.ntmps - args.toArray.size) undef, defers := [] } w := by
    have htm : ∀ t, (⟨envOf 0 as, hin, nx⟩ : St).tmp t = orX (as[t]?) := fun t => by
      show orX (get (envOf 0 as) t) = _
      rw [envOf_get]; simp
    refine ⟨Fr.refl _ w, rfl, by simp; omega, hV1, hF, fun b hb => .inl hb, fun b hb => hb, hH, fun id b hb => .inr ⟨id, hb⟩, fun t => ?_, fun t => ?_, fun id hid => ⟨rfl, (keys_def hk id).2 hid⟩⟩
    · rw [htm]
      cases ha : as[t]? with
      | none => exact .un _
      | some a =>
        obtain ⟨u, hu, hra⟩ := hr.get ha
        have hlt : t < args.length := by
          rcases Nat.lt_or_ge t args.length with h | h
          · exact h
          · rw [List.getElem?_eq_none h] at hu; cases hu
        have : (args.toArray ++ Array.replicate (fn.ntmps - args.toArray.size) undef).getD t undef = u := by
          rw [Array.getD_eq_getD_getElem?, Array.getElem?_append_left (by simpa using hlt)]
          simp [hu]
        rw [this]
        exact hra
    · rw [htm]
      cases ha : as[t]? with
      | none => simp [orX, A.all]
      | some a => exact allL_get hi ha
  refine h rfl hs _ fun e σ' F' V' B' a' w' hq hs' => ?_
  have fin : (∃ a, resA T σ' fn.results.toList = some a ∧ ∃ l ρ, WkF m l ρ ⟨[(0, a)], σ'.hp, 0⟩ ⟨[(0, r)], hout, 0⟩) → ∃ v, (results fn a'.tmps).run P w' = .ok v w' ∧ ∃ (v2 : Value) (F' : Nat → Prop) (V' : Nat → Value) (B' : Nat → List Nat), Ending.returned v = .returned v2 ∧ RepA F' V' w' v2 r ∧ r.all (Def hout) ∧ HeapOk F' V' B' w' hout ∧ (∀ id, (V' id).oneCell' = true) ∧
      (∀ id, Def hin id → V' id = V id ∧ Def hout id) ∧ (∀ b, F b → F' b) ∧ (∀ b, F' b → F b ∨ w.heap.size ≤ b ∨ ∃ id, owns hin V B id b) ∧ (∀ b, F' b → b < w'.heap.size) ∧
      (∀ id b, owns hout V' B' id b → w.heap.size ≤ b ∨ ∃ id', owns hin V B id' b) ∧ Fr (fun b => ∃ id, owns hin V B id b) w w' := by
    rintro ⟨a0, hres, l, ρ, hwk⟩
    obtain ⟨v, hrun, hrv, hri⟩ := res_run hT hs' hres
    obtain ⟨F2, V2, B2, hs2⟩ := hwk.ok (n := 1) rfl (hs'.res hrv hri)
    have e0 := hs2.env 0
    have i0 := hs2.ids 0
    have e1 : (⟨[(0, r)], hout, 0⟩ : St).tmp 0 = r := rfl
    rw [e1] at e0 i0
    exact ⟨v, hrun, v, F2, V2, B2, rfl, by simpa using e0, i0, hs2.hp, hs2.V1, fun id hid => hs2.keep id ((keys_def hk id).1 hid), hs2.F0_F, hs2.F_new, hs2.F_lt, hs2.own, hs2.fr⟩
  cases e <;> simp only [Fin] at hq
  case normal => exact ⟨hs'.df, fin hq⟩
  case ret => exact ⟨hs'.df, fin hq⟩
/-- The same, the condition computed. -/
theorem ret_vc (hT : ∀ t i, get T t = some i → TOk P t i) (hm' : P.follows .mixedOrders = true) {f : Nat} {fn : Func} {c : Code} (hf : P.funcs[f]? = some fn) (hb : fn.body = some c) (hn : (fn.name == "runtime.NumGoroutine") = false) {as : List A} {hin : Hp} {r : A} {hout : Hp} {m nx : Nat} (hk : keys hin = List.range m) (hlen : as.length ≤ fn.ntmps)
    (h : vc P T fn.ntmps m c ⟨envOf 0 as, hin, nx⟩ (Fin T m fn.results.toList r hout)) : Ret P f as hin r hout := ret_of hT hf hb hn hk hlen (vc_sound hT hm' _ _ _ h)
/-! Renamings and freezings, found by computing -/
def memP : Nat → List (Nat × Nat) → Bool
  | _, [] => false
  | k, (a, _) :: l => match Nat.beq a k with
    | true => true
    | false => memP k l
def zipA : List A → List A → List (A × A)
  | a :: l, b :: l' => (a, b) :: zipA l l'
  | _, _ => []
def appP : List (A × A) → List (A × A) → List (A × A)
  | [], l => l
  | p :: r, l => p :: appP r l
def subP (h h' : Nat → Option Ob) (k k' : Nat) : List (A × A) :=
  match h k, h' k' with
  | some (.box cs), some (.box cs') => zipA cs cs'
  | some (.fo _ _ cs _), some (.fo _ _ cs' _) => zipA cs cs'
  | _, _ => []
def auK (h h' : Nat → Option Ob) (K : List (Nat × Nat) → List Nat → Prop) : Nat → List (A × A) → List (Nat × Nat) → List Nat → Prop
  | 0, _, _, _ => False
  | _ + 1, [], ρ, fz => K ρ fz
  | f + 1, (a, a') :: l, ρ, fz => match a' with
    | .rw k' => match memP k' ρ with
      | true => auK h h' K f l ρ fz
      | false => match a with
        | .rw k => auK h h' K f (appP (subP h h' k k') l) ((k', k) :: ρ) fz
        | _ => auK h h' K f l ((k', 3000 + k') :: ρ) fz
    | .pt k' _ => match memP k' ρ, a with
      | false, .pt k _ => auK h h' K f (appP (subP h h' k k') l) ((k', k) :: ρ) fz
      | _, _ => auK h h' K f l ρ fz
    | .re _ k' _ _ => match memP k' ρ, a with
      | false, .re _ k _ _ => auK h h' K f (appP (subP h h' k k') l) ((k', k) :: ρ) fz
      | _, _ => auK h h' K f l ρ fz
    | .c _ => match a with
      | .rw k => auK h h' K f l ρ (k :: fz)
      | _ => auK h h' K f l ρ fz
    | .ag l' => match a with
      | .ag la => auK h h' K f (appP (zipA la l') l) ρ fz
      | _ => auK h h' K f l ρ fz
    | .tp l' => match a with
      | .tp la => auK h h' K f (appP (zipA la l') l) ρ fz
      | _ => auK h h' K f l ρ fz
    | .fn _ l' => match a with
      | .fn _ la => auK h h' K f (appP (zipA la l') l) ρ fz
      | _ => auK h h' K f l ρ fz
    | _ => auK h h' K f l ρ fz
theorem auK_ok {h h' : Nat → Option Ob} {K : List (Nat × Nat) → List Nat → Prop} : ∀ {f : Nat} {l : List (A × A)} {ρ : List (Nat × Nat)} {fz : List Nat}, auK h h' K f l ρ fz → ∃ ρ fz, K ρ fz
  | 0, _, _, _, h => h.elim
  | _ + 1, [], ρ, fz, h => ⟨ρ, fz, h⟩
  | f + 1, (a, a') :: l, ρ, fz, h => by
    unfold auK at h
    split at h
    · split at h
      · exact auK_ok h
      · split at h <;> exact auK_ok h
    · split at h <;> exact auK_ok h
    · split at h <;> exact auK_ok h
    · split at h <;> exact auK_ok h
    · split at h <;> exact auK_ok h
    · split at h <;> exact auK_ok h
    · split at h <;> exact auK_ok h
    · exact auK_ok h
def keepP : Nat → List (A × A) → List (A × A)
  | 0, l => l
  | m + 1, l => keepP m ((.rw m, .rw m) :: l)
def envP (σ : St) : List (Nat × A) → List (A × A)
  | [] => []
  | (t, a) :: l => (σ.tmp t, a) :: envP σ l
def workP (m : Nat) (σ σ' : St) : List (A × A) := keepP m (envP σ σ'.env)
theorem WkF.au {n m : Nat} {σ σ' : St} (h : auK (get σ.hp) (get σ'.hp) (fun ρ fz => WkF m fz ρ σ σ') 200 (workP m σ σ') [] []) : Weak n m σ σ' := by
  obtain ⟨_, _, h⟩ := auK_ok h
  exact WkF.ok h
theorem fin_au {m : Nat} {σ : St} {rs : List ResultVar} {r : A} {hout : Hp} {a : A} (h1 : resA T σ rs = some a) (h : auK (get σ.hp) (get hout) (fun ρ fz => WkF m fz ρ ⟨[(0, a)], σ.hp, 0⟩ ⟨[(0, r)], hout, 0⟩) 200 (workP m ⟨[(0, a)], σ.hp, 0⟩ ⟨[(0, r)], hout, 0⟩) [] []) : ∃ a, resA T σ rs = some a ∧ ∃ l ρ, WkF m l ρ ⟨[(0, a)], σ.hp, 0⟩ ⟨[(0, r)], hout, 0⟩ := by
  obtain ⟨_, _, h⟩ := auK_ok h
  exact ⟨a, h1, _, _, h⟩
end Go.Proofs.YthbpdhppelaihaaGreat
