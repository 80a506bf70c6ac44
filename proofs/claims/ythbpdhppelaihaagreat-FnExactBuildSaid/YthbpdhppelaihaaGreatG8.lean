/- REGIONS where the tape draws: what holds of the order of the text holds of every order that is left open. Conditions: none. -/
import Derived.Test.YthbpdhppelaihaaGreatG7
set_option linter.unusedVariables false
set_option linter.unusedSimpArgs false
namespace Go.Proofs.YthbpdhppelaihaaGreat
open Go.RowKit
variable {P : Program} {T : List (Nat × TI)}

structure Evt where
  i : Nat
  o : Oper
  r : A
  dh : Hp
  rd : List Nat
  ct : Ct
def evUpd (σ : St) (e : Evt) : St := σ.upd e.o.dst e.r e.dh
def app : St → List Evt → St
  | σ, [] => σ
  | σ, e :: es => app (evUpd σ e) es
theorem app_append (σ : St) : ∀ (es es' : List Evt), app σ (es ++ es') = app (app σ es) es' := by
  intro es
  induction es generalizing σ with
  | nil => intro _; rfl
  | cons e es ih => intro es'; exact ih _ es'
theorem app_tmp_congr {t : Nat} : ∀ (es : List Evt) {σ σ' : St}, σ.tmp t = σ'.tmp t → (app σ es).tmp t = (app σ' es).tmp t
  | [], _, _, h => h
  | e :: es, σ, σ', h => app_tmp_congr es (by simp only [evUpd, tmp_upd, h])
theorem get_evUpd (σ : St) (e : Evt) (id : Nat) : get (evUpd σ e).hp id = match get e.dh id with | some o => some o | none => get σ.hp id := by
  show get (e.dh ++ σ.hp) id = _
  rw [get_append]
  cases get e.dh id <;> rfl
theorem app_get_congr {id : Nat} : ∀ (es : List Evt) {σ σ' : St}, get σ.hp id = get σ'.hp id → get (app σ es).hp id = get (app σ' es).hp id
  | [], _, _, h => h
  | e :: es, σ, σ', h => app_get_congr es (by simp only [get_evUpd, h])
theorem app_filter_tmp {t : Nat} (f : Evt → Bool) : ∀ (es : List Evt) (σ : St), (∀ e ∈ es, f e = false → e.o.dst ≠ some t) → (app σ (es.filter f)).tmp t = (app σ es).tmp t
  | [], _, _ => rfl
  | e :: es, σ, h => by
    cases hf : f e with
    | true => rw [List.filter_cons_of_pos hf]; exact app_filter_tmp f es _ (fun x hx => h x (by simp [hx]))
    | false =>
      rw [List.filter_cons_of_neg (by simp [hf]), app_filter_tmp f es _ (fun x hx => h x (by simp [hx]))]
      refine (app_tmp_congr es ?_).symm
      rw [evUpd, tmp_upd, if_neg (h e (by simp) hf)]
theorem app_filter_get {id : Nat} (f : Evt → Bool) : ∀ (es : List Evt) (σ : St), (∀ e ∈ es, f e = false → get e.dh id = none) → get (app σ (es.filter f)).hp id = get (app σ es).hp id
  | [], _, _ => rfl
  | e :: es, σ, h => by
    cases hf : f e with
    | true => rw [List.filter_cons_of_pos hf]; exact app_filter_get f es _ (fun x hx => h x (by simp [hx]))
    | false =>
      rw [List.filter_cons_of_neg (by simp [hf]), app_filter_get f es _ (fun x hx => h x (by simp [hx]))]
      refine (app_get_congr es ?_).symm
      rw [get_evUpd, h e (by simp) hf]
/-- What the order of the text has shown of one operation. -/
def Good (P : Program) (n : Nat) (ops : List Oper) (e : Evt) (σ : St) : Prop :=
  (guardSt ops σ e.o = some true ∧ Snd P n e.o σ e.r e.dh e.rd ∧ e.ct = ctOf ops e.o e.dh e.rd) ∨ (guardSt ops σ e.o = some false ∧ e.r = .tp [] ∧ e.dh = [] ∧ e.ct = ctOf ops e.o [] [])
theorem trace_of (hT : ∀ t i, get T t = some i → TOk P t i) {n : Nat} {ops : List Oper} (hd : dstOk n ops = true) {gs : List Nat} {K : St → List Ct → Prop} : ∀ (rest : List Oper) (i : Nat) (σ : St) (es : List Ct), (∀ j, rest[j]? = ops[i + j]?) → Real n σ → vcOps P T ops gs rest σ es K →
    ∃ evs : List Evt, K (app σ evs) (es ++ evs.map (·.ct)) ∧ evs.length = rest.length ∧ ∀ pre e post, evs = pre ++ e :: post → e.i = i + pre.length ∧ rest[pre.length]? = some e.o ∧ Good P n ops e (app σ pre)
  | [], i, σ, es, hj, hR, hv => ⟨[], by simpa [vcOps, app] using hv, rfl, fun pre e post h => by simp at h⟩
  | o :: rest, i, σ, es, hj, hR, hv => by
    have h0 : ops[i]? = some o := by have := hj 0; simpa using this.symm
    have hrest : ∀ j, rest[j]? = ops[i + 1 + j]? := fun j => by have := hj (j + 1); simpa [Nat.add_assoc, Nat.add_comm 1 j] using this
    have hdo := dstOk_mem hd o (List.mem_of_getElem? h0)
    simp only [vcOps] at hv
    have fin : ∀ (e : Evt), e.i = i → e.o = o → Good P n ops e σ → Real n (evUpd σ e) → vcOps P T ops gs rest (evUpd σ e) (es ++ [e.ct]) K → ∃ evs : List Evt, K (app σ evs) (es ++ evs.map (·.ct)) ∧ evs.length = (o :: rest).length ∧ ∀ pre e post, evs = pre ++ e :: post → e.i = i + pre.length ∧ (o :: rest)[pre.length]? = some e.o ∧ Good P n ops e (app σ pre) := by
      intro e hei heo hgd hR' hv'
      obtain ⟨evs, h1, h2, h3⟩ := trace_of hT hd rest (i + 1) _ _ hrest hR' hv'
      refine ⟨e :: evs, by simpa [app] using h1, by simp [h2], fun pre e' post h => ?_⟩
      cases pre with
      | nil => simp at h; obtain ⟨rfl, rfl⟩ := h; exact ⟨by simpa using hei, by simp [heo], hgd⟩
      | cons p pre =>
        simp at h
        obtain ⟨rfl, h⟩ := h
        obtain ⟨h4, h5, h6⟩ := h3 pre e' post h
        exact ⟨by rw [h4]; simp; omega, by simpa using h5, h6⟩
    split at hv
    · rename_i hg
      obtain ⟨r, dh, rd, hk, hsd⟩ := op_sound hT hdo hR hv
      obtain ⟨r', hk', hsd'⟩ := hsd.split hk
      rw [fcA_eq, fcH_eq, fcN_eq] at hk'
      exact fin ⟨i, o, r', dh, rd, ctOf ops o dh rd⟩ rfl rfl (.inl ⟨hg, hsd', rfl⟩) (hR.step (hsd' σ ⟨fun _ _ => rfl, fun _ _ => rfl⟩)) hk'.h
    · rename_i hg
      refine fin ⟨i, o, .tp [], [], [], ctOf ops o [] []⟩ rfl rfl (.inr ⟨hg, rfl, rfl, rfl⟩) ?_ hv.h
      obtain ⟨w0, L0, F0, F, V, B, a, w, hs⟩ := hR
      exact ⟨w0, L0, F0, F, V, B, _, w, skip_sim hs hdo⟩
    · exact hv.elim

/-! What the checks say -/
theorem union_mem {n : Nat} {l l' : List Nat} (h : n ∈ union l l') : n ∈ l ∨ n ∈ l' := by
  induction l with
  | nil => exact .inr h
  | cons k l ih =>
    simp only [union] at h
    split at h
    · rcases ih h with h1 | h1
      · exact .inl (by simp [h1])
      · exact .inr h1
    · rcases List.mem_cons.1 h with rfl | h1
      · exact .inl (by simp)
      · rcases ih h1 with h2 | h2
        · exact .inl (by simp [h2])
        · exact .inr h2
theorem unionAll_mem {n : Nat} {cl : List (List Nat)} {l : List Nat} (h : n ∈ unionAll cl l) : ∃ i ∈ l, n ∈ cl.getD i [] := by
  induction l with
  | nil => simp [unionAll] at h
  | cons k l ih =>
    simp only [unionAll] at h
    rcases union_mem h with h1 | h1
    · exact ⟨k, by simp, h1⟩
    · obtain ⟨i, h2, h3⟩ := ih h1; exact ⟨i, by simp [h2], h3⟩
/-- A set of operations that holds with each what it waits for. -/
def Cl (ops : List Oper) (L : Nat → Bool) : Prop := ∀ j o, ops[j]? = some o → L j = true → ∀ i ∈ direct o, L i = true
def ClSpec (ops : List Oper) (cl : List (List Nat)) : Prop := ∀ (j : Nat) (o : Oper) (l : List Nat), ops[j]? = some o → cl[j]? = some l → ∀ i ∈ l, ∀ L, Cl ops L → (∀ k ∈ direct o, L k = true) → L i = true
theorem closure_spec {ops : List Oper} : ∀ (rest : List Oper) (cl : List (List Nat)), (∀ j, rest[j]? = ops[cl.length + j]?) → ClSpec ops cl → ClSpec ops (closure rest cl)
  | [], cl, _, h => h
  | o :: rest, cl, hj, h => by
    have h0 : ops[cl.length]? = some o := by have := hj 0; simpa using this.symm
    refine closure_spec rest _ (fun j => by have := hj (j + 1); simpa [Nat.add_assoc, Nat.add_comm 1 j] using this) ?_
    intro j o' l ho hl i hi L hL hdir
    rw [List.getElem?_append] at hl
    split at hl
    · exact h j o' l ho hl i hi L hL hdir
    · rename_i hge
      have hjl : j = cl.length := by
        rcases Nat.lt_or_ge (j - cl.length) 1 with h1 | h1
        · omega
        · rw [List.getElem?_eq_none (by simpa using h1)] at hl; cases hl
      subst hjl
      rw [h0] at ho
      cases ho
      simp at hl
      subst hl
      rcases union_mem hi with h1 | h1
      · exact hdir i h1
      · obtain ⟨k, h2, h3⟩ := unionAll_mem h1
        rw [List.getD_eq_getElem?_getD] at h3
        cases hk : cl[k]? with
        | none => rw [hk] at h3; simp at h3
        | some lk =>
          rw [hk] at h3
          have hklt : k < cl.length := by
            rcases Nat.lt_or_ge k cl.length with h4 | h4
            · exact h4
            · rw [List.getElem?_eq_none h4] at hk; cases hk
          cases hok : ops[k]? with
          | none =>
            have := List.getElem?_eq_none_iff.1 hok
            have h5 : cl.length < ops.length := by
              rcases Nat.lt_or_ge cl.length ops.length with h4 | h4
              · exact h4
              · rw [List.getElem?_eq_none h4] at h0; cases h0
            omega
          | some ok => exact h k ok lk hok hk i (by simpa using h3) L hL (hL k ok hok (hdir k h2))
theorem ordTo_spec {cl : List Nat} {c : Ct} : ∀ {pre : List Ct} {i : Nat}, ordTo cl c pre i = true → ∀ j a, pre[j]? = some a → a.conf c = true → (i + j) ∈ cl
  | [], i, _, j, a, h, _ => by simp at h
  | b :: pre, i, ho, j, a, h, hc => by
    simp only [ordTo] at ho
    cases j with
    | zero =>
      simp at h; subst h
      rw [hc] at ho
      simp only at ho
      split at ho
      · rename_i hm; exact memN_iff.1 hm
      · cases ho
    | succ j =>
      have h2 : ordTo cl c pre (i + 1) = true := by
        split at ho
        · exact ho
        · split at ho
          · exact ho
          · cases ho
      have := ordTo_spec h2 j a (by simpa using h) hc
      rwa [Nat.add_assoc, Nat.add_comm 1 j] at this
theorem ordOk_spec : ∀ {cls : List (List Nat)} {pre l : List Ct}, ordOk cls pre l = true → ∀ j c, l[j]? = some c → ∃ cl, cls[j]? = some cl ∧ ∀ i a, (pre ++ l)[i]? = some a → i < pre.length + j → a.conf c = true → i ∈ cl
  | _, pre, [], _, j, c, h => by simp at h
  | [], pre, _ :: _, ho, j, c, h => by simp [ordOk] at ho
  | cl :: cls, pre, d :: l, ho, j, c, h => by
    simp only [ordOk] at ho
    split at ho
    · rename_i h1
      cases j with
      | zero =>
        simp at h; subst h
        refine ⟨cl, by simp, fun i a hi hlt hc => ?_⟩
        have hi' : pre[i]? = some a := by rw [List.getElem?_append_left (by omega)] at hi; exact hi
        have := ordTo_spec h1 i a hi' hc
        simpa using this
      | succ j =>
        obtain ⟨cl', h2, h3⟩ := ordOk_spec ho j c (by simpa using h)
        exact ⟨cl', by simpa using h2, fun i a hi hlt hc => h3 i a (by simpa using hi) (by simp; omega) hc⟩
    · cases ho
theorem conf_spec {a b : Ct} (h : a.conf b = false) : (∀ t ∈ a.wt, t ∉ b.rt ∧ t ∉ b.wt) ∧ (∀ t ∈ a.rt, t ∉ b.wt) ∧ (∀ t ∈ a.wi, t ∉ b.ri ∧ t ∉ b.wi) ∧ (∀ t ∈ a.ri, t ∉ b.wi) := by
  unfold Ct.conf at h
  split at h
  · rename_i h1 h2 h3 h4 h5 h6
    exact ⟨fun t ht => ⟨inter_spec h1 ht, inter_spec h2 ht⟩, fun t ht => inter_spec h3 ht, fun t ht => ⟨inter_spec h4 ht, inter_spec h5 ht⟩, fun t ht => inter_spec h6 ht⟩
  · cases h
theorem backOk_spec : ∀ {ops : List Oper} {j : Nat}, backOk ops j = true → ∀ k o, ops[k]? = some o → ∀ i ∈ direct o, i < j + k
  | [], _, _, k, o, h => by simp at h
  | o' :: l, j, hb, k, o, h => by
    simp only [backOk, Bool.and_eq_true] at hb
    cases k with
    | zero =>
      simp at h; subst h
      intro i hi
      have := List.all_eq_true.1 hb.1 i hi
      simpa using this
    | succ k =>
      intro i hi
      have := backOk_spec hb.2 k o (by simpa using h) i hi
      omega
theorem tmpsOf_mem {t : Nat} {l : List Operand} (h : Operand.tmp t ∈ l) : t ∈ tmpsOf l := by
  induction l with
  | nil => simp at h
  | cons x l ih =>
    rcases List.mem_cons.1 h with h1 | h1
    · subst h1; simp [tmpsOf]
    · cases x <;> simp only [tmpsOf] <;> first | exact ih h1 | exact List.mem_cons_of_mem _ (ih h1)
theorem dst_mem {ops : List Oper} {o : Oper} {dh : Hp} {rd : List Nat} {t : Nat} : o.dst = some t ↔ t ∈ (ctOf ops o dh rd).wt := by
  cases h : o.dst <;> simp [ctOf, h, optL, eq_comm]
theorem key_mem {dh : Hp} {id : Nat} : get dh id ≠ none → id ∈ keys dh := by
  intro h
  cases hg : get dh id with
  | none => exact (h hg).elim
  | some o => exact keys_of_get hg
theorem ev_agree {σ σ' : St} {x : Operand} (h : ∀ t, x = .tmp t → σ.tmp t = σ'.tmp t) : ev σ x = ev σ' x := by
  cases x with
  | tmp t => exact h t rfl
  | _ => rfl
theorem guardSt_agree {ops : List Oper} {σ σ' : St} {o : Oper} (h : ∀ t ∈ grdL ops o, σ.tmp t = σ'.tmp t) : guardSt ops σ o = guardSt ops σ' o := by
  unfold guardSt
  unfold grdL at h
  cases hg : o.guard with
  | none => rfl
  | some p =>
    obtain ⟨g, want⟩ := p
    rw [hg] at h
    simp only at h ⊢
    cases hd : dstOf ops g with
    | none => rfl
    | some d =>
      rw [hd] at h
      simp only [optL] at h
      simp only [h d (by simp)]
end Go.Proofs.YthbpdhppelaihaaGreat
