/- The conditions of F4 are sound: calls. Conditions: none. -/
import Derived.Test.YthbpdhppelaihaaGreatG2
set_option linter.unusedVariables false
set_option linter.unusedSimpArgs false
namespace Go.Proofs.YthbpdhppelaihaaGreat
open Go.RowKit
variable {P : Program} {T : List (Nat × TI)}

mutual
theorem RepA.unren {F : Nat → Prop} {V : Nat → Value} {w : World} (ρ : Nat → Nat) : ∀ (a : A) {v : Value}, RepA F V w v (a.ren ρ) → RepA F (fun k => V (ρ k)) w v a
  | .un, v, _ => .un v
  | .nl, _, h => by cases h; exact .nl
  | .kb b, _, h => by cases h; exact .kb b
  | .c _, _, h => by cases h with | c h => exact .c h
  | .ag l, _, h => by simp only [A.ren] at h; cases h with | ag h h1 => exact .ag (RepAs.unren ρ l h) h1
  | .tp l, _, h => by simp only [A.ren] at h; cases h with | tp h => exact .tp (RepAs.unren ρ l h)
  | .pt id off, _, h => by simp only [A.ren] at h; cases h with | pt _ _ g hg => exact .pt id off g hg
  | .el e x off, _, h => by simp only [A.ren] at h; cases h with | el _ _ _ ad us hf hc hr => exact .el e x off ad us hf hc hr
  | .rw id, _, h => by simp only [A.ren] at h; cases h; exact .rw (V := fun k => V (ρ k)) id
  | .re e id i off, _, h => by simp only [A.ren] at h; cases h with | re _ _ _ _ g n cap hg => exact .re e id i off g n cap hg
  | .fn f l, _, h => by simp only [A.ren] at h; cases h with | fn _ h => exact .fn f (RepAs.unren ρ l h)
theorem RepAs.unren {F : Nat → Prop} {V : Nat → Value} {w : World} (ρ : Nat → Nat) : ∀ (l : List A) {us : List Value}, RepAs F V w us (renL ρ l) → RepAs F (fun k => V (ρ k)) w us l
  | [], _, h => by simp only [renL] at h; cases h; exact .nil
  | a :: l, _, h => by simp only [renL] at h; cases h with | cons h t => exact .cons (RepA.unren ρ a h) (RepAs.unren ρ l t)
end
mutual
theorem RepA.ren {F : Nat → Prop} {V V' : Nat → Value} {w : World} (ρ : Nat → Nat) : ∀ (a : A) {v : Value}, a.all (fun k => V' (ρ k) = V k) → RepA F V w v a → RepA F V' w v (a.ren ρ)
  | .un, v, _, _ => .un v
  | .nl, _, _, h => by cases h; exact .nl
  | .kb b, _, _, h => by cases h; exact .kb b
  | .c _, _, _, h => by cases h with | c h => exact .c h
  | .ag l, _, hv, h => by simp only [A.ren]; simp only [A.all] at hv; cases h with | ag h h1 => exact .ag (RepAs.ren ρ l hv h) h1
  | .tp l, _, hv, h => by simp only [A.ren]; simp only [A.all] at hv; cases h with | tp h => exact .tp (RepAs.ren ρ l hv h)
  | .pt id off, _, hv, h => by simp only [A.ren]; simp only [A.all] at hv; cases h with | pt _ _ g hg => exact .pt _ off g (by rw [hv]; exact hg)
  | .el e x off, _, hv, h => by simp only [A.ren]; cases h with | el _ _ _ ad us hf hc hr => exact .el e x off ad us hf hc hr
  | .rw id, _, hv, h => by simp only [A.ren]; simp only [A.all] at hv; cases h; rw [← hv]; exact .rw _
  | .re e id i off, _, hv, h => by simp only [A.ren]; simp only [A.all] at hv; cases h with | re _ _ _ _ g n cap hg => exact .re e _ i off g n cap (by rw [hv]; exact hg)
  | .fn f l, _, hv, h => by simp only [A.ren]; simp only [A.all] at hv; cases h with | fn _ h => exact .fn f (RepAs.ren ρ l hv h)
theorem RepAs.ren {F : Nat → Prop} {V V' : Nat → Value} {w : World} (ρ : Nat → Nat) : ∀ (l : List A) {us : List Value}, allL (fun k => V' (ρ k) = V k) l → RepAs F V w us l → RepAs F V' w us (renL ρ l)
  | [], _, _, h => by cases h; exact .nil
  | a :: l, _, hv, h => by
    simp only [allL] at hv
    cases h with | cons h t => exact .cons (RepA.ren ρ a hv.1 h) (RepAs.ren ρ l hv.2 t)
end
mutual
theorem A.all_ren (D : Nat → Prop) (ρ : Nat → Nat) : ∀ (a : A), (a.ren ρ).all D ↔ a.all (fun k => D (ρ k))
  | .un => by simp [A.ren, A.all]
  | .nl => by simp [A.ren, A.all]
  | .kb b => by simp [A.ren, A.all]
  | .c _ => by simp [A.ren, A.all]
  | .ag l => by simp only [A.ren, A.all]; exact allL_ren D ρ l
  | .tp l => by simp only [A.ren, A.all]; exact allL_ren D ρ l
  | .pt id off => by simp [A.ren, A.all]
  | .el e x off => by simp [A.ren, A.all]
  | .rw id => by simp [A.ren, A.all]
  | .re e id i off => by simp [A.ren, A.all]
  | .fn f l => by simp only [A.ren, A.all]; exact allL_ren D ρ l
theorem allL_ren (D : Nat → Prop) (ρ : Nat → Nat) : ∀ (l : List A), allL D (renL ρ l) ↔ allL (fun k => D (ρ k)) l
  | [] => by simp [renL, allL]
  | a :: l => by simp only [renL, allL]; rw [A.all_ren D ρ a, allL_ren D ρ l]
end
theorem renL_len (ρ : Nat → Nat) (l : List A) : (renL ρ l).length = l.length := by
  induction l with
  | nil => rfl
  | cons a l ih => simp [renL, ih]
theorem ObR.unren {F : Nat → Prop} {V : Nat → Value} {B : Nat → List Nat} {w : World} (ρ : Nat → Nat) {k : Nat} {o : Ob} (h : ObR F V B w (ρ k) (o.ren ρ)) : ObR F (fun k => V (ρ k)) (fun k => B (ρ k)) w k o := by
  cases o with
  | box cs => simp only [Ob.ren] at h; cases h with | box _ g vs t hV hg hr h1 => exact .box cs g vs t hV hg (hr.unren ρ _) h1
  | row e xs => simp only [Ob.ren] at h; cases h with | row _ _ us ho hr hb => exact .row e xs us ho hr hb
  | fz e xs => simp only [Ob.ren] at h; cases h with | fz _ _ h => exact .fz e xs h
  | dp e xs => simp only [Ob.ren] at h; cases h with | dp _ _ h => exact .dp e xs h
  | fo e pre cs post => simp only [Ob.ren] at h; cases h with | fo _ _ _ _ us1 vs us2 b1 b2 hb hc ho hr1 hr2 hv h1 hB hn => exact .fo e pre cs post us1 vs us2 b1 b2 hb (by rw [← hc]; exact (renL_len ρ cs).symm) ho hr1 hr2 (hv.unren ρ _) h1 hB hn
  | vw sz base off n => simp only [Ob.ren] at h; cases h with | vw _ _ _ _ g p N C hV hp hb hn => exact .vw sz base off n g p N C hV hp hb hn
  | mb c => simp only [Ob.ren] at h; cases h with | mb _ b hV hc => exact .mb c b hV hc
  | gone => exact .gone
theorem ObR.ren {F : Nat → Prop} {V V' : Nat → Value} {B B' : Nat → List Nat} {w : World} (ρ : Nat → Nat) {k : Nat} {o : Ob} (hk : V' (ρ k) = V k) (hkB : B' (ρ k) = B k) (hi : obIds (fun k => V' (ρ k) = V k) o) (h : ObR F V B w k o) : ObR F V' B' w (ρ k) (o.ren ρ) := by
  cases h with
  | box cs g vs t hV hg hr h1 => exact .box _ g vs t (by rw [hk]; exact hV) hg (hr.ren ρ _ hi) h1
  | row e xs us ho hr hb => exact .row e xs us (by rw [hk]; exact ho) hr hb
  | fz e xs h => exact .fz e xs (by rw [hk]; exact h)
  | dp e xs h => exact .dp e xs (by rw [hk, hkB]; exact h)
  | fo e pre cs post us1 vs us2 b1 b2 hb hc ho hr1 hr2 hv h1 hB hn => exact .fo e pre _ post us1 vs us2 b1 b2 hb (by rw [renL_len]; exact hc) (by rw [hk]; exact ho) hr1 hr2 (hv.ren ρ _ hi) h1 (by rw [hk, hkB]; exact hB) (by rw [hkB]; exact hn)
  | vw sz base off n g p N C hV hp hb hn => exact .vw sz _ off n g p N C (by rw [hk]; exact hV) hp (by rw [show V' (ρ base) = V base from hi]; exact hb) hn
  | mb c b hV hc => exact .mb c b (by rw [hk]; exact hV) hc
  | gone => exact .gone
theorem renId_lt {ids : List Nat} {nx : Nat} : ∀ {k : Nat}, k < ids.length → ids[k]? = some (renId ids nx k) := by
  induction ids with
  | nil => intro k h; simp at h
  | cons i ids ih =>
    intro k h
    cases k with
    | zero => rfl
    | succ k => simpa [renId] using ih (by simpa using h)
theorem renId_ge {ids : List Nat} {nx : Nat} : ∀ {k : Nat}, ids.length ≤ k → renId ids nx k = nx + (k - ids.length) := by
  induction ids with
  | nil => intro k _; simp [renId]
  | cons i ids ih =>
    intro k h
    cases k with
    | zero => simp at h
    | succ k => simp only [renId, List.length_cons]; rw [ih (by simpa using h)]; congr 1; omega
theorem lookAll_get {h : Nat → Option Ob} {ρ : Nat → Nat} : ∀ {l : Hp}, lookAll h ρ l → ∀ {k : Nat} {o : Ob}, get l k = some o → h (ρ k) = some (o.ren ρ)
  | [], _, k, o, hg => by simp [get] at hg
  | (k', o') :: l, hl, k, o, hg => by
    simp only [lookAll] at hl
    rw [get_cons] at hg
    split at hg
    · rename_i e; subst e; cases hg; exact hl.1
    · exact lookAll_get hl.2 hg
theorem newAll_get {h : Nat → Option Ob} {m nx : Nat} : ∀ {l : Hp}, newAll h m nx l → ∀ {k : Nat} {o : Ob}, get l k = some o → k < m ∨ h (nx + (k - m)) = none
  | [], _, k, o, hg => by simp [get] at hg
  | (k', o') :: l, hl, k, o, hg => by
    simp only [newAll] at hl
    rw [get_cons] at hg
    split at hg
    · rename_i e; subst e; exact hl.1
    · exact newAll_get hl.2 hg
theorem obsIds_get {D : Nat → Prop} : ∀ {l : Hp}, obsIds D l → ∀ {k : Nat} {o : Ob}, get l k = some o → obIds D o
  | [], _, k, o, hg => by simp [get] at hg
  | (k', o') :: l, hl, k, o, hg => by
    simp only [obsIds] at hl
    rw [get_cons] at hg
    split at hg
    · cases hg; exact hl.1
    · exact obsIds_get hl.2 hg
theorem renH_get {ρ : Nat → Nat} : ∀ {l : Hp} {k : Nat}, (∀ j, Def l j → ρ j = ρ k → j = k) → get (renH ρ l) (ρ k) = (get l k).map (Ob.ren ρ)
  | [], k, _ => rfl
  | (k', o') :: l, k, hinj => by
    simp only [renH]
    rw [get_cons, get_cons]
    by_cases e : k' = k
    · subst e; simp
    · rw [if_neg e, if_neg (fun h => e (hinj k' (by unfold Def; rw [get_cons, if_pos rfl]; rfl) h))]
      exact renH_get (fun j hj => hinj j (def_upd1 hj))
theorem renH_none {ρ : Nat → Nat} : ∀ {l : Hp} {id : Nat}, (∀ k, Def l k → ρ k ≠ id) → get (renH ρ l) id = none
  | [], id, _ => rfl
  | (k', o') :: l, id, h => by
    simp only [renH]
    rw [get_cons, if_neg (h k' (by unfold Def; rw [get_cons, if_pos rfl]; rfl))]
    exact renH_none (fun k hk => h k (def_upd1 hk))
/-- Where the renamed ids are; those that are born nil. -/
def VN (h : Nat → Option Ob) (V : Nat → Value) (ρ : Nat → Nat) (k : Nat) : Value :=
  match h (ρ k) with
  | none => .slice none 0 0
  | some _ => V (ρ k)
theorem VN_some {h : Nat → Option Ob} {V : Nat → Value} {ρ : Nat → Nat} {k : Nat} (hk : (h (ρ k)).isSome = true) : VN h V ρ k = V (ρ k) := by
  unfold VN
  cases hg : h (ρ k) with
  | none => rw [hg] at hk; cases hk
  | some o => rfl
mutual
theorem leA_rep {F : Nat → Prop} {V : Nat → Value} {w : World} {h : Nat → Option Ob} {ρ : Nat → Nat} (hob : ∀ id e xs, h id = some (.fz e xs) → RepC F w (V id) (.sl e xs)) : ∀ (a' : A) {a : A} {v : Value}, RepA F V w v a → a.all (fun k => (h k).isSome = true) → leA h ρ a a' → RepA F (VN h V ρ) w v a'
  | .un, _, v, _, _, _ => .un v
  | .c c', a, v, hr, hd, hl => by
    unfold leA at hl
    split at hl
    · subst hl; cases hr with | c h => exact .c h
    · subst hl; cases hr; exact .c (.bool _)
    · obtain ⟨e, rfl⟩ := hl
      cases hr
      exact .c (.sl e [] none 0 [] (Nat.le_refl _) (by simp) (fun hp => by simp at hp) .nil)
    · rename_i id
      split at hl
      · rename_i e xs hg
        subst hl
        have := hob id _ _ hg
        cases hr
        exact .c this
      · exact hl.elim
    · exact hl.elim
  | .kb b', a, v, hr, hd, hl => by
    unfold leA at hl
    split at hl
    · subst hl; cases hr; exact .kb _
    · subst hl; cases hr with | c h => cases h; exact .kb _
    · exact hl.elim
  | .ag l', a, v, hr, hd, hl => by
    unfold leA at hl
    split at hl
    · cases hr with | ag h h1 => exact .ag (leL_rep hob l' h (by simpa only [A.all] using hd) hl) h1
    · exact hl.elim
  | .tp l', a, v, hr, hd, hl => by
    unfold leA at hl
    split at hl
    · cases hr with | tp h => exact .tp (leL_rep hob l' h (by simpa only [A.all] using hd) hl)
    · exact hl.elim
  | .nl, a, v, hr, _, hl => by unfold leA at hl; subst hl; cases hr; exact .nl
  | .pt id off, a, v, hr, hd, hl => by
    unfold leA at hl; subst hl
    simp only [A.all] at hd
    cases hr with | pt _ _ g hV => exact .pt id off g (by rw [VN_some hd]; exact hV)
  | .el e x off, a, v, hr, _, hl => by unfold leA at hl; subst hl; cases hr with | el _ _ _ ad us hF hc hr => exact .el e x off ad us hF hc hr
  | .rw id, a, v, hr, hd, hl => by
    unfold leA at hl
    split at hl
    · rename_i hn
      subst hl
      cases hr
      have := RepA.rw (F := F) (V := VN h V ρ) (w := w) id
      rwa [show VN h V ρ id = .slice none 0 0 from by unfold VN; rw [hn]] at this
    · rename_i o hn
      subst hl
      cases hr
      have := RepA.rw (F := F) (V := VN h V ρ) (w := w) id
      rwa [VN_some (by rw [hn]; rfl)] at this
  | .re sz id i off, a, v, hr, hd, hl => by
    unfold leA at hl; subst hl
    simp only [A.all] at hd
    cases hr with | re _ _ _ _ g n cap hV => exact .re sz id i off g n cap (by rw [VN_some hd]; exact hV)
  | .fn f l, a, v, hr, hd, hl => by
    unfold leA at hl; subst hl
    simp only [A.all] at hd
    rw [allL_ren] at hd
    cases hr with | fn _ hr => exact .fn f (RepAs.move (fun _ h => h) (fun _ _ => rfl) (allL_mono (fun k hk => VN_some hk) hd) (hr.unren ρ l))
theorem leL_rep {F : Nat → Prop} {V : Nat → Value} {w : World} {h : Nat → Option Ob} {ρ : Nat → Nat} (hob : ∀ id e xs, h id = some (.fz e xs) → RepC F w (V id) (.sl e xs)) : ∀ (l' : List A) {l : List A} {us : List Value}, RepAs F V w us l → allL (fun k => (h k).isSome = true) l → leL h ρ l l' → RepAs F (VN h V ρ) w us l'
  | [], l, us, hr, _, hl => by unfold leL at hl; subst hl; cases hr; exact .nil
  | a' :: l', l, us, hr, hd, hl => by
    unfold leL at hl
    split at hl
    · simp only [allL] at hd
      cases hr with | cons h t => exact .cons (leA_rep hob a' h hd.1 hl.1) (leL_rep hob l' t hd.2 hl.2)
    · exact hl.elim
end
mutual
theorem ff_rep {F F' : Nat → Prop} {V : Nat → Value} {w : World} : ∀ (a : A) {v : Value}, ffA a → RepA F V w v a → RepA F' V w v a
  | .c c, v, hf, hr => by
    cases hr with
    | c h =>
      cases h with
      | int k n => exact .c (.int k n)
      | bool b => exact .c (.bool b)
      | str s hs => exact .c (.str s hs)
      | sl => exact (hf : False).elim
  | .kb b, v, _, hr => by cases hr; exact .kb b
  | .nl, v, _, hr => by cases hr; exact .nl
  | .un, v, _, _ => .un v
  | .rw id, v, _, hr => by cases hr; exact .rw id
  | .ag l, v, hf, hr => by cases hr with | ag h h1 => exact .ag (ffL_rep l hf h) h1
  | .tp l, v, hf, hr => by cases hr with | tp h => exact .tp (ffL_rep l hf h)
  | .pt _ _, v, hf, _ => (hf : False).elim
  | .el _ _ _, v, hf, _ => (hf : False).elim
  | .re _ _ _ _, v, hf, _ => (hf : False).elim
  | .fn _ _, v, hf, _ => (hf : False).elim
theorem ffL_rep {F F' : Nat → Prop} {V : Nat → Value} {w : World} : ∀ (l : List A) {us : List Value}, ffL l → RepAs F V w us l → RepAs F' V w us l
  | [], _, _, .nil => .nil
  | a :: l, _, hf, .cons h t => .cons (ff_rep a hf.1 h) (ffL_rep l hf.2 t)
end
theorem ffH_get : ∀ {l : Hp}, ffH l → ∀ {k : Nat} {o : Ob}, get l k = some o → (∃ e xs, o = .dp e xs) ∨ o = .gone ∨ ∃ e xs, o = .row e xs ∧ (flat e = true ∨ xs = [])
  | [], _, k, o, hg => by simp [get] at hg
  | (k', o') :: l, hf, k, o, hg => by
    have key : ffH l ∧ ((∃ e xs, o' = .dp e xs) ∨ o' = .gone ∨ ∃ e xs, o' = .row e xs ∧ (flat e = true ∨ xs = [])) := by
      cases o' with
      | dp e xs => exact ⟨hf, .inl ⟨e, xs, rfl⟩⟩
      | gone => exact ⟨hf, .inr (.inl rfl)⟩
      | vw _ _ _ _ => exact hf.elim
      | mb _ => exact hf.elim
      | row e xs => exact ⟨hf.2, .inr (.inr ⟨e, xs, rfl, hf.1⟩)⟩
      | box => exact (hf : False).elim
      | fz => exact (hf : False).elim
      | fo => exact (hf : False).elim
    rw [get_cons] at hg
    split at hg
    · cases hg; exact key.2
    · exact ffH_get key.1 hg
theorem run_enter {g : Nat} (he : Ent P g) {n : Nat} {o : Oper} {c : Call} {f : Operand} (ho : o.op = .call c) (hc : c.callee = .value f) {a : Act} {caps : Array Value} (hf : a.eval f = .func (.func g) #[] caps) {w : World} : (execOp a.eval o).run P w = .ok (.enter g (c.args.map a.eval ++ caps)) w := by
  obtain ⟨fn, h1, h2, h3⟩ := he
  obtain ⟨callee, args, argTypes⟩ := c
  simp only at hc
  subst hc
  have h2' : ¬ fn.body = none := by intro h; rw [h] at h2; cases h2
  have h3' : ¬ fn.name = "runtime.NumGoroutine" := by simpa using h3
  simp [execOp, ho, resolve, hf, Deferred.ofValue, invoke, callFunc, h1, h2', h3']
/-- A call. -/
theorem val_call {n : Nat} {o : Oper} (hd : ∀ d, o.dst = some d → d < n) {σ : St} {c : Call} {f : Operand} (ho : o.op = .call c) (hc : c.callee = .value f) {g : Nat} {caps as : List A} (hf : ev σ f = .fn g caps) {hin hout : Hp} {r : A} {ids : List Nat} {nx : Nat} (hret : Ret P g as hin r hout)
    (hargs : c.args.toList.map (ev σ) ++ caps = renL (renId ids nx) as) (hnd : ids.Nodup) (hdef : ∀ k, Def hin k ↔ k < ids.length) (hlk : lookAll (get σ.hp) (renId ids nx) hin) (hnw : newAll (get σ.hp) ids.length nx hout) (has : allL (Def hin) as) (hoi : obsIds (Def hin) hin) :
    Val P n o σ (σ.upd o.dst (r.ren (renId ids nx)) (renH (renId ids nx) hout)) := by
  intro w0 L0 F0 F V B a w hs K Q hK
  generalize hρ : renId ids nx = ρ at *
  have hlook : ∀ {k o}, get hin k = some o → get σ.hp (ρ k) = some (o.ren ρ) := fun h => lookAll_get hlk h
  have hdin : ∀ {k}, Def hin k → Def σ.hp (ρ k) := fun {k} hk => by
    obtain ⟨o, ho⟩ := Option.isSome_iff_exists.1 hk
    unfold Def; rw [hlook ho]; rfl
  have hinjin : ∀ {j k}, Def hin j → Def hin k → ρ j = ρ k → j = k := fun {j k} hj hk e => by
    have hj := (hdef j).1 hj
    have hk := (hdef k).1 hk
    have h1 := renId_lt (nx := nx) hj
    have h2 := renId_lt (nx := nx) hk
    rw [hρ] at h1 h2
    rw [e, ← h2] at h1
    exact (List.getElem?_inj hj hnd).1 h1
  have hinj : ∀ {j k}, Def hout j → Def hout k → ρ j = ρ k → j = k := fun {j k} hj hk e => by
    obtain ⟨oj, hj⟩ := Option.isSome_iff_exists.1 hj
    obtain ⟨ok, hk⟩ := Option.isSome_iff_exists.1 hk
    have key : ∀ {j k : Nat} {ok : Ob}, j < ids.length → get hout k = some ok → ρ j = ρ k → k < ids.length := fun {j k ok} hj hk e => by
      rcases newAll_get hnw hk with h1 | h1
      · exact h1
      · have h2 := hdin ((hdef j).2 hj)
        by_cases hkl : k < ids.length
        · exact hkl
        · rw [e, ← hρ, renId_ge (by omega)] at h2
          unfold Def at h2; rw [h1] at h2; cases h2
    by_cases hjl : j < ids.length
    · exact hinjin ((hdef j).2 hjl) ((hdef k).2 (key hjl hk e)) e
    · by_cases hkl : k < ids.length
      · exact absurd (key hkl hj e.symm) hjl
      · rw [← hρ, renId_ge (by omega), renId_ge (by omega)] at e
        omega
  have howin : ∀ {k b}, owns hin (fun k => V (ρ k)) (fun k => B (ρ k)) k b → owns σ.hp V B (ρ k) b := fun {k b} h => by
    unfold owns at h ⊢
    cases hg : get hin k with
    | none => rw [hg] at h; exact h.elim
    | some ob =>
      rw [hlook hg]
      rw [hg] at h
      cases ob <;> simp only [Ob.ren] <;> exact h
  have hH : HeapOk F (fun k => V (ρ k)) (fun k => B (ρ k)) w hin := by
    refine ⟨fun k o hk => (hs.hp.ob _ _ (hlook hk)).unren ρ, fun k o hk => obsIds_get hoi hk, fun k b hb => hs.hp.lt _ b (howin hb), fun k b hb => hs.hp.nF _ b (howin hb), fun k k' b hb hb' => ?_⟩
    exact hinjin (owns_def hb) (owns_def hb') (hs.hp.apart _ _ b (howin hb) (howin hb'))
  -- the arguments
  have hrf := hs.rep f
  rw [hf] at hrf
  generalize hfv : a.eval f = fv at hrf
  cases hrf with
  | fn _ hcaps =>
    rename_i cus
    have hall := (evs_rep hs c.args.toList).1.append hcaps
    rw [hargs] at hall
    have hrun := run_enter (P := P) hret.1 (n := n) ho hc hfv (w := w)
    have hcall := hret.2 F (fun k => V (ρ k)) (fun k => B (ρ k)) w _ hs.F_lt (fun id => hs.V1 _) hH (hall.unren ρ) has
    unfold Oper.wp
    rw [hrun]
    simp only [Oper.upon]
    have hargsv : (c.args.toList.map a.eval ++ cus).toArray = c.args.map a.eval ++ cus.toArray := by
      apply Array.toList_inj.1
      simp
    rw [hargsv] at hcall
    refine Calls.mono hcall fun e w'' he => ?_
    obtain ⟨v, F', V', B', rfl, hrv, hrd, hho, hv1, hkeep, hFF, hFn, hFl, hon, hfr⟩ := he
    simp only
    classical
    let V2 : Nat → Value := fun id => if h : ∃ k, Def hout k ∧ ρ k = id then V' (Classical.choose h) else V id
    have hV2 : ∀ k, Def hout k → V2 (ρ k) = V' k := fun k hk => by
      have h : ∃ j, Def hout j ∧ ρ j = ρ k := ⟨k, hk, rfl⟩
      show (if h : ∃ j, Def hout j ∧ ρ j = ρ k then V' (Classical.choose h) else V (ρ k)) = _
      rw [dif_pos h]
      obtain ⟨h1, h2⟩ := Classical.choose_spec h
      rw [hinj h1 hk h2]
    let B2 : Nat → List Nat := fun id => if h : ∃ k, Def hout k ∧ ρ k = id then B' (Classical.choose h) else B id
    have hB2 : ∀ k, Def hout k → B2 (ρ k) = B' k := fun k hk => by
      have h : ∃ j, Def hout j ∧ ρ j = ρ k := ⟨k, hk, rfl⟩
      show (if h : ∃ j, Def hout j ∧ ρ j = ρ k then B' (Classical.choose h) else B (ρ k)) = _
      rw [dif_pos h]
      obtain ⟨h1, h2⟩ := Classical.choose_spec h
      rw [hinj h1 hk h2]
    have hB2n : ∀ id, (¬ ∃ k, Def hout k ∧ ρ k = id) → B2 id = B id := fun id h => by
      show (if h : ∃ k, Def hout k ∧ ρ k = id then B' (Classical.choose h) else B id) = _
      rw [dif_neg h]
    have hV2n : ∀ id, (¬ ∃ k, Def hout k ∧ ρ k = id) → V2 id = V id := fun id h => by
      show (if h : ∃ k, Def hout k ∧ ρ k = id then V' (Classical.choose h) else V id) = _
      rw [dif_neg h]
    have hVold : ∀ id, Def σ.hp id → V2 id = V id := fun id hid => by
      by_cases h : ∃ k, Def hout k ∧ ρ k = id
      · obtain ⟨k, hk, rfl⟩ := h
        rw [hV2 k hk]
        by_cases hkl : k < ids.length
        · exact (hkeep k ((hdef k).2 hkl)).1
        · obtain ⟨ok, hk⟩ := Option.isSome_iff_exists.1 hk
          rcases newAll_get hnw hk with h1 | h1
          · exact absurd h1 hkl
          · rw [← hρ, renId_ge (by omega)] at hid
            unfold Def at hid; rw [h1] at hid; cases hid
      · exact hV2n id h
    have hget : ∀ k, Def hout k → get (renH ρ hout ++ σ.hp) (ρ k) = (get hout k).map (Ob.ren ρ) := fun k hk => by
      rw [get_append, renH_get (fun j hj e => hinj hj hk e)]
      obtain ⟨o, ho⟩ := Option.isSome_iff_exists.1 hk
      rw [ho]; rfl
    have hgetn : ∀ id, (¬ ∃ k, Def hout k ∧ ρ k = id) → get (renH ρ hout ++ σ.hp) id = get σ.hp id := fun id h => by
      rw [get_append, renH_none (fun k hk e => h ⟨k, hk, e⟩)]
    have hdef' : ∀ k, Def hout k → Def (renH ρ hout ++ σ.hp) (ρ k) := fun k hk => by
      unfold Def; rw [hget k hk]
      obtain ⟨o, ho⟩ := Option.isSome_iff_exists.1 hk
      rw [ho]; rfl
    have hdefold : ∀ id, Def σ.hp id → Def (renH ρ hout ++ σ.hp) id := fun id hid => by
      by_cases h : ∃ k, Def hout k ∧ ρ k = id
      · obtain ⟨k, hk, rfl⟩ := h; exact hdef' k hk
      · unfold Def; rw [hgetn id h]; exact hid
    have howout : ∀ {k b}, Def hout k → owns (renH ρ hout ++ σ.hp) V2 B2 (ρ k) b → owns hout V' B' k b := fun {k b} hk h => by
      unfold owns at h ⊢
      rw [hget k hk, hV2 k hk, hB2 k hk] at h
      obtain ⟨ob, hob⟩ := Option.isSome_iff_exists.1 hk
      rw [hob] at h ⊢
      cases ob <;> simp only [Option.map_some, Ob.ren] at h <;> exact h
    have hst : Sim n w0 L0 F0 F' V2 B2 { σ with hp := renH ρ hout ++ σ.hp } a w'' := by
      refine hs.step (fun id => ∃ k, Def hout k ∧ ρ k = id) hfr.os hfr.tape hfr.output (fun b hb hno => hfr.old b hb (fun ⟨k, hk⟩ => hno (ρ k) ⟨k, (hkeep k (owns_def hk)).2, rfl⟩ (howin hk))) hfr.size hVold (fun id h _ => hB2n id h) hFF (fun b hb => ?_) hFl (fun id => ?_) hgetn hdefold (fun id o hid ho => ?_) (fun id b hid hb => ?_) (fun id id' b hid hid' hb hb' => ?_)
      · rcases hFn b hb with h1 | h1 | ⟨k, h1⟩
        · exact .inl h1
        · exact .inr (.inl h1)
        · exact .inr (.inr ⟨ρ k, ⟨k, (hkeep k (owns_def h1)).2, rfl⟩, howin h1⟩)
      · by_cases h : ∃ k, Def hout k ∧ ρ k = id
        · obtain ⟨k, hk, rfl⟩ := h; rw [hV2 k hk]; exact hv1 k
        · rw [hV2n id h]; exact hs.V1 id
      · obtain ⟨k, hk, rfl⟩ := hid
        rw [hget k hk] at ho
        obtain ⟨ob, hob⟩ := Option.isSome_iff_exists.1 hk
        rw [hob] at ho
        simp only [Option.map_some, Option.some.injEq] at ho
        subst ho
        have hoid := hho.ids k ob hob
        refine ⟨(hho.ob k ob hob).ren ρ (hV2 k hk) (hB2 k hk) (obIds_mono (fun j hj => hV2 j hj) hoid), ?_⟩
        cases ob with
        | box cs => simp only [Ob.ren, obIds]; rw [allL_ren]; exact allL_mono (fun j hj => hdef' j hj) hoid
        | fo e pre cs post => simp only [Ob.ren, obIds]; rw [allL_ren]; exact allL_mono (fun j hj => hdef' j hj) hoid
        | vw sz base off n => exact hdef' base hoid
        | _ => trivial
      · obtain ⟨k, hk, rfl⟩ := hid
        have h1 := howout hk hb
        refine ⟨hho.lt k b h1, hho.nF k b h1, ?_⟩
        rcases hon k b h1 with h2 | ⟨k', h2⟩
        · exact .inl h2
        · exact .inr ⟨ρ k', ⟨k', (hkeep k' (owns_def h2)).2, rfl⟩, howin h2⟩
      · obtain ⟨k, hk, rfl⟩ := hid
        obtain ⟨k', hk', rfl⟩ := hid'
        rw [hho.apart k k' b (howout hk hb) (howout hk' hb')]
    have hput := hst.putd hd (v := v) (r := r.ren ρ) (RepA.ren ρ r (A.all_mono (fun k hk => hV2 k hk) hrd) hrv) ((A.all_ren _ ρ r).2 (A.all_mono (fun k hk => hdef' k hk) hrd)) (σ.nx + (renH ρ hout).length)
    exact hK F' V2 B2 _ _ hput
theorem allL_app {D : Nat → Prop} : ∀ {l l' : List A}, allL D l → allL D l' → allL D (l ++ l')
  | [], _, _, h => h
  | a :: l, l', h, h' => by
    simp only [allL, List.cons_append] at *
    exact ⟨h.1, allL_app h.2 h'⟩
/-- A call to which rows are lent. -/
theorem val_callB {n : Nat} {o : Oper} (hd : ∀ d, o.dst = some d → d < n) {σ : St} {c : Call} {f : Operand} (ho : o.op = .call c) (hc : c.callee = .value f) {g : Nat} {caps as : List A} (hf : ev σ f = .fn g caps) {hout : Hp} {r : A} {nx : Nat} (hret : Ret P g as [] r hout)
    (hargs : leL (lent (get σ.hp)) id (c.args.toList.map (ev σ) ++ caps) as) (hfr : ffA r) (hfh : ffH hout) (hnw : newAll (get σ.hp) 0 nx hout) (has : allL (fun _ => False) as) :
    Val P n o σ (σ.upd o.dst (r.ren (renId [] nx)) (renH (renId [] nx) hout)) := by
  intro w0 L0 F0 F V B a w hs K Q hK
  have hρ : ∀ k, renId [] nx k = nx + k := fun k => by rw [renId_ge (by simp)]; simp
  generalize hρ0 : renId [] nx = ρ at *
  have hnone : ∀ k, Def hout k → get σ.hp (ρ k) = none := fun k hk => by
    obtain ⟨ok, hk⟩ := Option.isSome_iff_exists.1 hk
    rcases newAll_get hnw hk with h1 | h1
    · omega
    · rw [hρ]; exact h1
  have hinj : ∀ {j k}, ρ j = ρ k → j = k := fun {j k} e => by rw [hρ, hρ] at e; omega
  let F1 : Nat → Prop := fun b => F b ∨ ∃ id, owns σ.hp V B id b
  have hF1 : ∀ b, F b → F1 b := fun b hb => .inl hb
  have hF1lt : ∀ b, F1 b → b < w.heap.size := fun b hb => by
    rcases hb with hb | ⟨id, hb⟩
    · exact hs.F_lt b hb
    · exact hs.hp.lt id b hb
  have hlen : ∀ id e xs, lent (get σ.hp) id = some (.fz e xs) → RepC F1 w (V id) (.sl e xs) := fun id e xs hl => by
    unfold lent at hl
    have hrw : ∀ e xs, (get σ.hp id = some (.row e xs) ∨ get σ.hp id = some (.dp e xs)) → RepC F1 w (V id) (.sl e xs) := fun e xs hg => row_rep (hs.hp.ob id) hg hF1 fun b hb => .inr ⟨id, hb⟩
    split at hl
    · rename_i e' xs' hg; cases hl; exact hrw _ _ (.inl hg)
    · rename_i e' xs' hg; cases hl; exact hrw _ _ (.inr hg)
    · have hob := hs.hp.ob id _ hl
      cases hob with | fz _ _ h => exact h.move hF1 (fun _ _ => rfl)
  have hls : ∀ k, Def σ.hp k → (lent (get σ.hp) k).isSome = true := fun k hk => by
    unfold lent
    split
    · rfl
    · rfl
    · exact hk
  have hrf := hs.rep f
  have hif := hs.repIds f
  rw [hf] at hrf hif
  generalize hfv : a.eval f = fv at hrf
  cases hrf with
  | fn _ hcaps =>
    rename_i cus
    have hall := (evs_rep hs c.args.toList).1.append hcaps
    have hids : allL (Def σ.hp) (c.args.toList.map (ev σ) ++ caps) := by
      simp only [A.all] at hif
      exact allL_app (evs_rep hs c.args.toList).2 hif
    have hrun := run_enter (P := P) hret.1 (n := n) ho hc hfv (w := w)
    have hall1 := leL_rep hlen as (hall.move hF1 (fun _ _ => rfl) (allL_mono (fun _ _ => rfl) hids)) (allL_mono hls hids) hargs
    have hVN1 : ∀ k, (VN (lent (get σ.hp)) V id k).oneCell' = true := fun k => by
      unfold VN
      split
      · rfl
      · exact hs.V1 _
    have hcall := hret.2 F1 (VN (lent (get σ.hp)) V id) B w _ hF1lt hVN1 ⟨fun id o hg => by simp [get] at hg, fun id o hg => by simp [get] at hg, fun id b hb => by simp [owns, get] at hb, fun id b hb => by simp [owns, get] at hb, fun id id' b hb => by simp [owns, get] at hb⟩ hall1 (allL_mono (fun _ h => h.elim) has)
    unfold Oper.wp
    rw [hrun]
    simp only [Oper.upon]
    have hargsv : (c.args.toList.map a.eval ++ cus).toArray = c.args.map a.eval ++ cus.toArray := by
      apply Array.toList_inj.1
      simp
    rw [hargsv] at hcall
    refine Calls.mono hcall fun e w'' he => ?_
    obtain ⟨v, F', V', B', rfl, hrv, hrd, hho, hv1, _, _, _, _, hon, hfw⟩ := he
    simp only
    classical
    let V2 : Nat → Value := fun id => if nx ≤ id ∧ Def hout (id - nx) then V' (id - nx) else V id
    let B2 : Nat → List Nat := fun id => if nx ≤ id ∧ Def hout (id - nx) then B' (id - nx) else B id
    have hV2 : ∀ k, Def hout k → V2 (ρ k) = V' k := fun k hk => by
      show (if _ then _ else _) = _
      rw [hρ, Nat.add_sub_cancel_left, if_pos ⟨by omega, hk⟩]
    have hB2 : ∀ k, Def hout k → B2 (ρ k) = B' k := fun k hk => by
      show (if _ then _ else _) = _
      rw [hρ, Nat.add_sub_cancel_left, if_pos ⟨by omega, hk⟩]
    have hV2n : ∀ id, Def σ.hp id → V2 id = V id := fun id hid => by
      show (if _ then _ else _) = _
      rw [if_neg]
      rintro ⟨h1, h2⟩
      have := hnone _ h2
      rw [hρ, Nat.add_sub_cancel' h1] at this
      unfold Def at hid; rw [this] at hid; cases hid
    have hget : ∀ k, Def hout k → get (renH ρ hout ++ σ.hp) (ρ k) = (get hout k).map (Ob.ren ρ) := fun k hk => by
      rw [get_append, renH_get (fun j hj e => hinj e)]
      obtain ⟨o, ho⟩ := Option.isSome_iff_exists.1 hk
      rw [ho]; rfl
    have hgetn : ∀ id, ¬ (nx ≤ id ∧ Def hout (id - nx)) → get (renH ρ hout ++ σ.hp) id = get σ.hp id := fun id h => by
      rw [get_append, renH_none (fun k hk e => h (by rw [hρ] at e; subst e; exact ⟨by omega, by rw [Nat.add_sub_cancel_left]; exact hk⟩))]
    have hdef' : ∀ k, Def hout k → Def (renH ρ hout ++ σ.hp) (ρ k) := fun k hk => by
      unfold Def; rw [hget k hk]
      obtain ⟨o, ho⟩ := Option.isSome_iff_exists.1 hk
      rw [ho]; rfl
    have hform : ∀ {id}, (nx ≤ id ∧ Def hout (id - nx)) → ∃ k, Def hout k ∧ id = ρ k := fun {id} h => ⟨id - nx, h.2, by rw [hρ, Nat.add_sub_cancel' h.1]⟩
    have howout : ∀ {k b}, Def hout k → owns (renH ρ hout ++ σ.hp) V2 B2 (ρ k) b → owns hout V' B' k b := fun {k b} hk h => by
      unfold owns at h ⊢
      rw [hget k hk, hV2 k hk, hB2 k hk] at h
      obtain ⟨ob, hob⟩ := Option.isSome_iff_exists.1 hk
      rw [hob] at h ⊢
      cases ob <;> simp only [Option.map_some, Ob.ren] at h <;> exact h
    have hst : Sim n w0 L0 F0 F V2 B2 { σ with hp := renH ρ hout ++ σ.hp } a w'' := by
      refine hs.step (fun id => nx ≤ id ∧ Def hout (id - nx)) hfw.os hfw.tape hfw.output (fun b hb _ => hfw.old b hb (fun ⟨k, hk⟩ => by simp [owns, get] at hk)) hfw.size hV2n (fun id h _ => if_neg h) (fun _ h => h) (fun b hb => .inl hb) (fun b hb => Nat.lt_of_lt_of_le (hs.F_lt b hb) hfw.size) (fun id => ?_) hgetn (fun id hid => ?_) (fun id o hid ho => ?_) (fun id b hid hb => ?_) (fun id id' b hid hid' hb hb' => ?_)
      · show (if _ then _ else _ : Value).oneCell' = true
        split
        · exact hv1 _
        · exact hs.V1 _
      · by_cases h : nx ≤ id ∧ Def hout (id - nx)
        · obtain ⟨k, hk, rfl⟩ := hform h; exact hdef' k hk
        · unfold Def; rw [hgetn id h]; exact hid
      · obtain ⟨k, hk, rfl⟩ := hform hid
        rw [hget k hk] at ho
        obtain ⟨ob, hob⟩ := Option.isSome_iff_exists.1 hk
        rw [hob] at ho
        simp only [Option.map_some, Option.some.injEq] at ho
        subst ho
        have h1 := hho.ob k ob hob
        rcases ffH_get hfh hob with ⟨e, xs, rfl⟩ | rfl | ⟨e, xs, rfl, hfl⟩
        · cases h1 with | dp _ _ h2 => exact ⟨.dp e xs (by rw [hV2 k hk, hB2 k hk]; exact h2), trivial⟩
        · exact ⟨.gone, trivial⟩
        · cases h1 with | row _ _ us ho hr hb => exact ⟨.row e xs us (by rw [hV2 k hk]; exact ho) ((own_flats hfl hr).rep fun b hb => by simp at hb) hb, trivial⟩
      · obtain ⟨k, hk, rfl⟩ := hform hid
        have h1 := howout hk hb
        have h3 : w.heap.size ≤ b := by
          rcases hon k b h1 with h2 | ⟨k', h2⟩
          · exact h2
          · simp [owns, get] at h2
        exact ⟨hho.lt k b h1, fun hF => absurd (hs.F_lt b hF) (by omega), .inl h3⟩
      · obtain ⟨k, hk, rfl⟩ := hform hid
        obtain ⟨k', hk', rfl⟩ := hform hid'
        rw [hho.apart k k' b (howout hk hb) (howout hk' hb')]
    have hput := hst.putd hd (v := v) (r := r.ren ρ) (RepA.ren ρ r (A.all_mono (fun k hk => hV2 k hk) hrd) (ff_rep r hfr hrv)) ((A.all_ren _ ρ r).2 (A.all_mono (fun k hk => hdef' k hk) hrd)) (σ.nx + (renH ρ hout).length)
    exact hK F V2 B2 _ _ hput
end Go.Proofs.YthbpdhppelaihaaGreat
