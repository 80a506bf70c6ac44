/- ONE OPERATION: op_sound. Conditions: none. -/
import Derived.Test.YthbpdhppelaihaaGreatGV
set_option linter.unusedVariables false
set_option linter.unusedSimpArgs false
namespace Go.Proofs.YthbpdhppelaihaaGreat
open Go.RowKit
variable {P : Program} {T : List (Nat × TI)}

mutual
theorem leA_congr {h h' : Nat → Option Ob} : ∀ (a' : A) {a : A}, a'.all (fun _ => False) → (∀ k ∈ rwsA a, h k = h' k) → leA h' id a a' → leA h id a a'
  | .un, a, _, _, hl => by unfold leA; trivial
  | .c c', a, _, hh, hl => by
    unfold leA at hl ⊢
    cases a <;> try exact hl
    case rw k => simp only [] at hl ⊢; rw [hh k (by simp [rwsA])]; exact hl
  | .kb b', a, _, _, hl => by unfold leA at hl ⊢; exact hl
  | .ag l', a, hf, hh, hl => by
    unfold leA at hl ⊢
    cases a <;> try exact hl
    case ag l => exact leL_congr l' (by simpa only [A.all] using hf) (fun k hk => hh k (by simpa only [rwsA] using hk)) hl
  | .tp l', a, hf, hh, hl => by
    unfold leA at hl ⊢
    cases a <;> try exact hl
    case tp l => exact leL_congr l' (by simpa only [A.all] using hf) (fun k hk => hh k (by simpa only [rwsA] using hk)) hl
  | .nl, a, _, _, hl => by unfold leA at hl ⊢; exact hl
  | .pt i off, a, hf, _, hl => by simp only [A.all] at hf
  | .el e x off, a, _, _, hl => by unfold leA at hl ⊢; exact hl
  | .rw i, a, hf, hh, hl => by simp only [A.all] at hf
  | .re sz i j off, a, hf, _, hl => by simp only [A.all] at hf
  | .fn f l, a, _, _, hl => by unfold leA at hl ⊢; exact hl
theorem leL_congr {h h' : Nat → Option Ob} : ∀ (l' : List A) {l : List A}, allL (fun _ => False) l' → (∀ k ∈ rwsL l, h k = h' k) → leL h' id l l' → leL h id l l'
  | [], l, _, _, hl => by unfold leL at hl ⊢; exact hl
  | a' :: l', l, hf, hh, hl => by
    simp only [allL] at hf
    unfold leL at hl ⊢
    cases l with
    | nil => exact hl
    | cons a l => exact ⟨leA_congr a' hf.1 (fun k hk => hh k (by simp only [rwsL]; exact List.mem_append_left _ hk)) hl.1, leL_congr l' hf.2 (fun k hk => hh k (by simp only [rwsL]; exact List.mem_append_right _ hk)) hl.2⟩
end
theorem keys_app : ∀ l l' : Hp, keys (l ++ l') = keys l ++ keys l'
  | [], _ => rfl
  | (k, o) :: l, l' => by simp only [List.cons_append, keys]; rw [keys_app l l']
theorem idsL_map : ∀ l : List Nat, idsL (l.map .rw) = l
  | [] => rfl
  | k :: l => by simp only [List.map_cons, idsL]; rw [idsL_map l]
/-- A call for which the rows that are handed over are frozen. -/
theorem val_callF {n : Nat} {o : Oper} (hd : ∀ d, o.dst = some d → d < n) {σ : St} {c : Call} {f : Operand} (ho : o.op = .call c) (hc : c.callee = .value f) {g : Nat} {caps as : List A} (hf : ev σ f = .fn g caps) {hout : Hp} {r : A} {nx : Nat} (hret : Ret P g as [] r hout)
    (hargs : leL (lent (get σ.hp)) id (c.args.toList.map (ev σ) ++ caps) as) (hnw : newAll (get σ.hp) 0 nx hout) (has : allL (fun _ => False) as) :
    Val P n o σ (σ.upd o.dst (r.ren (renId [] nx)) (renH (renId [] nx) hout ++ frz (get σ.hp) ((rwsL (c.args.toList.map (ev σ) ++ caps)).map .rw))) := by
  intro w0 L0 F0 F V B a w hs K Q hK
  have hρ : ∀ k, renId [] nx k = nx + k := fun k => by rw [renId_ge (by simp)]; simp
  generalize hρ0 : renId [] nx = ρ at *
  generalize hfl : frz (get σ.hp) ((rwsL (c.args.toList.map (ev σ) ++ caps)).map .rw) = fl at *
  obtain ⟨F1, hF1, hs1⟩ := hs.freeze ((rwsL (c.args.toList.map (ev σ) ++ caps)).map .rw)
  rw [hfl] at hs1
  have hnn : ∀ k, get σ.hp k = none → get (fl ++ σ.hp) k = none := fun k hk => by
    rw [get_append]
    cases h3 : get fl k with
    | none => exact hk
    | some o => rw [← hfl] at h3; obtain ⟨e', xs', _, h4⟩ := frz_spec h3; rw [hk] at h4; rcases h4 with h4 | h4 <;> cases h4
  have hnone : ∀ k, Def hout k → get (fl ++ σ.hp) (ρ k) = none := fun k hk => by
    obtain ⟨ok, hk⟩ := Option.isSome_iff_exists.1 hk
    rcases newAll_get hnw hk with h1 | h1
    · omega
    · rw [hρ]; exact hnn _ h1
  have hinj : ∀ {j k}, ρ j = ρ k → j = k := fun {j k} e => by rw [hρ, hρ] at e; omega
  have hlent : ∀ k ∈ rwsL (c.args.toList.map (ev σ) ++ caps), get (fl ++ σ.hp) k = lent (get σ.hp) k := fun k hk => by
    have hmem : A.rw k ∈ (rwsL (c.args.toList.map (ev σ) ++ caps)).map A.rw := List.mem_map_of_mem hk
    rw [get_append]
    unfold lent
    split
    · rename_i o h3
      rw [← hfl] at h3
      obtain ⟨e', xs', h5, h4⟩ := frz_spec h3
      rcases h4 with h4 | h4 <;> rw [h4] <;> rw [h5]
    · rename_i h3
      rw [← hfl] at h3
      split
      · rename_i e xs h4; rw [frz_mem (.inl h4) hmem] at h3; cases h3
      · rename_i e xs h4; rw [frz_mem (.inr h4) hmem] at h3; cases h3
      · rfl
  have hargs1 : leL (get (fl ++ σ.hp)) id (c.args.toList.map (ev σ) ++ caps) as := leL_congr as has hlent hargs
  have hlen : ∀ id e xs, get (fl ++ σ.hp) id = some (.fz e xs) → RepC F1 w (V id) (.sl e xs) := fun id e xs hl => by
    have hob := hs1.hp.ob id _ hl
    cases hob with | fz _ _ h => exact h
  have hls : ∀ k, Def σ.hp k → (get (fl ++ σ.hp) k).isSome = true := fun k hk => by
    rw [get_append]
    split
    · rfl
    · exact hk
  have hrf := hs.rep f
  have hif := hs.repIds f
  rw [hf] at hrf hif
  generalize hfv : a.eval f = fv at hrf
  cases hrf with
  | fn _ hcaps =>
    rename_i cus
    have hall := (evs_rep hs c.args.toList).1.append hcaps
    have hids : allL (Def σ.hp) (c.args.toList.map (ev σ) ++ caps) := by
      simp only [A.all] at hif
      exact allL_app (evs_rep hs c.args.toList).2 hif
    have hrun := run_enter (P := P) hret.1 (n := n) ho hc hfv (w := w)
    have hall1 := leL_rep hlen as (hall.move hF1 (fun _ _ => rfl) (allL_mono (fun _ _ => rfl) hids)) (allL_mono hls hids) hargs1
    have hVN1 : ∀ k, (VN (get (fl ++ σ.hp)) V id k).oneCell' = true := fun k => by
      unfold VN
      split
      · rfl
      · exact hs.V1 _
    have hcall := hret.2 F1 (VN (get (fl ++ σ.hp)) V id) B w _ hs1.F_lt hVN1 ⟨fun id o hg => by simp [get] at hg, fun id o hg => by simp [get] at hg, fun id b hb => by simp [owns, get] at hb, fun id b hb => by simp [owns, get] at hb, fun id id' b hb => by simp [owns, get] at hb⟩ hall1 (allL_mono (fun _ h => h.elim) has)
    unfold Oper.wp
    rw [hrun]
    simp only [Oper.upon]
    have hargsv : (c.args.toList.map a.eval ++ cus).toArray = c.args.map a.eval ++ cus.toArray := by
      apply Array.toList_inj.1
      simp
    rw [hargsv] at hcall
    refine Calls.mono hcall fun e w'' he => ?_
    obtain ⟨v, F', V', B', rfl, hrv, hrd, hho, hv1, _, hFF, hFn, hFl, hon, hfw⟩ := he
    simp only
    classical
    let V2 : Nat → Value := fun id => if nx ≤ id ∧ Def hout (id - nx) then V' (id - nx) else V id
    let B2 : Nat → List Nat := fun id => if nx ≤ id ∧ Def hout (id - nx) then B' (id - nx) else B id
    have hV2 : ∀ k, Def hout k → V2 (ρ k) = V' k := fun k hk => by
      show (if _ then _ else _) = _
      rw [hρ, Nat.add_sub_cancel_left, if_pos ⟨by omega, hk⟩]
    have hB2 : ∀ k, Def hout k → B2 (ρ k) = B' k := fun k hk => by
      show (if _ then _ else _) = _
      rw [hρ, Nat.add_sub_cancel_left, if_pos ⟨by omega, hk⟩]
    have hV2n : ∀ id, Def (fl ++ σ.hp) id → V2 id = V id := fun id hid => by
      show (if _ then _ else _) = _
      rw [if_neg]
      rintro ⟨h1, h2⟩
      have := hnone _ h2
      rw [hρ, Nat.add_sub_cancel' h1] at this
      unfold Def at hid; rw [this] at hid; cases hid
    have hget : ∀ k, Def hout k → get (renH ρ hout ++ (fl ++ σ.hp)) (ρ k) = (get hout k).map (Ob.ren ρ) := fun k hk => by
      rw [get_append, renH_get (fun j hj e => hinj e)]
      obtain ⟨o, ho⟩ := Option.isSome_iff_exists.1 hk
      rw [ho]; rfl
    have hgetn : ∀ id, ¬ (nx ≤ id ∧ Def hout (id - nx)) → get (renH ρ hout ++ (fl ++ σ.hp)) id = get (fl ++ σ.hp) id := fun id h => by
      rw [get_append, renH_none (fun k hk e => h (by rw [hρ] at e; subst e; exact ⟨by omega, by rw [Nat.add_sub_cancel_left]; exact hk⟩))]
    have hdef' : ∀ k, Def hout k → Def (renH ρ hout ++ (fl ++ σ.hp)) (ρ k) := fun k hk => by
      unfold Def; rw [hget k hk]
      obtain ⟨o, ho⟩ := Option.isSome_iff_exists.1 hk
      rw [ho]; rfl
    have hform : ∀ {id}, (nx ≤ id ∧ Def hout (id - nx)) → ∃ k, Def hout k ∧ id = ρ k := fun {id} h => ⟨id - nx, h.2, by rw [hρ, Nat.add_sub_cancel' h.1]⟩
    have howout : ∀ {k b}, Def hout k → owns (renH ρ hout ++ (fl ++ σ.hp)) V2 B2 (ρ k) b → owns hout V' B' k b := fun {k b} hk h => by
      unfold owns at h ⊢
      rw [hget k hk, hV2 k hk, hB2 k hk] at h
      obtain ⟨ob, hob⟩ := Option.isSome_iff_exists.1 hk
      rw [hob] at h ⊢
      cases ob <;> simp only [Option.map_some, Ob.ren] at h <;> exact h
    have hst : Sim n w0 L0 F0 F' V2 B2 { σ with hp := renH ρ hout ++ (fl ++ σ.hp) } a w'' := by
      refine hs1.step (fun id => nx ≤ id ∧ Def hout (id - nx)) hfw.os hfw.tape hfw.output (fun b hb _ => hfw.old b hb (fun ⟨k, hk⟩ => by simp [owns, get] at hk)) hfw.size hV2n (fun id h _ => if_neg h) hFF (fun b hb => ?_) hFl (fun id => ?_) hgetn (fun id hid => ?_) (fun id o hid ho => ?_) (fun id b hid hb => ?_) (fun id id' b hid hid' hb hb' => ?_)
      · rcases hFn b hb with h1 | h1 | ⟨k, h1⟩
        · exact .inl h1
        · exact .inr (.inl h1)
        · simp [owns, get] at h1
      · show (if _ then _ else _ : Value).oneCell' = true
        split
        · exact hv1 _
        · exact hs.V1 _
      · by_cases h : nx ≤ id ∧ Def hout (id - nx)
        · obtain ⟨k, hk, rfl⟩ := hform h; exact hdef' k hk
        · unfold Def; rw [hgetn id h]; exact hid
      · obtain ⟨k, hk, rfl⟩ := hform hid
        rw [hget k hk] at ho
        obtain ⟨ob, hob⟩ := Option.isSome_iff_exists.1 hk
        rw [hob] at ho
        simp only [Option.map_some, Option.some.injEq] at ho
        subst ho
        have hoid := hho.ids k ob hob
        refine ⟨(hho.ob k ob hob).ren ρ (hV2 k hk) (hB2 k hk) (obIds_mono (fun j hj => hV2 j hj) hoid), ?_⟩
        cases ob with
        | box cs => simp only [Ob.ren, obIds]; rw [allL_ren]; exact allL_mono (fun j hj => hdef' j hj) hoid
        | fo e pre cs post => simp only [Ob.ren, obIds]; rw [allL_ren]; exact allL_mono (fun j hj => hdef' j hj) hoid
        | vw sz base off n => exact hdef' base hoid
        | _ => trivial
      · obtain ⟨k, hk, rfl⟩ := hform hid
        have h1 := howout hk hb
        have h3 : w.heap.size ≤ b := by
          rcases hon k b h1 with h2 | ⟨k', h2⟩
          · exact h2
          · simp [owns, get] at h2
        exact ⟨hho.lt k b h1, hho.nF k b h1, .inl h3⟩
      · obtain ⟨k, hk, rfl⟩ := hform hid
        obtain ⟨k', hk', rfl⟩ := hform hid'
        rw [hho.apart k k' b (howout hk hb) (howout hk' hb')]
    have hput := hst.putd hd (v := v) (r := r.ren ρ) (RepA.ren ρ r (A.all_mono (fun k hk => hV2 k hk) hrd) hrv) ((A.all_ren _ ρ r).2 (A.all_mono (fun k hk => hdef' k hk) hrd)) (σ.nx + (renH ρ hout ++ fl).length)
    refine hK F' V2 B2 _ _ (hput.congr (fun t => rfl) (fun k => ?_))
    show get ((renH ρ hout ++ fl) ++ σ.hp) k = get (renH ρ hout ++ (fl ++ σ.hp)) k
    rw [List.append_assoc]
variable (hT : ∀ t i, get T t = some i → TOk P t i)
section
variable {n : Nat} {o : Oper} (hd : ∀ d, o.dst = some d → d < n) {σ0 : St} {K : A → Hp → List Nat → Prop}
include hd
theorem snd_call {c : Call} {f : Operand} (ho : o.op = .call c) (hc : c.callee = .value f) {g : Nat} {caps : List A} (hf : ev σ0 f = .fn g caps) (hv : callA P (get σ0.hp) σ0.nx g (c.args.toList.map (ev σ0) ++ caps) K) : ∃ r dh rd, K r dh rd ∧ Snd P n o σ0 r dh rd := by
  unfold callA at hv
  have hops : ∀ σ rd dh, Agr σ σ0 o.op rd dh → ev σ f = ev σ0 f ∧ c.args.toList.map (ev σ) = c.args.toList.map (ev σ0) := fun σ rd dh hs => by
    have h3 := hs.1
    rw [ho] at h3
    exact ⟨h3 f (by simp [Op.operands, Call.operands, hc]), List.map_congr_left fun x hx => h3 x (by
      simp [Op.operands, Call.operands, hc]
      exact .inr (by simpa using hx))⟩
  rcases hv with hv | hv | hv
  rotate_left
  rotate_left
  · unfold callF at hv
    obtain ⟨as, r, hout, hret, hargs, hnw, has, hv⟩ := hv
    refine ⟨_, _, _, hv, fun σ hs => ?_⟩
    obtain ⟨hf', ha'⟩ := hops σ _ _ hs
    have hfz : frz (get σ.hp) ((rwsL (c.args.toList.map (ev σ0) ++ caps)).map .rw) = frz (get σ0.hp) ((rwsL (c.args.toList.map (ev σ0) ++ caps)).map .rw) := frz_congr fun id hid => hs.2 id (.inl (by rwa [idsL_map] at hid))
    have hw := val_callF hd ho hc (hf'.trans hf) (nx := σ0.nx) hret (by
      rw [ha']
      exact leL_congr as has (fun id hid => by unfold lent; rw [hs.2 id (.inl hid)]) hargs) (newAll_congr (ids := []) (fun id hid => hs.2 id (.inr (by rw [keys_app]; exact List.mem_append_left _ hid))) hnw) has
    rw [ha', hfz] at hw
    exact hw
  rotate_left
  · unfold callB at hv
    obtain ⟨as, r, hout, hret, hargs, hfr, hfh, hnw, has, hv⟩ := hv
    refine ⟨_, _, _, hv, fun σ hs => ?_⟩
    obtain ⟨hf', ha'⟩ := hops σ _ _ hs
    refine val_callB hd ho hc (hf'.trans hf) hret ?_ hfr hfh (newAll_congr (ids := []) (fun id hid => hs.2 id (.inr hid)) hnw) has
    rw [ha']
    exact leL_congr as has (fun id hid => by unfold lent; rw [hs.2 id (.inl hid)]) hargs
  obtain ⟨as, hin, r, hout, ids, hret, hargs, hnd, hdef, hlk, hnw, has, hoi, hv⟩ := hv
  refine ⟨_, _, _, hv, fun σ hs => ?_⟩
  have h3 := hs.1
  rw [ho] at h3
  have hf' : ev σ f = ev σ0 f := h3 f (by simp [Op.operands, Call.operands, hc])
  have ha' : c.args.toList.map (ev σ) = c.args.toList.map (ev σ0) := List.map_congr_left fun x hx => h3 x (by
    simp [Op.operands, Call.operands, hc]
    exact .inr (by simpa using hx))
  exact val_call hd ho hc (hf'.trans hf) hret (by rw [ha']; exact hargs) hnd hdef (lookAll_congr (fun id hid => hs.2 id (.inl hid)) hlk) (newAll_congr (fun id hid => hs.2 id (.inr hid)) hnw) has hoi
include hT
theorem snd_app (hR : Real n σ0) {t et : Nat} {i ie : TI} {e : Ty} {s x : Operand} {c : Call} (hi : get T t = some i) (hk : i.k = .sl e et) (hie : get T et = some ie) (hsz : ie.sz = szE e) (hby : ie.by_ = byE e) (het : et = etOf e) (hc : appCall c s x t) (ho : o.op = .call c) (hv : appA (get σ0.hp) e (ev σ0 s) (ev σ0 x) σ0.nx K) : ∃ r dh rd, K r dh rd ∧ Snd P n o σ0 r dh rd := by
  have hops : ∀ σ rd dh, Agr σ σ0 o.op rd dh → ev σ s = ev σ0 s ∧ ev σ x = ev σ0 x := fun σ rd dh hs => by
    have h3 := hs.1
    rw [ho] at h3
    unfold appCall at hc
    subst hc
    exact ⟨h3 s (by simp [Op.operands, Call.operands]), h3 x (by simp [Op.operands, Call.operands])⟩
  have hu := und_sl (hT t i hi) hk
  unfold appA at hv
  split at hv
  · rename_i idx e' ys hxd
    have hxx : ev σ0 x = .rw idx ∧ get σ0.hp idx = some (.dp e' ys) := by
      unfold isDp at hxd
      split at hxd
      · rename_i k hx
        split at hxd
        · rename_i hg; cases hxd; exact ⟨hx, hg⟩
        · cases hxd
      · cases hxd
    split at hv
    · rename_i zs hz
      unfold appD at hv
      split at hv
      · rename_i hsn
        obtain ⟨h1, hv⟩ := fresh_ok hv
        refine ⟨_, _, _, hv, fun σ hs => ?_⟩
        obtain ⟨h2, h3⟩ := hops σ _ _ hs
        have hb := real_boundD hR (x := x) (e := e') (xs := ys) (by rw [hxx.1]; simp only [isRowD, hxx.2])
        obtain ⟨rfl, _, h5⟩ := castTy_ok _ _ _ _ hz
        exact val_appD hT hd hu (hT et ie hie) hsz hby het (by rw [hs.2 σ0.nx (.inr (by simp [keys, kill]))]; exact h1) hc ho (.inl ⟨h2.trans hsn, rfl, rfl⟩) (h3.trans hxx.1) (by rw [hs.2 idx (.inr (by simp [keys, kill]))]; exact hxx.2) hz (by rw [← h5]; simpa using hb)
      · rename_i id hsn
        split at hv
        · rename_i e1 ws hg hne
          split at hv
          · rename_i xs hw
            obtain ⟨hlen, hv⟩ := hv
            obtain ⟨h1, hv⟩ := fresh_ok hv
            refine ⟨_, _, _, hv, fun σ hs => ?_⟩
            obtain ⟨h2, h3⟩ := hops σ _ _ hs
            obtain ⟨rfl, h5, h6⟩ := castTy_ok _ _ _ _ hw
            have hws : ws = xs := by
              clear hv hs
              cases e <;> simp [castTy] at hw <;> exact hw
            subst hws
            exact val_appD hT hd hu (hT et ie hie) hsz hby het (by rw [hs.2 σ0.nx (.inr (by simp [keys, kill]))]; exact h1) hc ho (.inr ⟨id, h2.trans hsn, (fun e => by subst e; simp at hne), rfl, .inl (by rw [hs.2 id (.inr (by simp [keys, kill]))]; exact hg)⟩) (h3.trans hxx.1) (by rw [hs.2 idx (.inr (by simp [keys, kill]))]; exact hxx.2) hz hlen
          · exact hv.elim
        · rename_i e1 hg hne
          split at hv
          · rename_i xs hw
            obtain ⟨h1, hv⟩ := fresh_ok hv
            refine ⟨_, _, _, hv, fun σ hs => ?_⟩
            obtain ⟨h2, h3⟩ := hops σ _ _ hs
            have hb := real_boundD hR (x := x) (e := e') (xs := ys) (by rw [hxx.1]; simp only [isRowD, hxx.2])
            obtain ⟨rfl, _, h6⟩ := castTy_ok _ _ _ _ hw
            obtain ⟨rfl, _, h5⟩ := castTy_ok _ _ _ _ hz
            exact val_appD hT hd hu (hT et ie hie) hsz hby het (by rw [hs.2 σ0.nx (.inr (by simp [keys, kill]))]; exact h1) hc ho (.inr ⟨id, h2.trans hsn, (fun e => by subst e; simp at hne), rfl, .inr ⟨by rw [hs.2 id (.inr (by simp [keys, kill]))]; exact hg, rfl⟩⟩) (h3.trans hxx.1) (by rw [hs.2 idx (.inr (by simp [keys, kill]))]; exact hxx.2) hz (by rw [← h5]; simpa using hb)
          · exact hv.elim
        · exact hv.elim
      · exact hv.elim
    · exact hv.elim
  split at hv
  · rename_i e' ys hx
    split at hv
    · rename_i hsn
      split at hv
      · rename_i zs hz
        obtain ⟨h1, hv⟩ := fresh_ok hv
        refine ⟨_, _, _, hv, fun σ hs => ?_⟩
        obtain ⟨h2, h3⟩ := hops σ _ _ hs
        exact val_app_nl hT hd hu (hT et ie hie) hsz hby het (by rw [hs.2 σ0.nx (.inr (by simp [keys]))]; exact h1) hc ho (h2.trans hsn) (h := get σ0.hp) (by rw [h3]; exact fun id hid => hs.2 id (.inl hid)) (by rw [h3]; exact hx) hz
      · exact hv.elim
    · rename_i id hsn
      split at hv
      · rename_i e1 ws hg
        split at hv
        · rename_i xs zs hw hz
          obtain ⟨hlen, hv⟩ := hv
          obtain ⟨h1, hv⟩ := fresh_ok hv
          refine ⟨_, _, _, hv, fun σ hs => ?_⟩
          obtain ⟨h2, h3⟩ := hops σ _ _ hs
          obtain ⟨rfl, h5, h6⟩ := castTy_ok _ _ _ _ hw
          have hws : ws = xs := by
            clear hv hs
            cases e <;> simp [castTy] at hw <;> exact hw
          subst hws
          exact val_app_rw hT hd hu (hT et ie hie) hsz hby het (by rw [hs.2 σ0.nx (.inr (by simp [keys]))]; exact h1) hc ho (h2.trans hsn) (by rw [hs.2 id (.inr (by simp [keys]))]; exact hg) (h := get σ0.hp) (by rw [h3]; exact fun id hid => hs.2 id (.inl hid)) (by rw [h3]; exact hx) hz hlen
        · exact hv.elim
      · exact hv.elim
    · exact hv.elim
  · unfold appV at hv
    split at hv
    · rename_i i z b o1 n1 j z' b' o2 n2 hvs hvx
      split at hv
      · rename_i e1 ws hb hz1 hz2 hg
        obtain rfl := Nat.eq_of_beq_eq_true hb
        obtain rfl := Nat.eq_of_beq_eq_true hz1
        obtain rfl := Nat.eq_of_beq_eq_true hz2
        split at hv
        · rename_i xs hw
          obtain ⟨⟨h4, h5, h6, h7⟩, hv⟩ := hv
          subst h4
          obtain ⟨h1, hv⟩ := fresh_ok hv
          refine ⟨_, _, _, hv, fun σ hs => ?_⟩
          obtain ⟨h2, h3⟩ := hops σ _ _ hs
          obtain ⟨rfl, h8, h9⟩ := castTy_ok _ _ _ _ hw
          have hws : ws = xs := by
            clear hv hs
            cases e <;> simp [castTy] at hw <;> exact hw
          subst hws
          obtain ⟨hsi, hgi⟩ := isVw_some hvs
          obtain ⟨hxj, hgj⟩ := isVw_some hvx
          unfold appCall at hc
          subst hc
          exact val_appV hT hd hu (hT et ie hie) hsz het ho (h2.trans hsi) (by rw [hs.2 i (.inl (by simp))]; exact hgi) (h3.trans hxj) (by rw [hs.2 j (.inl (by simp))]; exact hgj) (by rw [hs.2 b (.inl (by simp))]; exact hg) (by rw [hs.2 σ0.nx (.inr (by simp [keys]))]; exact h1) h5 h6 h7
        · exact hv.elim
      · exact hv.elim
    · exact hv.elim
theorem snd_appZ {t tn et : Nat} {i i' ie : TI} {e : Ty} {x y : Operand} (hi : get T t = some i) (hk : i.k = .sl e et) (hi' : get T tn = some i') (hk' : i'.k = .int .i64) (hie : get T et = some ie) (hsz : ie.sz = szE e) (hby : ie.by_ = byE e) (het : et = etOf e) {cs : List C} (hz : toCs (fun _ => none) (cells e (dflt e)) ie.z = some cs) (hcs : cs = cells e (dflt e)) (ho : o.op = .call { callee := .builtin .append, args := #[x, y], argTypes := #[t, tn] })
    (hv : appZ (get σ0.hp) e (ev σ0 x) (ev σ0 y) σ0.nx K) : ∃ r dh rd, K r dh rd ∧ Snd P n o σ0 r dh rd := by
  have hops : ∀ σ rd dh, Agr σ σ0 o.op rd dh → ev σ x = ev σ0 x ∧ ev σ y = ev σ0 y := fun σ rd dh hs => by
    have h3 := hs.1
    rw [ho] at h3
    exact ⟨h3 x (by simp [Op.operands, Call.operands]), h3 y (by simp [Op.operands, Call.operands])⟩
  unfold appZ at hv
  split at hv
  · rename_i m hx hy
    obtain ⟨⟨h4, h5⟩, hv⟩ := hv
    obtain ⟨h1, hv⟩ := fresh_ok hv
    refine ⟨_, _, _, hv, fun σ hs => ?_⟩
    obtain ⟨h2, h3⟩ := hops σ _ _ hs
    subst hcs
    have htn := (hT tn i' hi').desc
    rw [hk'] at htn
    exact val_appZ hT hd (und_sl (hT t i hi) hk) (hT et ie hie) hsz hby het (by rw [hs.2 σ0.nx (.inr (by simp [keys]))]; exact h1) htn ho hz (h2.trans hx) (h3.trans hy) h4 h5
  · exact hv.elim
omit hT in
theorem snd_capnl {t et : Nat} {x : Operand} {c : Call} (hu : P.underlying t = some (.slice et)) (hc : c.callee = .builtin .cap) (hca : c.args.toList = [x]) (hct : c.argTypes.toList = [t]) (ho : o.op = .call c) (hx : ev σ0 x = .nl) (hv : K (.c (.int .i64 0)) [] []) : ∃ r dh rd, K r dh rd ∧ Snd P n o σ0 r dh rd := by
  refine ⟨_, _, _, hv, snd_of fun σ h3 _ => val_pure hd fun {w0 L0 F0 F V B a w} hs => ?_⟩
  rw [ho] at h3
  obtain ⟨callee, args, argTypes⟩ := c
  obtain rfl : args = #[x] := by cases args; simp_all
  obtain rfl : argTypes = #[t] := by cases argTypes; simp_all
  simp only at hc
  subst hc
  have hx3 := h3 x (by simp [Op.operands, Call.operands])
  have hr := hs.rep x
  rw [hx3, hx] at hr
  generalize hpv : a.eval x = pv at hr
  cases hr
  exact ⟨⟨.int .i64 0, by simp [execOp, ho, resolve, invoke, builtin, hpv, Builtin.cap_, run_underlying hu, goInt], .c (.int _ _)⟩, by simp [A.all]⟩
theorem snd_clear {t et : Nat} {i ie : TI} {e : Ty} {x : Operand} {c : Call} (hi : get T t = some i) (hk : i.k = .sl e et) (hie : get T et = some ie) (hsz : ie.sz = szE e) (het : et = etOf e) {cs : List C} (hz : toCs (fun _ => none) (cells e (dflt e)) ie.z = some cs) (hcs : cs = cells e (dflt e)) (hc : c.callee = .builtin .clear) (hca : c.args.toList = [x]) (hct : c.argTypes.toList = [t]) (ho : o.op = .call c)
    (hv : clearA (get σ0.hp) e (ev σ0 x) K) : ∃ r dh rd, K r dh rd ∧ Snd P n o σ0 r dh rd := by
  obtain ⟨callee, args, argTypes⟩ := c
  obtain rfl : args = #[x] := by cases args; simp_all
  obtain rfl : argTypes = #[t] := by cases argTypes; simp_all
  simp only at hc
  subst hc
  unfold clearA at hv
  split at hv
  · rename_i i0 z b o1 m hvx
    split at hv
    · rename_i e1 ws hz1 hg
      obtain rfl := Nat.eq_of_beq_eq_true hz1
      split at hv
      · rename_i xs hw
        obtain ⟨h4, hv⟩ := hv
        refine ⟨_, _, _, hv, fun σ hs => ?_⟩
        obtain ⟨rfl, h8, h9⟩ := castTy_ok _ _ _ _ hw
        have hws : ws = xs := by
          clear hv hs
          cases e <;> simp [castTy] at hw <;> exact hw
        subst hws
        subst hcs
        obtain ⟨hxj, hgj⟩ := isVw_some hvx
        have h3 := hs.1
        rw [ho] at h3
        exact val_clear hT hd (und_sl (hT t i hi) hk) (hT et ie hie) hsz het ho hz ((h3 x (by simp [Op.operands, Call.operands])).trans hxj) (by rw [hs.2 i0 (.inl (by simp))]; exact hgj) (by rw [hs.2 b (.inl (by simp))]; exact hg) h4
      · exact hv.elim
    · exact hv.elim
  · exact hv.elim
theorem snd_sliceV {t et : Nat} {i ie : TI} {e e' : Ty} (hi : get T t = some i) (hk : i.k = .sl e' et) (hie : get T et = some ie) {x : Operand} {lo hi' : Option Operand} (ho : o.op = .slice t x lo hi' none) {xs : List (El e)} {b off m : Nat} {rd : List Nat} (hb : b ∈ rd) (hg : get σ0.hp b = some (.row e xs))
    (hx : (ev σ0 x = .rw b ∧ off = 0 ∧ m = xs.length) ∨ ∃ i z, ev σ0 x = .rw i ∧ get σ0.hp i = some (.vw z b off m) ∧ i ∈ rd ∧ z = ie.sz) (hv : sliceV (get σ0.hp) ie.sz e xs.length b off m (lo.map (ev σ0)) (hi'.map (ev σ0)) σ0.nx rd K) : ∃ r dh rd, K r dh rd ∧ Snd P n o σ0 r dh rd := by
  unfold sliceV at hv
  split at hv
  · rename_i l r hsz hl hr
    have hsz := Nat.eq_of_beq_eq_true hsz
    obtain ⟨h0, hv⟩ := hv
    obtain ⟨h1, hv⟩ := fresh_ok hv
    refine ⟨_, _, _, hv, fun σ hs => ?_⟩
    have h3 := hs.1
    rw [ho] at h3
    have hx3 : ev σ x = ev σ0 x := h3 x (by simp [Op.operands])
    have hl3 : lo.map (ev σ) = lo.map (ev σ0) := by cases lo <;> simp; exact h3 _ (by simp [Op.operands])
    have hr3 : hi'.map (ev σ) = hi'.map (ev σ0) := by cases hi' <;> simp; exact h3 _ (by simp [Op.operands])
    rw [hsz]
    refine val_sliceV hT hd (und_sl (hT t i hi) hk) (hT et ie hie) hsz ho (by rw [hs.2 b (.inl hb)]; exact hg) (by rw [hs.2 σ0.nx (.inr (by simp [keys]))]; exact h1) ?_ (by rw [hl3]; exact hl) (by rw [hr3]; exact hr) h0
    rcases hx with ⟨h4, h5, h6⟩ | ⟨i, z, h4, h5, h6, h7⟩
    · exact .inl ⟨hx3.trans h4, h5, h6⟩
    · exact .inr ⟨i, hx3.trans h4, by rw [hs.2 i (.inl h6), h5, h7, hsz]⟩
  · exact hv.elim
theorem snd_sliceR {t et : Nat} {i ie : TI} {e' : Ty} (hi : get T t = some i) (hk : i.k = .sl e' et) (hie : get T et = some ie) {x : Operand} {lo hi' mx : Option Operand} (hop : o.op = .slice t x lo hi' mx) (hv : sliceR (get σ0.hp) ie.sz (ev σ0 x) (lo.map (ev σ0)) (hi'.map (ev σ0)) (mx.map (ev σ0)) fun r dh => K r dh (rdOf (ev σ0 x))) : ∃ r dh rd, K r dh rd ∧ Snd P n o σ0 r dh rd := by
  unfold sliceR at hv
  split at hv
  · rename_i e' xs hmx hr
    have hmx' : mx = none := by cases mx with | none => rfl | some y => simp at hmx
    subst hmx'
    split at hv
    · rename_i l r hsz hl hr'
      exact snd_slice_row hT hd hi hk hie (Nat.eq_of_beq_eq_true hsz) hop hr hl hr' hv.1 hv.2
    · exact hv.elim
  · exact hv.elim
theorem snd_sliceX {t et : Nat} {i ie : TI} {e' : Ty} (hi : get T t = some i) (hk : i.k = .sl e' et) (hie : get T et = some ie) {x : Operand} {lo hi' mx : Option Operand} (hop : o.op = .slice t x lo hi' mx) (hv : sliceX (get σ0.hp) ie.sz (ev σ0 x) (lo.map (ev σ0)) (hi'.map (ev σ0)) (mx.map (ev σ0)) σ0.nx K) : ∃ r dh rd, K r dh rd ∧ Snd P n o σ0 r dh rd := by
  unfold sliceX at hv
  split at hv
  · rename_i id hx
    split at hv
    · rename_i e xs hg
      split at hv
      · rename_i hmx
        have hmx' : mx = none := by cases mx with | none => rfl | some y => simp at hmx
        subst hmx'
        rcases hv with hv | hv
        · exact snd_sliceR hT hd hi hk hie hop (by rw [hx]; exact hv)
        · exact snd_sliceV hT hd hi hk hie hop (by simp) hg (.inl ⟨hx, rfl, rfl⟩) hv
      · rename_i q hmx
        split at hv
        · rename_i l k r k' m hl hr
          obtain ⟨⟨h01, h02, h03, h04⟩, hv⟩ := hv
          refine ⟨_, _, _, hv, snd_of fun σ h3 h4 => val_pure hd fun {w0 L0 F0 F V B a w} hs => ?_⟩
          rw [hop] at h3
          have hx3 : ev σ x = ev σ0 x := h3 x (by simp [Op.operands])
          obtain ⟨A0, c, us, h5, h6, _⟩ := isRow_rep hs (x := x) (h := get σ.hp) (fun _ _ => rfl) (e := e) (xs := xs) (by rw [hx3, hx]; simp [isRow, h4 id (by simp), hg])
          cases hi' with
          | none => simp at hr
          | some yh =>
            cases mx with
            | none => simp at hmx
            | some ym =>
              simp only [Option.map_some, Option.some.injEq] at hr hmx
              have hl3 : lo.map (ev σ) = lo.map (ev σ0) := by cases lo <;> simp; exact h3 _ (by simp [Op.operands])
              obtain ⟨ml, kl, hml, hgl⟩ := iOf_some (by rw [hl3]; exact hl) hs.rep
              have hyh := rep_int (by rw [← hr, ← h3 yh (by simp [Op.operands])]; exact hs.rep yh)
              have hym := rep_int (by rw [← hmx, ← h3 ym (by simp [Op.operands])]; exact hs.rep ym)
              have hrun : ∃ v, (Instr.sliceAt t (.slice A0 xs.length c) (ml.map fun n => .int (kl n) n) (some (.int k r)) (some (.int k' m))).run P w = .ok v w := by
                have e1 : 0 ≤ m ∧ m ≤ c := by omega
                have e2 : 0 ≤ r ∧ r ≤ m.toNat := by omega
                have e4 : r ≤ max m 0 := by omega
                cases ml with
                | none => exact ⟨_, by simp [Instr.sliceAt, Instr.slice, run_underlying (und_sl (hT t i hi) hk), Instr.sliceBounds, Instr.sliceBound, asIntOf, size_of (hT et ie hie), e1, e2, e4]; rfl⟩
                | some ll =>
                  simp only [Option.getD_some] at hgl
                  subst hgl
                  have e3 : 0 ≤ ll ∧ ll ≤ r.toNat := by omega
                  have e5 : ll ≤ max r 0 := by omega
                  exact ⟨_, by simp [Instr.sliceAt, Instr.slice, run_underlying (und_sl (hT t i hi) hk), Instr.sliceBounds, Instr.sliceBound, asIntOf, size_of (hT et ie hie), e1, e2, e3, e4, e5]; rfl⟩
              obtain ⟨vv, hrun⟩ := hrun
              exact ⟨⟨vv, by simp only [execOp, hop, hml, h5, Option.map_some, hyh, hym]; simp [hrun], .un _⟩, by simp [A.all]⟩
        · exact hv.elim
    · rename_i z b off m hg
      split at hv
      · rename_i e xs hmx hb hz
        have hmx' : mx = none := by cases mx with | none => rfl | some y => simp at hmx
        subst hmx'
        exact snd_sliceV hT hd hi hk hie hop (by simp) hb (.inr ⟨id, z, hx, hg, by simp, Nat.eq_of_beq_eq_true hz⟩) hv
      · exact hv.elim
    · exact snd_sliceR hT hd hi hk hie hop (by rw [hx]; exact hv)
  · rename_i hx
    split at hv
    · rename_i l r hmx hl hr
      have hmx' : mx = none := by cases mx with | none => rfl | some y => simp at hmx
      subst hmx'
      obtain ⟨⟨h0, h0'⟩, hv⟩ := hv
      subst h0
      subst h0'
      refine ⟨_, _, _, hv, snd_of fun σ h3 h4 => val_pure hd fun {w0 L0 F0 F V B a w} hs => ?_⟩
      rw [hop] at h3
      have hx3 : ev σ x = ev σ0 x := h3 x (by simp [Op.operands])
      have hl3 : lo.map (ev σ) = lo.map (ev σ0) := by cases lo <;> simp; exact h3 _ (by simp [Op.operands])
      have hr3 : hi'.map (ev σ) = hi'.map (ev σ0) := by cases hi' <;> simp; exact h3 _ (by simp [Op.operands])
      obtain ⟨ml, kl, hml, hgl⟩ := iOf_some (by rw [hl3]; exact hl) hs.rep
      obtain ⟨mh, kh, hmh, hgh⟩ := iOf_some (by rw [hr3]; exact hr) hs.rep
      have hrr := hs.rep x
      rw [hx3, hx] at hrr
      generalize hpv : a.eval x = pv at hrr
      cases hrr
      have hrun := run_sliceAt_cap (P := P) (w := w) (und_sl (hT t i hi) hk) (hT et ie hie) (A0 := none) (m := 0) (c := 0) hgl hgh (by omega) (by omega) (by omega) (kl := kl) (kh := kh)
      exact ⟨⟨.slice none 0 0, by simp only [execOp, hop, hml, hmh, hpv, Option.map_none]; simp [hrun], .nl⟩, by simp [A.all]⟩
    · exact hv.elim
  · exact snd_sliceR hT hd hi hk hie hop hv
omit hT in
theorem snd_mm {c : Call} {x y : Operand} {k k' : IntKind} {a b r : Int} (hc : (c.callee = .builtin .max ∧ r = if b > a then b else a) ∨ (c.callee = .builtin .min ∧ r = if b < a then b else a)) (hca : c.args.toList = [x, y]) (ho : o.op = .call c) (hx : ev σ0 x = .c (.int k a)) (hy : ev σ0 y = .c (.int k' b)) (hv : K (.c (.int k r)) [] []) : ∃ r dh rd, K r dh rd ∧ Snd P n o σ0 r dh rd := by
  refine ⟨_, _, _, hv, snd_of fun σ h3 _ => ?_⟩
  rw [ho] at h3
  have hcb : ∃ bi, c.callee = .builtin bi := by rcases hc with ⟨h, _⟩ | ⟨h, _⟩ <;> exact ⟨_, h⟩
  obtain ⟨bi, hcb⟩ := hcb
  have hx3 := h3 x (by simp [Op.operands, Call.operands, hcb]; rw [← Array.mem_toList_iff, hca]; simp)
  have hy3 := h3 y (by simp [Op.operands, Call.operands, hcb]; rw [← Array.mem_toList_iff, hca]; simp)
  refine val_pure hd fun hs => ⟨⟨.int k r, ?_, .c (.int _ _)⟩, by simp [A.all]⟩
  have h1 := rep_int (by rw [← hx, ← hx3]; exact hs.rep x)
  have h2 := rep_int (by rw [← hy, ← hy3]; exact hs.rep y)
  obtain ⟨callee, args, argTypes⟩ := c
  simp only at hca hcb
  obtain rfl : args = #[x, y] := by apply Array.toList_inj.1; simpa using hca
  rcases hc with ⟨hc, rfl⟩ | ⟨hc, rfl⟩ <;> simp only at hc <;> subst hc
  · simp [execOp, ho, resolve, invoke, builtin, h1, h2, Builtin.max_, Builtin.max2]
  · simp [execOp, ho, resolve, invoke, builtin, h1, h2, Builtin.min_, Builtin.min2]
theorem op_sound (hR : Real n σ0) (hv : opRes P T (ev σ0) (get σ0.hp) σ0.nx o.op K) : ∃ r dh rd, K r dh rd ∧ Snd P n o σ0 r dh rd := by
  cases hop : o.op <;> rw [hop] at hv
  case move x => exact snd_move hd (.inl hop) hv
  case assign x =>
    simp only [opRes] at hv
    split at hv
    · rename_i i z b o1 m hw
      split at hv
      · rename_i e xs hg
        rcases hv with hv | hv
        · exact snd_move hd (.inr hop) hv
        · split at hv
          · rename_i hz h0
            obtain rfl := Nat.eq_of_beq_eq_true hz
            obtain rfl := Nat.eq_of_beq_eq_true h0
            obtain ⟨hm, hv⟩ := hv
            obtain ⟨h1, hv⟩ := fresh_ok hv
            refine ⟨_, _, _, hv, fun σ hs => ?_⟩
            have h3 := hs.1
            rw [hop] at h3
            obtain ⟨hxi, hgi⟩ := isVw_some hw
            exact val_cut hd hop ((h3 x (by simp [Op.operands])).trans hxi) (by rw [hs.2 i (.inl (by simp))]; exact hgi) (by rw [hs.2 b (.inl (by simp))]; exact hg) (by rw [hs.2 σ0.nx (.inr (by simp [keys]))]; exact h1) hm
          · exact hv.elim
      · exact snd_move hd (.inr hop) hv
    · exact snd_move hd (.inr hop) hv
  case pick c a b => exact snd_pick hd hop hv
  case nilCheck x => exact snd_nil hd hop hv
  case alloc t =>
    simp only [opRes] at hv
    split at hv
    · rename_i i hi; exact snd_alloc hT hd hi hop hv
    · exact hv.elim
  case box t x =>
    simp only [opRes] at hv
    split at hv
    · rename_i l hl; exact snd_box hd hop hl hv
    · exact hv.elim
  case build t parts =>
    simp only [opRes] at hv
    split at hv
    · rename_i i hi
      split at hv
      · rename_i fs hk
        split at hv
        · rename_i l hall hl; exact snd_build hT hd hi hk hop hall hl hv
        · exact hv.elim
      · exact hv.elim
    · exact hv.elim
  case buildSlice t m parts =>
    simp only [opRes] at hv
    split at hv
    · rename_i i hi
      split at hv
      · rename_i e et hk
        split at hv
        · rename_i ie hie
          split at hv
          · rename_i h1 h2; exact snd_lit hT hd hi hk hie (Nat.eq_of_beq_eq_true h1) (Nat.eq_of_beq_eq_true h2) hop hv
          · exact hv.elim
        · exact hv.elim
      · exact hv.elim
    · exact hv.elim
  case load t p =>
    simp only [opRes] at hv
    split at hv
    · rename_i i hi; exact snd_load hT hd hi hop hv
    · exact hv.elim
  case store t p v =>
    simp only [opRes] at hv
    split at hv
    · rename_i i hi; exact snd_store hT hd hi hop hv
    · exact hv.elim
  case binOp op t x y t' =>
    simp only [opRes] at hv
    split at hv
    · rename_i b hq
      obtain ⟨h1, hv⟩ := fresh_ok hv
      unfold nilQ at hq
      split at hq
      · rename_i hy hsl
        split at hq
        · rename_i e xs hx
          cases hq
          refine ⟨_, _, _, hv, fun σ hs => ?_⟩
          have h3 := hs.1
          rw [hop] at h3
          have hx3 : ev σ x = ev σ0 x := h3 x (by simp [Op.operands])
          have hy3 : ev σ y = ev σ0 y := h3 y (by simp [Op.operands])
          refine val_nilQ hd hT hop (by rw [hs.2 σ0.nx (.inr (by simp [keys]))]; exact h1) (by rw [hx3, isRowD_congr (fun id hid => hs.2 id (.inl hid))]; exact hx) (hy3.trans hy) ?_
          unfold isSlT at hsl
          split at hsl
          · rename_i i hi
            split at hsl
            · rename_i e' et hk; exact ⟨et, und_sl (hT t i hi) hk⟩
            · cases hsl
          · cases hsl
        · cases hq
      · cases hq
    · unfold structQ at hv
      split at hv
      · rename_i l l' hx hy _
        split at hv
        · rename_i b hb
          obtain ⟨h0, hv⟩ := hv
          refine ⟨_, _, _, hv, snd_of fun σ h3 _ => ?_⟩
          rw [hop] at h3
          exact snd_struct hd (.inl rfl) hop ((h3 x (by simp [Op.operands])).trans hx) ((h3 y (by simp [Op.operands])).trans hy) hb h0
        · exact hv.elim
      · rename_i l l' hx hy _
        split at hv
        · rename_i b hb
          obtain ⟨h0, hv⟩ := hv
          refine ⟨_, _, _, hv, snd_of fun σ h3 _ => ?_⟩
          rw [hop] at h3
          exact snd_struct hd (.inr rfl) hop ((h3 x (by simp [Op.operands])).trans hx) ((h3 y (by simp [Op.operands])).trans hy) hb h0
        · exact hv.elim
      · exact snd_bin hT hd hop hv
  case unOp op t x => exact snd_un hd hop hv
  case convert s d x =>
    simp only [opRes] at hv
    split at hv
    · rename_i is id h1 h2
      split at hv
      · rename_i h3; exact snd_conv hT hd h1 h2 hop h3 hv
      · exact hv.elim
    · exact hv.elim
  case makeFunc fn first caps =>
    cases fn
    case func f =>
      simp only [opRes] at hv
      split at hv
      · rename_i hf; exact snd_makeFunc hd hf hop hv
      · exact hv.elim
    all_goals exact (hv : False).elim
  case makeSlice t x y =>
    simp only [opRes] at hv
    split at hv
    · rename_i i hi
      split at hv
      · rename_i e et hk
        split at hv
        · rename_i ie hie
          split at hv
          · rename_i cs h1 h2 h3 h4
            exact snd_make hT hd hi hk hie (Nat.eq_of_beq_eq_true h1) (Nat.eq_of_beq_eq_true h2) (Nat.eq_of_beq_eq_true h3) hop h4 hv.1 hv.2
          · exact hv.elim
        · exact hv.elim
      · exact hv.elim
    · exact hv.elim
  case slice t x lo hi mx =>
    simp only [opRes] at hv
    split at hv
    · rename_i i hi
      split at hv
      · rename_i e et hk
        split at hv
        · rename_i ie hie
          exact snd_sliceX hT hd hi hk hie hop hv
        · exact hv.elim
      · rename_i hk
        unfold sliceS at hv
        split at hv
        · rename_i s hmx hx
          have hmx' : mx = none := by cases mx with | none => rfl | some y => simp at hmx
          subst hmx'
          split at hv
          · rename_i l r hl hr'
            exact snd_slice_str hT hd hi hk hop hx hl hr' hv.1 hv.2
          · exact hv.elim
        · exact hv.elim
      · exact hv.elim
    · exact hv.elim
  case fieldAddr t x f =>
    simp only [opRes] at hv
    split at hv
    · rename_i i hi
      split at hv
      · rename_i fs hk
        split at hv
        · rename_i off ft hf
          split at hv
          · rename_i fi hfi
            split at hv
            · rename_i hz; exact snd_fieldAddr hT hd hi hk hf hfi hz hop hv
            · exact hv.elim
          · exact hv.elim
        · exact hv.elim
      · exact hv.elim
    · exact hv.elim
  case field t x f =>
    simp only [opRes] at hv
    split at hv
    · rename_i i hi
      split at hv
      · rename_i fs hk
        split at hv
        · rename_i off ft l hf hx
          split at hv
          · rename_i fi hfi
            split at hv
            · rename_i a ha; exact snd_field hT hd hi hk hf hfi hop hx ha hv
            · exact hv.elim
          · exact hv.elim
        · exact hv.elim
      · exact hv.elim
    · exact hv.elim
  case indexAddr t x j =>
    simp only [opRes] at hv
    split at hv
    · rename_i i hi
      split at hv
      · rename_i e et hk
        split at hv
        · rename_i ie hie; exact snd_indexAddr hT hd hR hi hk hie hop hv
        · exact hv.elim
      · exact hv.elim
    · exact hv.elim
  case index t x j =>
    simp only [opRes] at hv
    split at hv
    · rename_i i hi
      split at hv
      · rename_i hk; exact snd_index hT hd hi hk hop hv
      · exact hv.elim
    · exact hv.elim
  case extract x j =>
    simp only [opRes] at hv
    split at hv
    · rename_i l hx
      split at hv
      · rename_i a ha; exact snd_extract hd hop hx ha hv
      · exact hv.elim
    · exact hv.elim
  case call c =>
    simp only [opRes] at hv
    split at hv
    · rename_i f hc
      split at hv
      · rename_i g caps hf; rw [fcL_eq] at hv; exact snd_call hd hop hc hf hv
      · exact hv.elim
    · rename_i hc
      split at hv
      · rename_i x t hca hct
        split at hv
        · rename_i i hi
          split at hv
          · rename_i e et hk
            exact snd_len hT hd hR hi hk hc hca hct hop hv
          · rename_i hk
            unfold lenS at hv
            split at hv
            · rename_i s hx; exact snd_len_str hT hd hR hi hk hc hca hct hop hx hv
            · exact hv.elim
          · exact hv.elim
        · exact hv.elim
      · exact hv.elim
    · rename_i hc
      split at hv
      · rename_i x y hca
        split at hv
        · rename_i k a k' b hx hy
          split at hv
          · exact snd_mm hd (.inl ⟨hc, rfl⟩) hca hop hx hy hv
          · exact hv.elim
        · exact hv.elim
      · exact hv.elim
    · rename_i hc
      split at hv
      · rename_i x y hca
        split at hv
        · rename_i k a k' b hx hy
          split at hv
          · exact snd_mm hd (.inr ⟨hc, rfl⟩) hca hop hx hy hv
          · exact hv.elim
        · exact hv.elim
      · exact hv.elim
    · rename_i hc
      split at hv
      · rename_i s x t t' hca hct
        split at hv
        · rename_i i hi
          split at hv
          · rename_i e et hk
            split at hv
            · rename_i ie hie
              split at hv
              · rename_i h1 h2 h3
                split at hv
                · rename_i htt
                  have ht : t = t' := Nat.eq_of_beq_eq_true htt
                  subst ht
                  refine snd_app hT hd hR hi hk hie (Nat.eq_of_beq_eq_true h1) (Nat.eq_of_beq_eq_true h2) (Nat.eq_of_beq_eq_true h3) ?_ hop hv
                  obtain ⟨callee, args, argTypes⟩ := c
                  simp only at hc hca hct
                  subst hc
                  unfold appCall
                  congr
                  · apply Array.toList_inj.1; simpa using hca
                  · apply Array.toList_inj.1; simpa using hct
                · split at hv
                  · rename_i i' cs hi' hz
                    split at hv
                    · rename_i hk'
                      obtain ⟨hcs, hv⟩ := hv
                      refine snd_appZ hT hd hi hk hi' hk' hie (Nat.eq_of_beq_eq_true h1) (Nat.eq_of_beq_eq_true h2) (Nat.eq_of_beq_eq_true h3) hz hcs ?_ hv
                      obtain ⟨callee, args, argTypes⟩ := c
                      simp only at hc hca hct
                      subst hc
                      rw [hop]
                      congr
                      · apply Array.toList_inj.1; simpa using hca
                      · apply Array.toList_inj.1; simpa using hct
                    · exact hv.elim
                  · exact hv.elim
              · exact hv.elim
            · exact hv.elim
          · exact hv.elim
        · exact hv.elim
      · exact hv.elim
    · rename_i hc
      split at hv
      · rename_i x t hca hct
        split at hv
        · rename_i i hi
          split at hv
          · rename_i e et hk
            split at hv
            · rename_i hx; exact snd_capnl hd (und_sl (hT t i hi) hk) hc hca hct hop hx hv
            · exact hv.elim
          · exact hv.elim
        · exact hv.elim
      · exact hv.elim
    · rename_i hc
      split at hv
      · rename_i x t hca hct
        split at hv
        · rename_i i hi
          split at hv
          · rename_i e et hk
            split at hv
            · rename_i ie hie
              split at hv
              · rename_i cs h1 h3 hz
                obtain ⟨hcs, hv⟩ := hv
                exact snd_clear hT hd hi hk hie (Nat.eq_of_beq_eq_true h1) (Nat.eq_of_beq_eq_true h3) hz hcs hc hca hct hop hv
              · exact hv.elim
            · exact hv.elim
          · exact hv.elim
        · exact hv.elim
      · exact hv.elim
    · exact hv.elim
  all_goals exact (hv : False).elim
end
end Go.Proofs.YthbpdhppelaihaaGreat
