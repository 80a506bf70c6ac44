/- Joined: G6 G7 G8 G9. -/
import Derived.Test.YthbpdhppelaihaaGreatGV
import Derived.Orders
/- ONE OPERATION: op_sound. Conditions: none. -/
set_option linter.unusedVariables false
set_option linter.unusedSimpArgs false
namespace Go.Proofs.YthbpdhppelaihaaGreat
open Go.RowKit
variable {P : Program} {T : List (Nat × TI)}
mutual
theorem leA_congr {h h' : Nat → Option Ob} : ∀ (a' : A) {a : A}, a'.all (fun _ => False) → (∀ k ∈ rwsA a, h k = h' k) → leA h' id a a' → leA h id a a'
 | .un, a, _, _, hl => by unfold leA; trivial
 | .c c', a, _, hh, hl => by
   unfold leA at hl ⊢
   cases a <;> try exact hl
   case rw k => simp only [] at hl ⊢; rw [hh k (by simp [rwsA])]; exact hl
 | .kb b', a, _, _, hl => by unfold leA at hl ⊢; exact hl
 | .ag l', a, hf, hh, hl => by
   unfold leA at hl ⊢
   cases a <;> try exact hl
   case ag l => exact leL_congr l' (by simpa only [A.all] using hf) (fun k hk => hh k (by simpa only [rwsA] using hk)) hl
 | .tp l', a, hf, hh, hl => by
   unfold leA at hl ⊢
   cases a <;> try exact hl
   case tp l => exact leL_congr l' (by simpa only [A.all] using hf) (fun k hk => hh k (by simpa only [rwsA] using hk)) hl
 | .nl, a, _, _, hl => by unfold leA at hl ⊢; exact hl
 | .pt i off, a, hf, _, hl => by simp only [A.all] at hf
 | .el e x off, a, _, _, hl => by unfold leA at hl ⊢; exact hl
 | .rw i, a, hf, hh, hl => by simp only [A.all] at hf
 | .re sz i j off, a, hf, _, hl => by simp only [A.all] at hf
 | .fn f l, a, _, _, hl => by unfold leA at hl ⊢; exact hl
theorem leL_congr {h h' : Nat → Option Ob} : ∀ (l' : List A) {l : List A}, allL (fun _ => False) l' → (∀ k ∈ rwsL l, h k = h' k) → leL h' id l l' → leL h id l l'
 | [], l, _, _, hl => by unfold leL at hl ⊢; exact hl
 | a' :: l', l, hf, hh, hl => by
   simp only [allL] at hf
   unfold leL at hl ⊢
   cases l with
   | nil => exact hl
   | cons a l => exact ⟨leA_congr a' hf.1 (fun k hk => hh k (by simp only [rwsL]; exact List.mem_append_left _ hk)) hl.1, leL_congr l' hf.2 (fun k hk => hh k (by simp only [rwsL]; exact List.mem_append_right _ hk)) hl.2⟩
end
theorem keys_app : ∀ l l' : Hp, keys (l ++ l') = keys l ++ keys l'
 | [], _ => rfl
 | (k, o) :: l, l' => by simp only [List.cons_append, keys]; rw [keys_app l l']
theorem idsL_map : ∀ l : List Nat, idsL (l.map .rw) = l
 | [] => rfl
 | k :: l => by simp only [List.map_cons, idsL]; rw [idsL_map l]
theorem val_callF {n : Nat} {o : Oper} (hd : ∀ d, o.dst = some d → d < n) {σ : St} {c : Call} {f : Operand} (ho : o.op = .call c) (hc : c.callee = .value f) {g : Nat} {caps as : List A} (hf : ev σ f = .fn g caps) {hout : Hp} {r : A} {nx : Nat} (hret : Ret P g as [] r hout)
 (hargs : leL (lent (get σ.hp)) id (c.args.toList.map (ev σ) ++ caps) as) (hnw : newAll (get σ.hp) 0 nx hout) (has : allL (fun _ => False) as) :
 Val P n o σ (σ.upd o.dst (r.ren (renId [] nx)) (renH (renId [] nx) hout ++ frz (get σ.hp) ((rwsL (c.args.toList.map (ev σ) ++ caps)).map .rw))) := by
 intro w0 L0 F0 F V B a w hs K Q hK
 have hρ : ∀ k, renId [] nx k = nx + k := fun k => by rw [renId_ge (by simp)]; simp
 generalize hρ0 : renId [] nx = ρ at *
 generalize hfl : frz (get σ.hp) ((rwsL (c.args.toList.map (ev σ) ++ caps)).map .rw) = fl at *
 obtain ⟨F1, hF1, hs1⟩ := hs.freeze ((rwsL (c.args.toList.map (ev σ) ++ caps)).map .rw)
 rw [hfl] at hs1
 have hnn : ∀ k, get σ.hp k = none → get (fl ++ σ.hp) k = none := fun k hk => by
  rw [get_append]
  cases h3 : get fl k with
  | none => exact hk
  | some o => rw [← hfl] at h3; obtain ⟨e', xs', _, h4⟩ := frz_spec h3; rw [hk] at h4; rcases h4 with h4 | h4 <;> cases h4
 have hnone : ∀ k, Def hout k → get (fl ++ σ.hp) (ρ k) = none := fun k hk => by
  obtain ⟨ok, hk⟩ := Option.isSome_iff_exists.1 hk
  rcases newAll_get hnw hk with h1 | h1
  · omega
  · rw [hρ]; exact hnn _ h1
 have hinj : ∀ {j k}, ρ j = ρ k → j = k := fun {j k} e => by rw [hρ, hρ] at e; omega
 have hlent : ∀ k ∈ rwsL (c.args.toList.map (ev σ) ++ caps), get (fl ++ σ.hp) k = lent (get σ.hp) k := fun k hk => by
  have hmem : A.rw k ∈ (rwsL (c.args.toList.map (ev σ) ++ caps)).map A.rw := List.mem_map_of_mem hk
  rw [get_append]
  unfold lent
  split
  · rename_i o h3
    rw [← hfl] at h3
    obtain ⟨e', xs', h5, h4⟩ := frz_spec h3
    rcases h4 with h4 | h4 <;> rw [h4] <;> rw [h5]
  · rename_i h3
    rw [← hfl] at h3
    split
    · rename_i e xs h4; rw [frz_mem (.inl h4) hmem] at h3; cases h3
    · rename_i e xs h4; rw [frz_mem (.inr h4) hmem] at h3; cases h3
    · rfl
 have hargs1 : leL (get (fl ++ σ.hp)) id (c.args.toList.map (ev σ) ++ caps) as := leL_congr as has hlent hargs
 have hlen : ∀ id e xs, get (fl ++ σ.hp) id = some (.fz e xs) → RepC F1 w (V id) (.sl e xs) := fun id e xs hl => by
  have hob := hs1.hp.ob id _ hl
  cases hob with | fz _ _ h => exact h
 have hls : ∀ k, Def σ.hp k → (get (fl ++ σ.hp) k).isSome = true := fun k hk => by
  rw [get_append]
  split
  · rfl
  · exact hk
 have hrf := hs.rep f
 have hif := hs.repIds f
 rw [hf] at hrf hif
 generalize hfv : a.eval f = fv at hrf
 cases hrf with
 | fn _ hcaps =>
   rename_i cus
   have hall := (evs_rep hs c.args.toList).1.append hcaps
   have hids : allL (Def σ.hp) (c.args.toList.map (ev σ) ++ caps) := by
    simp only [A.all] at hif
    exact allL_app (evs_rep hs c.args.toList).2 hif
   have hrun := run_enter (P := P) hret.1 (n := n) ho hc hfv (w := w)
   have hall1 := leL_rep hlen as (hall.move hF1 (fun _ _ => rfl) (allL_mono (fun _ _ => rfl) hids)) (allL_mono hls hids) hargs1
   have hVN1 : ∀ k, (VN (get (fl ++ σ.hp)) V id k).oneCell' = true := fun k => by
    unfold VN
    split
    · rfl
    · exact hs.V1 _
   have hcall := hret.2 F1 (VN (get (fl ++ σ.hp)) V id) B w _ hs1.F_lt hVN1 ⟨fun id o hg => by simp [get] at hg, fun id o hg => by simp [get] at hg, fun id b hb => by simp [owns, get] at hb, fun id b hb => by simp [owns, get] at hb, fun id id' b hb => by simp [owns, get] at hb⟩ hall1 (allL_mono (fun _ h => h.elim) has)
   unfold Oper.wp
   rw [hrun]
   simp only [Oper.upon]
   have hargsv : (c.args.toList.map a.eval ++ cus).toArray = c.args.map a.eval ++ cus.toArray := by
    apply Array.toList_inj.1
    simp
   rw [hargsv] at hcall
   refine Calls.mono hcall fun e w'' he => ?_
   obtain ⟨v, F', V', B', rfl, hrv, hrd, hho, hv1, _, hFF, hFn, hFl, hon, hfw⟩ := he
   simp only
   classical
   let V2 : Nat → Value := fun id => if nx ≤ id ∧ Def hout (id - nx) then V' (id - nx) else V id
   let B2 : Nat → List Nat := fun id => if nx ≤ id ∧ Def hout (id - nx) then B' (id - nx) else B id
   have hV2 : ∀ k, Def hout k → V2 (ρ k) = V' k := fun k hk => by
    show (if _ then _ else _) = _
    rw [hρ, Nat.add_sub_cancel_left, if_pos ⟨by omega, hk⟩]
   have hB2 : ∀ k, Def hout k → B2 (ρ k) = B' k := fun k hk => by
    show (if _ then _ else _) = _
    rw [hρ, Nat.add_sub_cancel_left, if_pos ⟨by omega, hk⟩]
   have hV2n : ∀ id, Def (fl ++ σ.hp) id → V2 id = V id := fun id hid => by
    show (if _ then _ else _) = _
    rw [if_neg]
    rintro ⟨h1, h2⟩
    have := hnone _ h2
    rw [hρ, Nat.add_sub_cancel' h1] at this
    unfold Def at hid; rw [this] at hid; cases hid
   have hget : ∀ k, Def hout k → get (renH ρ hout ++ (fl ++ σ.hp)) (ρ k) = (get hout k).map (Ob.ren ρ) := fun k hk => by
    rw [get_append, renH_get (fun j hj e => hinj e)]
    obtain ⟨o, ho⟩ := Option.isSome_iff_exists.1 hk
    rw [ho]; rfl
   have hgetn : ∀ id, ¬ (nx ≤ id ∧ Def hout (id - nx)) → get (renH ρ hout ++ (fl ++ σ.hp)) id = get (fl ++ σ.hp) id := fun id h => by
    rw [get_append, renH_none (fun k hk e => h (by rw [hρ] at e; subst e; exact ⟨by omega, by rw [Nat.add_sub_cancel_left]; exact hk⟩))]
   have hdef' : ∀ k, Def hout k → Def (renH ρ hout ++ (fl ++ σ.hp)) (ρ k) := fun k hk => by
    unfold Def; rw [hget k hk]
    obtain ⟨o, ho⟩ := Option.isSome_iff_exists.1 hk
    rw [ho]; rfl
   have hform : ∀ {id}, (nx ≤ id ∧ Def hout (id - nx)) → ∃ k, Def hout k ∧ id = ρ k := fun {id} h => ⟨id - nx, h.2, by rw [hρ, Nat.add_sub_cancel' h.1]⟩
   have howout : ∀ {k b}, Def hout k → owns (renH ρ hout ++ (fl ++ σ.hp)) V2 B2 (ρ k) b → owns hout V' B' k b := fun {k b} hk h => by
    unfold owns at h ⊢
    rw [hget k hk, hV2 k hk, hB2 k hk] at h
    obtain ⟨ob, hob⟩ := Option.isSome_iff_exists.1 hk
    rw [hob] at h ⊢
    cases ob <;> simp only [Option.map_some, Ob.ren] at h <;> exact h
   have hst : Sim n w0 L0 F0 F' V2 B2 { σ with hp := renH ρ hout ++ (fl ++ σ.hp) } a w'' := by
    refine hs1.step (fun id => nx ≤ id ∧ Def hout (id - nx)) hfw.os hfw.tape hfw.output (fun b hb _ => hfw.old b hb (fun ⟨k, hk⟩ => by simp [owns, get] at hk)) hfw.size hV2n (fun id h _ => if_neg h) hFF (fun b hb => ?_) hFl (fun id => ?_) hgetn (fun id hid => ?_) (fun id o hid ho => ?_) (fun id b hid hb => ?_) (fun id id' b hid hid' hb hb' => ?_)
    · rcases hFn b hb with h1 | h1 | ⟨k, h1⟩
      · exact .inl h1
      · exact .inr (.inl h1)
      · simp [owns, get] at h1
    · show (if _ then _ else _ : Value).oneCell' = true
      split
      · exact hv1 _
      · exact hs.V1 _
    · by_cases h : nx ≤ id ∧ Def hout (id - nx)
      · obtain ⟨k, hk, rfl⟩ := hform h; exact hdef' k hk
      · unfold Def; rw [hgetn id h]; exact hid
    · obtain ⟨k, hk, rfl⟩ := hform hid
      rw [hget k hk] at ho
      obtain ⟨ob, hob⟩ := Option.isSome_iff_exists.1 hk
      rw [hob] at ho
      simp only [Option.map_some, Option.some.injEq] at ho
      subst ho
      have hoid := hho.ids k ob hob
      refine ⟨(hho.ob k ob hob).ren ρ (hV2 k hk) (hB2 k hk) (obIds_mono (fun j hj => hV2 j hj) hoid), ?_⟩
      cases ob with
      | box cs => simp only [Ob.ren, obIds]; rw [allL_ren]; exact allL_mono (fun j hj => hdef' j hj) hoid
      | fo e pre cs post => simp only [Ob.ren, obIds]; rw [allL_ren]; exact allL_mono (fun j hj => hdef' j hj) hoid
      | vw sz base off n => exact hdef' base hoid
      | _ => trivial
    · obtain ⟨k, hk, rfl⟩ := hform hid
      have h1 := howout hk hb
      have h3 : w.heap.size ≤ b := by
       rcases hon k b h1 with h2 | ⟨k', h2⟩
       · exact h2
       · simp [owns, get] at h2
      exact ⟨hho.lt k b h1, hho.nF k b h1, .inl h3⟩
    · obtain ⟨k, hk, rfl⟩ := hform hid
      obtain ⟨k', hk', rfl⟩ := hform hid'
      rw [hho.apart k k' b (howout hk hb) (howout hk' hb')]
   have hput := hst.putd hd (v := v) (r := r.ren ρ) (RepA.ren ρ r (A.all_mono (fun k hk => hV2 k hk) hrd) hrv) ((A.all_ren _ ρ r).2 (A.all_mono (fun k hk => hdef' k hk) hrd)) (σ.nx + (renH ρ hout ++ fl).length)
   refine hK F' V2 B2 _ _ (hput.congr (fun t => rfl) (fun k => ?_))
   show get ((renH ρ hout ++ fl) ++ σ.hp) k = get (renH ρ hout ++ (fl ++ σ.hp)) k
   rw [List.append_assoc]
variable (hT : ∀ t i, get T t = some i → TOk P t i)
section
variable {n : Nat} {o : Oper} (hd : ∀ d, o.dst = some d → d < n) {σ0 : St} {K : A → Hp → List Nat → Prop}
include hd
theorem snd_call {c : Call} {f : Operand} (ho : o.op = .call c) (hc : c.callee = .value f) {g : Nat} {caps : List A} (hf : ev σ0 f = .fn g caps) (hv : callA P (get σ0.hp) σ0.nx g (c.args.toList.map (ev σ0) ++ caps) K) : ∃ r dh rd, K r dh rd ∧ Snd P n o σ0 r dh rd := by
 unfold callA at hv
 have hops : ∀ σ rd dh, Agr σ σ0 o.op rd dh → ev σ f = ev σ0 f ∧ c.args.toList.map (ev σ) = c.args.toList.map (ev σ0) := fun σ rd dh hs => by
  have h3 := hs.1
  rw [ho] at h3
  exact ⟨h3 f (by simp [Op.operands, Call.operands, hc]), List.map_congr_left fun x hx => h3 x (by
   simp [Op.operands, Call.operands, hc]
   exact .inr (by simpa using hx))⟩
 rcases hv with hv | hv | hv
 rotate_left
 rotate_left
 · unfold callF at hv
   obtain ⟨as, r, hout, hret, hargs, hnw, has, hv⟩ := hv
   refine ⟨_, _, _, hv, fun σ hs => ?_⟩
   obtain ⟨hf', ha'⟩ := hops σ _ _ hs
   have hfz : frz (get σ.hp) ((rwsL (c.args.toList.map (ev σ0) ++ caps)).map .rw) = frz (get σ0.hp) ((rwsL (c.args.toList.map (ev σ0) ++ caps)).map .rw) := frz_congr fun id hid => hs.2 id (.inl (by rwa [idsL_map] at hid))
   have hw := val_callF hd ho hc (hf'.trans hf) (nx := σ0.nx) hret (by
    rw [ha']
    exact leL_congr as has (fun id hid => by unfold lent; rw [hs.2 id (.inl hid)]) hargs) (newAll_congr (ids := []) (fun id hid => hs.2 id (.inr (by rw [keys_app]; exact List.mem_append_left _ hid))) hnw) has
   rw [ha', hfz] at hw
   exact hw
 rotate_left
 · unfold callB at hv
   obtain ⟨as, r, hout, hret, hargs, hfr, hfh, hnw, has, hv⟩ := hv
   refine ⟨_, _, _, hv, fun σ hs => ?_⟩
   obtain ⟨hf', ha'⟩ := hops σ _ _ hs
   refine val_callB hd ho hc (hf'.trans hf) hret ?_ hfr hfh (newAll_congr (ids := []) (fun id hid => hs.2 id (.inr hid)) hnw) has
   rw [ha']
   exact leL_congr as has (fun id hid => by unfold lent; rw [hs.2 id (.inl hid)]) hargs
 obtain ⟨as, hin, r, hout, ids, hret, hargs, hnd, hdef, hlk, hnw, has, hoi, hv⟩ := hv
 refine ⟨_, _, _, hv, fun σ hs => ?_⟩
 have h3 := hs.1
 rw [ho] at h3
 have hf' : ev σ f = ev σ0 f := h3 f (by simp [Op.operands, Call.operands, hc])
 have ha' : c.args.toList.map (ev σ) = c.args.toList.map (ev σ0) := List.map_congr_left fun x hx => h3 x (by
  simp [Op.operands, Call.operands, hc]
  exact .inr (by simpa using hx))
 exact val_call hd ho hc (hf'.trans hf) hret (by rw [ha']; exact hargs) hnd hdef (lookAll_congr (fun id hid => hs.2 id (.inl hid)) hlk) (newAll_congr (fun id hid => hs.2 id (.inr hid)) hnw) has hoi
include hT
theorem snd_app (hR : Real n σ0) {t et : Nat} {i ie : TI} {e : Ty} {s x : Operand} {c : Call} (hi : get T t = some i) (hk : i.k = .sl e et) (hie : get T et = some ie) (hsz : ie.sz = szE e) (hby : ie.by_ = byE e) (het : et = etOf e) (hc : appCall c s x t) (ho : o.op = .call c) (hv : appA (get σ0.hp) e (ev σ0 s) (ev σ0 x) σ0.nx K) : ∃ r dh rd, K r dh rd ∧ Snd P n o σ0 r dh rd := by
 have hops : ∀ σ rd dh, Agr σ σ0 o.op rd dh → ev σ s = ev σ0 s ∧ ev σ x = ev σ0 x := fun σ rd dh hs => by
  have h3 := hs.1
  rw [ho] at h3
  unfold appCall at hc
  subst hc
  exact ⟨h3 s (by simp [Op.operands, Call.operands]), h3 x (by simp [Op.operands, Call.operands])⟩
 have hu := und_sl (hT t i hi) hk
 unfold appA at hv
 split at hv
 · rename_i idx e' ys hxd
   have hxx : ev σ0 x = .rw idx ∧ get σ0.hp idx = some (.dp e' ys) := by
    unfold isDp at hxd
    split at hxd
    · rename_i k hx
      split at hxd
      · rename_i hg; cases hxd; exact ⟨hx, hg⟩
      · cases hxd
    · cases hxd
   split at hv
   · rename_i zs hz
     unfold appD at hv
     split at hv
     · rename_i hsn
       obtain ⟨h1, hv⟩ := fresh_ok hv
       refine ⟨_, _, _, hv, fun σ hs => ?_⟩
       obtain ⟨h2, h3⟩ := hops σ _ _ hs
       have hb := real_boundD hR (x := x) (e := e') (xs := ys) (by rw [hxx.1]; simp only [isRowD, hxx.2])
       obtain ⟨rfl, _, h5⟩ := castTy_ok _ _ _ _ hz
       exact val_appD hT hd hu (hT et ie hie) hsz hby het (by rw [hs.2 σ0.nx (.inr (by simp [keys, kill]))]; exact h1) hc ho (.inl ⟨h2.trans hsn, rfl, rfl⟩) (h3.trans hxx.1) (by rw [hs.2 idx (.inr (by simp [keys, kill]))]; exact hxx.2) hz (by rw [← h5]; simpa using hb)
     · rename_i id hsn
       split at hv
       · rename_i e1 ws hg hne
         split at hv
         · rename_i xs hw
           obtain ⟨hlen, hv⟩ := hv
           obtain ⟨h1, hv⟩ := fresh_ok hv
           refine ⟨_, _, _, hv, fun σ hs => ?_⟩
           obtain ⟨h2, h3⟩ := hops σ _ _ hs
           obtain ⟨rfl, h5, h6⟩ := castTy_ok _ _ _ _ hw
           have hws : ws = xs := by
            clear hv hs
            cases e <;> simp [castTy] at hw <;> exact hw
           subst hws
           exact val_appD hT hd hu (hT et ie hie) hsz hby het (by rw [hs.2 σ0.nx (.inr (by simp [keys, kill]))]; exact h1) hc ho (.inr ⟨id, h2.trans hsn, (fun e => by subst e; simp at hne), rfl, .inl (by rw [hs.2 id (.inr (by simp [keys, kill]))]; exact hg)⟩) (h3.trans hxx.1) (by rw [hs.2 idx (.inr (by simp [keys, kill]))]; exact hxx.2) hz hlen
         · exact hv.elim
       · rename_i e1 hg hne
         split at hv
         · rename_i xs hw
           obtain ⟨h1, hv⟩ := fresh_ok hv
           refine ⟨_, _, _, hv, fun σ hs => ?_⟩
           obtain ⟨h2, h3⟩ := hops σ _ _ hs
           have hb := real_boundD hR (x := x) (e := e') (xs := ys) (by rw [hxx.1]; simp only [isRowD, hxx.2])
           obtain ⟨rfl, _, h6⟩ := castTy_ok _ _ _ _ hw
           obtain ⟨rfl, _, h5⟩ := castTy_ok _ _ _ _ hz
           exact val_appD hT hd hu (hT et ie hie) hsz hby het (by rw [hs.2 σ0.nx (.inr (by simp [keys, kill]))]; exact h1) hc ho (.inr ⟨id, h2.trans hsn, (fun e => by subst e; simp at hne), rfl, .inr ⟨by rw [hs.2 id (.inr (by simp [keys, kill]))]; exact hg, rfl⟩⟩) (h3.trans hxx.1) (by rw [hs.2 idx (.inr (by simp [keys, kill]))]; exact hxx.2) hz (by rw [← h5]; simpa using hb)
         · exact hv.elim
       · exact hv.elim
     · exact hv.elim
   · exact hv.elim
 split at hv
 · rename_i e' ys hx
   split at hv
   · rename_i hsn
     split at hv
     · rename_i zs hz
       obtain ⟨h1, hv⟩ := fresh_ok hv
       refine ⟨_, _, _, hv, fun σ hs => ?_⟩
       obtain ⟨h2, h3⟩ := hops σ _ _ hs
       exact val_app_nl hT hd hu (hT et ie hie) hsz hby het (by rw [hs.2 σ0.nx (.inr (by simp [keys]))]; exact h1) hc ho (h2.trans hsn) (h := get σ0.hp) (by rw [h3]; exact fun id hid => hs.2 id (.inl hid)) (by rw [h3]; exact hx) hz
     · exact hv.elim
   · rename_i id hsn
     split at hv
     · rename_i e1 ws hg
       split at hv
       · rename_i xs zs hw hz
         obtain ⟨hlen, hv⟩ := hv
         obtain ⟨h1, hv⟩ := fresh_ok hv
         refine ⟨_, _, _, hv, fun σ hs => ?_⟩
         obtain ⟨h2, h3⟩ := hops σ _ _ hs
         obtain ⟨rfl, h5, h6⟩ := castTy_ok _ _ _ _ hw
         have hws : ws = xs := by
          clear hv hs
          cases e <;> simp [castTy] at hw <;> exact hw
         subst hws
         exact val_app_rw hT hd hu (hT et ie hie) hsz hby het (by rw [hs.2 σ0.nx (.inr (by simp [keys]))]; exact h1) hc ho (h2.trans hsn) (by rw [hs.2 id (.inr (by simp [keys]))]; exact hg) (h := get σ0.hp) (by rw [h3]; exact fun id hid => hs.2 id (.inl hid)) (by rw [h3]; exact hx) hz hlen
       · exact hv.elim
     · exact hv.elim
   · exact hv.elim
 · unfold appV at hv
   split at hv
   · rename_i i z b o1 n1 j z' b' o2 n2 hvs hvx
     split at hv
     · rename_i e1 ws hb hz1 hz2 hg
       obtain rfl := Nat.eq_of_beq_eq_true hb
       obtain rfl := Nat.eq_of_beq_eq_true hz1
       obtain rfl := Nat.eq_of_beq_eq_true hz2
       split at hv
       · rename_i xs hw
         obtain ⟨⟨h4, h5, h6, h7⟩, hv⟩ := hv
         subst h4
         obtain ⟨h1, hv⟩ := fresh_ok hv
         refine ⟨_, _, _, hv, fun σ hs => ?_⟩
         obtain ⟨h2, h3⟩ := hops σ _ _ hs
         obtain ⟨rfl, h8, h9⟩ := castTy_ok _ _ _ _ hw
         have hws : ws = xs := by
          clear hv hs
          cases e <;> simp [castTy] at hw <;> exact hw
         subst hws
         obtain ⟨hsi, hgi⟩ := isVw_some hvs
         obtain ⟨hxj, hgj⟩ := isVw_some hvx
         unfold appCall at hc
         subst hc
         exact val_appV hT hd hu (hT et ie hie) hsz het ho (h2.trans hsi) (by rw [hs.2 i (.inl (by simp))]; exact hgi) (h3.trans hxj) (by rw [hs.2 j (.inl (by simp))]; exact hgj) (by rw [hs.2 b (.inl (by simp))]; exact hg) (by rw [hs.2 σ0.nx (.inr (by simp [keys]))]; exact h1) h5 h6 h7
       · exact hv.elim
     · exact hv.elim
   · exact hv.elim
theorem snd_appZ {t tn et : Nat} {i i' ie : TI} {e : Ty} {x y : Operand} (hi : get T t = some i) (hk : i.k = .sl e et) (hi' : get T tn = some i') (hk' : i'.k = .int .i64) (hie : get T et = some ie) (hsz : ie.sz = szE e) (hby : ie.by_ = byE e) (het : et = etOf e) {cs : List C} (hz : toCs (fun _ => none) (cells e (dflt e)) ie.z = some cs) (hcs : cs = cells e (dflt e)) (ho : o.op = .call { callee := .builtin .append, args := #[x, y], argTypes := #[t, tn] })
 (hv : appZ (get σ0.hp) e (ev σ0 x) (ev σ0 y) σ0.nx K) : ∃ r dh rd, K r dh rd ∧ Snd P n o σ0 r dh rd := by
 have hops : ∀ σ rd dh, Agr σ σ0 o.op rd dh → ev σ x = ev σ0 x ∧ ev σ y = ev σ0 y := fun σ rd dh hs => by
  have h3 := hs.1
  rw [ho] at h3
  exact ⟨h3 x (by simp [Op.operands, Call.operands]), h3 y (by simp [Op.operands, Call.operands])⟩
 unfold appZ at hv
 split at hv
 · rename_i m hx hy
   obtain ⟨⟨h4, h5⟩, hv⟩ := hv
   obtain ⟨h1, hv⟩ := fresh_ok hv
   refine ⟨_, _, _, hv, fun σ hs => ?_⟩
   obtain ⟨h2, h3⟩ := hops σ _ _ hs
   subst hcs
   have htn := (hT tn i' hi').desc
   rw [hk'] at htn
   exact val_appZ hT hd (und_sl (hT t i hi) hk) (hT et ie hie) hsz hby het (by rw [hs.2 σ0.nx (.inr (by simp [keys]))]; exact h1) htn ho hz (h2.trans hx) (h3.trans hy) h4 h5
 · exact hv.elim
omit hT in
theorem snd_capnl {t et : Nat} {x : Operand} {c : Call} (hu : P.underlying t = some (.slice et)) (hc : c.callee = .builtin .cap) (hca : c.args.toList = [x]) (hct : c.argTypes.toList = [t]) (ho : o.op = .call c) (hx : ev σ0 x = .nl) (hv : K (.c (.int .i64 0)) [] []) : ∃ r dh rd, K r dh rd ∧ Snd P n o σ0 r dh rd := by
 refine ⟨_, _, _, hv, snd_of fun σ h3 _ => val_pure hd fun {w0 L0 F0 F V B a w} hs => ?_⟩
 rw [ho] at h3
 obtain ⟨callee, args, argTypes⟩ := c
 obtain rfl : args = #[x] := by cases args; simp_all
 obtain rfl : argTypes = #[t] := by cases argTypes; simp_all
 simp only at hc
 subst hc
 have hx3 := h3 x (by simp [Op.operands, Call.operands])
 have hr := hs.rep x
 rw [hx3, hx] at hr
 generalize hpv : a.eval x = pv at hr
 cases hr
 exact ⟨⟨.int .i64 0, by simp [execOp, ho, resolve, invoke, builtin, hpv, Builtin.cap_, run_underlying hu, goInt], .c (.int _ _)⟩, by simp [A.all]⟩
theorem snd_clear {t et : Nat} {i ie : TI} {e : Ty} {x : Operand} {c : Call} (hi : get T t = some i) (hk : i.k = .sl e et) (hie : get T et = some ie) (hsz : ie.sz = szE e) (het : et = etOf e) {cs : List C} (hz : toCs (fun _ => none) (cells e (dflt e)) ie.z = some cs) (hcs : cs = cells e (dflt e)) (hc : c.callee = .builtin .clear) (hca : c.args.toList = [x]) (hct : c.argTypes.toList = [t]) (ho : o.op = .call c)
 (hv : clearA (get σ0.hp) e (ev σ0 x) K) : ∃ r dh rd, K r dh rd ∧ Snd P n o σ0 r dh rd := by
 obtain ⟨callee, args, argTypes⟩ := c
 obtain rfl : args = #[x] := by cases args; simp_all
 obtain rfl : argTypes = #[t] := by cases argTypes; simp_all
 simp only at hc
 subst hc
 unfold clearA at hv
 split at hv
 · rename_i i0 z b o1 m hvx
   split at hv
   · rename_i e1 ws hz1 hg
     obtain rfl := Nat.eq_of_beq_eq_true hz1
     split at hv
     · rename_i xs hw
       obtain ⟨h4, hv⟩ := hv
       refine ⟨_, _, _, hv, fun σ hs => ?_⟩
       obtain ⟨rfl, h8, h9⟩ := castTy_ok _ _ _ _ hw
       have hws : ws = xs := by
        clear hv hs
        cases e <;> simp [castTy] at hw <;> exact hw
       subst hws
       subst hcs
       obtain ⟨hxj, hgj⟩ := isVw_some hvx
       have h3 := hs.1
       rw [ho] at h3
       exact val_clear hT hd (und_sl (hT t i hi) hk) (hT et ie hie) hsz het ho hz ((h3 x (by simp [Op.operands, Call.operands])).trans hxj) (by rw [hs.2 i0 (.inl (by simp))]; exact hgj) (by rw [hs.2 b (.inl (by simp))]; exact hg) h4
     · exact hv.elim
   · exact hv.elim
 · exact hv.elim
theorem snd_sliceV {t et : Nat} {i ie : TI} {e e' : Ty} (hi : get T t = some i) (hk : i.k = .sl e' et) (hie : get T et = some ie) {x : Operand} {lo hi' : Option Operand} (ho : o.op = .slice t x lo hi' none) {xs : List (El e)} {b off m : Nat} {rd : List Nat} (hb : b ∈ rd) (hg : get σ0.hp b = some (.row e xs))
 (hx : (ev σ0 x = .rw b ∧ off = 0 ∧ m = xs.length) ∨ ∃ i z, ev σ0 x = .rw i ∧ get σ0.hp i = some (.vw z b off m) ∧ i ∈ rd ∧ z = ie.sz) (hv : sliceV (get σ0.hp) ie.sz e xs.length b off m (lo.map (ev σ0)) (hi'.map (ev σ0)) σ0.nx rd K) : ∃ r dh rd, K r dh rd ∧ Snd P n o σ0 r dh rd := by
 unfold sliceV at hv
 split at hv
 · rename_i l r hsz hl hr
   have hsz := Nat.eq_of_beq_eq_true hsz
   obtain ⟨h0, hv⟩ := hv
   obtain ⟨h1, hv⟩ := fresh_ok hv
   refine ⟨_, _, _, hv, fun σ hs => ?_⟩
   have h3 := hs.1
   rw [ho] at h3
   have hx3 : ev σ x = ev σ0 x := h3 x (by simp [Op.operands])
   have hl3 : lo.map (ev σ) = lo.map (ev σ0) := by cases lo <;> simp; exact h3 _ (by simp [Op.operands])
   have hr3 : hi'.map (ev σ) = hi'.map (ev σ0) := by cases hi' <;> simp; exact h3 _ (by simp [Op.operands])
   rw [hsz]
   refine val_sliceV hT hd (und_sl (hT t i hi) hk) (hT et ie hie) hsz ho (by rw [hs.2 b (.inl hb)]; exact hg) (by rw [hs.2 σ0.nx (.inr (by simp [keys]))]; exact h1) ?_ (by rw [hl3]; exact hl) (by rw [hr3]; exact hr) h0
   rcases hx with ⟨h4, h5, h6⟩ | ⟨i, z, h4, h5, h6, h7⟩
   · exact .inl ⟨hx3.trans h4, h5, h6⟩
   · exact .inr ⟨i, hx3.trans h4, by rw [hs.2 i (.inl h6), h5, h7, hsz]⟩
 · exact hv.elim
theorem snd_sliceR {t et : Nat} {i ie : TI} {e' : Ty} (hi : get T t = some i) (hk : i.k = .sl e' et) (hie : get T et = some ie) {x : Operand} {lo hi' mx : Option Operand} (hop : o.op = .slice t x lo hi' mx) (hv : sliceR (get σ0.hp) ie.sz (ev σ0 x) (lo.map (ev σ0)) (hi'.map (ev σ0)) (mx.map (ev σ0)) fun r dh => K r dh (rdOf (ev σ0 x))) : ∃ r dh rd, K r dh rd ∧ Snd P n o σ0 r dh rd := by
 unfold sliceR at hv
 split at hv
 · rename_i e' xs hmx hr
   have hmx' : mx = none := by cases mx with | none => rfl | some y => simp at hmx
   subst hmx'
   split at hv
   · rename_i l r hsz hl hr'
     exact snd_slice_row hT hd hi hk hie (Nat.eq_of_beq_eq_true hsz) hop hr hl hr' hv.1 hv.2
   · exact hv.elim
 · exact hv.elim
theorem snd_sliceX {t et : Nat} {i ie : TI} {e' : Ty} (hi : get T t = some i) (hk : i.k = .sl e' et) (hie : get T et = some ie) {x : Operand} {lo hi' mx : Option Operand} (hop : o.op = .slice t x lo hi' mx) (hv : sliceX (get σ0.hp) ie.sz (ev σ0 x) (lo.map (ev σ0)) (hi'.map (ev σ0)) (mx.map (ev σ0)) σ0.nx K) : ∃ r dh rd, K r dh rd ∧ Snd P n o σ0 r dh rd := by
 unfold sliceX at hv
 split at hv
 · rename_i id hx
   split at hv
   · rename_i e xs hg
     split at hv
     · rename_i hmx
       have hmx' : mx = none := by cases mx with | none => rfl | some y => simp at hmx
       subst hmx'
       rcases hv with hv | hv
       · exact snd_sliceR hT hd hi hk hie hop (by rw [hx]; exact hv)
       · exact snd_sliceV hT hd hi hk hie hop (by simp) hg (.inl ⟨hx, rfl, rfl⟩) hv
     · rename_i q hmx
       split at hv
       · rename_i l k r k' m hl hr
         obtain ⟨⟨h01, h02, h03, h04⟩, hv⟩ := hv
         refine ⟨_, _, _, hv, snd_of fun σ h3 h4 => val_pure hd fun {w0 L0 F0 F V B a w} hs => ?_⟩
         rw [hop] at h3
         have hx3 : ev σ x = ev σ0 x := h3 x (by simp [Op.operands])
         obtain ⟨A0, c, us, h5, h6, _⟩ := isRow_rep hs (x := x) (h := get σ.hp) (fun _ _ => rfl) (e := e) (xs := xs) (by rw [hx3, hx]; simp [isRow, h4 id (by simp), hg])
         cases hi' with
         | none => simp at hr
         | some yh =>
           cases mx with
           | none => simp at hmx
           | some ym =>
             simp only [Option.map_some, Option.some.injEq] at hr hmx
             have hl3 : lo.map (ev σ) = lo.map (ev σ0) := by cases lo <;> simp; exact h3 _ (by simp [Op.operands])
             obtain ⟨ml, kl, hml, hgl⟩ := iOf_some (by rw [hl3]; exact hl) hs.rep
             have hyh := rep_int (by rw [← hr, ← h3 yh (by simp [Op.operands])]; exact hs.rep yh)
             have hym := rep_int (by rw [← hmx, ← h3 ym (by simp [Op.operands])]; exact hs.rep ym)
             have hrun : ∃ v, (Instr.sliceAt t (.slice A0 xs.length c) (ml.map fun n => .int (kl n) n) (some (.int k r)) (some (.int k' m))).run P w = .ok v w := by
              have e1 : 0 ≤ m ∧ m ≤ c := by omega
              have e2 : 0 ≤ r ∧ r ≤ m.toNat := by omega
              have e4 : r ≤ max m 0 := by omega
              cases ml with
              | none => exact ⟨_, by simp [Instr.sliceAt, Instr.slice, run_underlying (und_sl (hT t i hi) hk), Instr.sliceBounds, Instr.sliceBound, asIntOf, size_of (hT et ie hie), e1, e2, e4]; rfl⟩
              | some ll =>
                simp only [Option.getD_some] at hgl
                subst hgl
                have e3 : 0 ≤ ll ∧ ll ≤ r.toNat := by omega
                have e5 : ll ≤ max r 0 := by omega
                exact ⟨_, by simp [Instr.sliceAt, Instr.slice, run_underlying (und_sl (hT t i hi) hk), Instr.sliceBounds, Instr.sliceBound, asIntOf, size_of (hT et ie hie), e1, e2, e3, e4, e5]; rfl⟩
             obtain ⟨vv, hrun⟩ := hrun
             exact ⟨⟨vv, by simp only [execOp, hop, hml, h5, Option.map_some, hyh, hym]; simp [hrun], .un _⟩, by simp [A.all]⟩
       · exact hv.elim
   · rename_i z b off m hg
     split at hv
     · rename_i e xs hmx hb hz
       have hmx' : mx = none := by cases mx with | none => rfl | some y => simp at hmx
       subst hmx'
       exact snd_sliceV hT hd hi hk hie hop (by simp) hb (.inr ⟨id, z, hx, hg, by simp, Nat.eq_of_beq_eq_true hz⟩) hv
     · exact hv.elim
   · exact snd_sliceR hT hd hi hk hie hop (by rw [hx]; exact hv)
 · rename_i hx
   split at hv
   · rename_i l r hmx hl hr
     have hmx' : mx = none := by cases mx with | none => rfl | some y => simp at hmx
     subst hmx'
     obtain ⟨⟨h0, h0'⟩, hv⟩ := hv
     subst h0
     subst h0'
     refine ⟨_, _, _, hv, snd_of fun σ h3 h4 => val_pure hd fun {w0 L0 F0 F V B a w} hs => ?_⟩
     rw [hop] at h3
     have hx3 : ev σ x = ev σ0 x := h3 x (by simp [Op.operands])
     have hl3 : lo.map (ev σ) = lo.map (ev σ0) := by cases lo <;> simp; exact h3 _ (by simp [Op.operands])
     have hr3 : hi'.map (ev σ) = hi'.map (ev σ0) := by cases hi' <;> simp; exact h3 _ (by simp [Op.operands])
     obtain ⟨ml, kl, hml, hgl⟩ := iOf_some (by rw [hl3]; exact hl) hs.rep
     obtain ⟨mh, kh, hmh, hgh⟩ := iOf_some (by rw [hr3]; exact hr) hs.rep
     have hrr := hs.rep x
     rw [hx3, hx] at hrr
     generalize hpv : a.eval x = pv at hrr
     cases hrr
     have hrun := run_sliceAt_cap (P := P) (w := w) (und_sl (hT t i hi) hk) (hT et ie hie) (A0 := none) (m := 0) (c := 0) hgl hgh (by omega) (by omega) (by omega) (kl := kl) (kh := kh)
     exact ⟨⟨.slice none 0 0, by simp only [execOp, hop, hml, hmh, hpv, Option.map_none]; simp [hrun], .nl⟩, by simp [A.all]⟩
   · exact hv.elim
 · exact snd_sliceR hT hd hi hk hie hop hv
omit hT in
theorem snd_mm {c : Call} {x y : Operand} {k k' : IntKind} {a b r : Int} (hc : (c.callee = .builtin .max ∧ r = if b > a then b else a) ∨ (c.callee = .builtin .min ∧ r = if b < a then b else a)) (hca : c.args.toList = [x, y]) (ho : o.op = .call c) (hx : ev σ0 x = .c (.int k a)) (hy : ev σ0 y = .c (.int k' b)) (hv : K (.c (.int k r)) [] []) : ∃ r dh rd, K r dh rd ∧ Snd P n o σ0 r dh rd := by
 refine ⟨_, _, _, hv, snd_of fun σ h3 _ => ?_⟩
 rw [ho] at h3
 have hcb : ∃ bi, c.callee = .builtin bi := by rcases hc with ⟨h, _⟩ | ⟨h, _⟩ <;> exact ⟨_, h⟩
 obtain ⟨bi, hcb⟩ := hcb
 have hx3 := h3 x (by simp [Op.operands, Call.operands, hcb]; rw [← Array.mem_toList_iff, hca]; simp)
 have hy3 := h3 y (by simp [Op.operands, Call.operands, hcb]; rw [← Array.mem_toList_iff, hca]; simp)
 refine val_pure hd fun hs => ⟨⟨.int k r, ?_, .c (.int _ _)⟩, by simp [A.all]⟩
 have h1 := rep_int (by rw [← hx, ← hx3]; exact hs.rep x)
 have h2 := rep_int (by rw [← hy, ← hy3]; exact hs.rep y)
 obtain ⟨callee, args, argTypes⟩ := c
 simp only at hca hcb
 obtain rfl : args = #[x, y] := by apply Array.toList_inj.1; simpa using hca
 rcases hc with ⟨hc, rfl⟩ | ⟨hc, rfl⟩ <;> simp only at hc <;> subst hc
 · simp [execOp, ho, resolve, invoke, builtin, h1, h2, Builtin.max_, Builtin.max2]
 · simp [execOp, ho, resolve, invoke, builtin, h1, h2, Builtin.min_, Builtin.min2]
theorem op_sound (hR : Real n σ0) (hv : opRes P T (ev σ0) (get σ0.hp) σ0.nx o.op K) : ∃ r dh rd, K r dh rd ∧ Snd P n o σ0 r dh rd := by
 cases hop : o.op <;> rw [hop] at hv
 case move x => exact snd_move hd (.inl hop) hv
 case assign x =>
  simp only [opRes] at hv
  split at hv
  · rename_i i z b o1 m hw
    split at hv
    · rename_i e xs hg
      rcases hv with hv | hv
      · exact snd_move hd (.inr hop) hv
      · split at hv
        · rename_i hz h0
          obtain rfl := Nat.eq_of_beq_eq_true hz
          obtain rfl := Nat.eq_of_beq_eq_true h0
          obtain ⟨hm, hv⟩ := hv
          obtain ⟨h1, hv⟩ := fresh_ok hv
          refine ⟨_, _, _, hv, fun σ hs => ?_⟩
          have h3 := hs.1
          rw [hop] at h3
          obtain ⟨hxi, hgi⟩ := isVw_some hw
          exact val_cut hd hop ((h3 x (by simp [Op.operands])).trans hxi) (by rw [hs.2 i (.inl (by simp))]; exact hgi) (by rw [hs.2 b (.inl (by simp))]; exact hg) (by rw [hs.2 σ0.nx (.inr (by simp [keys]))]; exact h1) hm
        · exact hv.elim
    · exact snd_move hd (.inr hop) hv
  · exact snd_move hd (.inr hop) hv
 case pick c a b => exact snd_pick hd hop hv
 case nilCheck x => exact snd_nil hd hop hv
 case alloc t =>
  simp only [opRes] at hv
  split at hv
  · rename_i i hi; exact snd_alloc hT hd hi hop hv
  · exact hv.elim
 case box t x =>
  simp only [opRes] at hv
  split at hv
  · rename_i l hl; exact snd_box hd hop hl hv
  · exact hv.elim
 case build t parts =>
  simp only [opRes] at hv
  split at hv
  · rename_i i hi
    split at hv
    · rename_i fs hk
      split at hv
      · rename_i l hall hl; exact snd_build hT hd hi hk hop hall hl hv
      · exact hv.elim
    · exact hv.elim
  · exact hv.elim
 case buildSlice t m parts =>
  simp only [opRes] at hv
  split at hv
  · rename_i i hi
    split at hv
    · rename_i e et hk
      split at hv
      · rename_i ie hie
        split at hv
        · rename_i h1 h2; exact snd_lit hT hd hi hk hie (Nat.eq_of_beq_eq_true h1) (Nat.eq_of_beq_eq_true h2) hop hv
        · exact hv.elim
      · exact hv.elim
    · exact hv.elim
  · exact hv.elim
 case load t p =>
  simp only [opRes] at hv
  split at hv
  · rename_i i hi; exact snd_load hT hd hi hop hv
  · exact hv.elim
 case store t p v =>
  simp only [opRes] at hv
  split at hv
  · rename_i i hi; exact snd_store hT hd hi hop hv
  · exact hv.elim
 case binOp op t x y t' =>
  simp only [opRes] at hv
  split at hv
  · rename_i b hq
    obtain ⟨h1, hv⟩ := fresh_ok hv
    unfold nilQ at hq
    split at hq
    · rename_i hy hsl
      split at hq
      · rename_i e xs hx
        cases hq
        refine ⟨_, _, _, hv, fun σ hs => ?_⟩
        have h3 := hs.1
        rw [hop] at h3
        have hx3 : ev σ x = ev σ0 x := h3 x (by simp [Op.operands])
        have hy3 : ev σ y = ev σ0 y := h3 y (by simp [Op.operands])
        refine val_nilQ hd hT hop (by rw [hs.2 σ0.nx (.inr (by simp [keys]))]; exact h1) (by rw [hx3, isRowD_congr (fun id hid => hs.2 id (.inl hid))]; exact hx) (hy3.trans hy) ?_
        unfold isSlT at hsl
        split at hsl
        · rename_i i hi
          split at hsl
          · rename_i e' et hk; exact ⟨et, und_sl (hT t i hi) hk⟩
          · cases hsl
        · cases hsl
      · cases hq
    · cases hq
  · unfold structQ at hv
    split at hv
    · rename_i l l' hx hy _
      split at hv
      · rename_i b hb
        obtain ⟨h0, hv⟩ := hv
        refine ⟨_, _, _, hv, snd_of fun σ h3 _ => ?_⟩
        rw [hop] at h3
        exact snd_struct hd (.inl rfl) hop ((h3 x (by simp [Op.operands])).trans hx) ((h3 y (by simp [Op.operands])).trans hy) hb h0
      · exact hv.elim
    · rename_i l l' hx hy _
      split at hv
      · rename_i b hb
        obtain ⟨h0, hv⟩ := hv
        refine ⟨_, _, _, hv, snd_of fun σ h3 _ => ?_⟩
        rw [hop] at h3
        exact snd_struct hd (.inr rfl) hop ((h3 x (by simp [Op.operands])).trans hx) ((h3 y (by simp [Op.operands])).trans hy) hb h0
      · exact hv.elim
    · exact snd_bin hT hd hop hv
 case unOp op t x => exact snd_un hd hop hv
 case convert s d x =>
  simp only [opRes] at hv
  split at hv
  · rename_i is id h1 h2
    refine snd_convB hT hd h1 h2 hop (fun hv => ?_) hv
    split at hv
    · rename_i h3; exact snd_conv hT hd h1 h2 hop h3 hv
    · exact hv.elim
  · exact hv.elim
 case makeFunc fn first caps =>
  cases fn
  case func f =>
   simp only [opRes] at hv
   split at hv
   · rename_i hf; exact snd_makeFunc hd hf hop hv
   · exact hv.elim
  all_goals exact (hv : False).elim
 case makeSlice t x y =>
  simp only [opRes] at hv
  split at hv
  · rename_i i hi
    split at hv
    · rename_i e et hk
      split at hv
      · rename_i ie hie
        split at hv
        · rename_i cs h1 h2 h3 h4
          exact snd_make hT hd hi hk hie (Nat.eq_of_beq_eq_true h1) (Nat.eq_of_beq_eq_true h2) (Nat.eq_of_beq_eq_true h3) hop h4 hv.1 hv.2
        · exact hv.elim
      · exact hv.elim
    · exact hv.elim
  · exact hv.elim
 case slice t x lo hi mx =>
  simp only [opRes] at hv
  split at hv
  · rename_i i hi
    split at hv
    · rename_i e et hk
      split at hv
      · rename_i ie hie
        exact snd_sliceX hT hd hi hk hie hop hv
      · exact hv.elim
    · rename_i hk
      unfold sliceS at hv
      split at hv
      · rename_i s hmx hx
        have hmx' : mx = none := by cases mx with | none => rfl | some y => simp at hmx
        subst hmx'
        split at hv
        · rename_i l r hl hr'
          exact snd_slice_str hT hd hi hk hop hx hl hr' hv.1 hv.2
        · exact hv.elim
      · exact hv.elim
    · exact hv.elim
  · exact hv.elim
 case fieldAddr t x f =>
  simp only [opRes] at hv
  split at hv
  · rename_i i hi
    split at hv
    · rename_i fs hk
      split at hv
      · rename_i off ft hf
        split at hv
        · rename_i fi hfi
          split at hv
          · rename_i hz; exact snd_fieldAddr hT hd hi hk hf hfi hz hop hv
          · exact hv.elim
        · exact hv.elim
      · exact hv.elim
    · exact hv.elim
  · exact hv.elim
 case field t x f =>
  simp only [opRes] at hv
  split at hv
  · rename_i i hi
    split at hv
    · rename_i fs hk
      split at hv
      · rename_i off ft l hf hx
        split at hv
        · rename_i fi hfi
          split at hv
          · rename_i a ha; exact snd_field hT hd hi hk hf hfi hop hx ha hv
          · exact hv.elim
        · exact hv.elim
      · exact hv.elim
    · exact hv.elim
  · exact hv.elim
 case indexAddr t x j =>
  simp only [opRes] at hv
  split at hv
  · rename_i i hi
    split at hv
    · rename_i e et hk
      split at hv
      · rename_i ie hie; exact snd_indexAddr hT hd hR hi hk hie hop hv
      · exact hv.elim
    · exact hv.elim
  · exact hv.elim
 case index t x j =>
  simp only [opRes] at hv
  split at hv
  · rename_i i hi
    split at hv
    · rename_i hk; exact snd_index hT hd hi hk hop hv
    · exact hv.elim
  · exact hv.elim
 case extract x j =>
  simp only [opRes] at hv
  split at hv
  · rename_i l hx
    split at hv
    · rename_i a ha; exact snd_extract hd hop hx ha hv
    · exact hv.elim
  · exact hv.elim
 case call c =>
  simp only [opRes] at hv
  split at hv
  · rename_i f hc
    split at hv
    · rename_i g caps hf; rw [fcL_eq] at hv; exact snd_call hd hop hc hf hv
    · exact hv.elim
  · rename_i hc
    split at hv
    · rename_i x t hca hct
      split at hv
      · rename_i i hi
        split at hv
        · rename_i e et hk
          exact snd_len hT hd hR hi hk hc hca hct hop hv
        · rename_i hk
          unfold lenS at hv
          split at hv
          · rename_i s hx; exact snd_len_str hT hd hR hi hk hc hca hct hop hx hv
          · exact hv.elim
        · exact hv.elim
      · exact hv.elim
    · exact hv.elim
  · rename_i hc
    split at hv
    · rename_i x y hca
      split at hv
      · rename_i k a k' b hx hy
        split at hv
        · exact snd_mm hd (.inl ⟨hc, rfl⟩) hca hop hx hy hv
        · exact hv.elim
      · exact hv.elim
    · exact hv.elim
  · rename_i hc
    split at hv
    · rename_i x y hca
      split at hv
      · rename_i k a k' b hx hy
        split at hv
        · exact snd_mm hd (.inr ⟨hc, rfl⟩) hca hop hx hy hv
        · exact hv.elim
      · exact hv.elim
    · exact hv.elim
  · rename_i hc
    split at hv
    · rename_i s x t t' hca hct
      split at hv
      · rename_i i hi
        split at hv
        · rename_i e et hk
          split at hv
          · rename_i ie hie
            split at hv
            · rename_i h1 h2 h3
              split at hv
              · rename_i htt
                have ht : t = t' := Nat.eq_of_beq_eq_true htt
                subst ht
                refine snd_app hT hd hR hi hk hie (Nat.eq_of_beq_eq_true h1) (Nat.eq_of_beq_eq_true h2) (Nat.eq_of_beq_eq_true h3) ?_ hop hv
                obtain ⟨callee, args, argTypes⟩ := c
                simp only at hc hca hct
                subst hc
                unfold appCall
                congr
                · apply Array.toList_inj.1; simpa using hca
                · apply Array.toList_inj.1; simpa using hct
              · split at hv
                · rename_i i' cs hi' hz
                  split at hv
                  · rename_i hk'
                    obtain ⟨hcs, hv⟩ := hv
                    refine snd_appZ hT hd hi hk hi' hk' hie (Nat.eq_of_beq_eq_true h1) (Nat.eq_of_beq_eq_true h2) (Nat.eq_of_beq_eq_true h3) hz hcs ?_ hv
                    obtain ⟨callee, args, argTypes⟩ := c
                    simp only at hc hca hct
                    subst hc
                    rw [hop]
                    congr
                    · apply Array.toList_inj.1; simpa using hca
                    · apply Array.toList_inj.1; simpa using hct
                  · exact hv.elim
                · exact hv.elim
            · exact hv.elim
          · exact hv.elim
        · exact hv.elim
      · exact hv.elim
    · exact hv.elim
  · rename_i hc
    split at hv
    · rename_i x t hca hct
      split at hv
      · rename_i i hi
        split at hv
        · rename_i e et hk
          split at hv
          · rename_i hx; exact snd_capnl hd (und_sl (hT t i hi) hk) hc hca hct hop hx hv
          · exact hv.elim
        · exact hv.elim
      · exact hv.elim
    · exact hv.elim
  · rename_i hc
    split at hv
    · rename_i x t hca hct
      split at hv
      · rename_i i hi
        split at hv
        · rename_i e et hk
          split at hv
          · rename_i ie hie
            split at hv
            · rename_i cs h1 h3 hz
              obtain ⟨hcs, hv⟩ := hv
              exact snd_clear hT hd hi hk hie (Nat.eq_of_beq_eq_true h1) (Nat.eq_of_beq_eq_true h3) hz hcs hc hca hct hop hv
            · exact hv.elim
          · exact hv.elim
        · exact hv.elim
      · exact hv.elim
    · exact hv.elim
  · exact hv.elim
 all_goals exact (hv : False).elim
end
end Go.Proofs.YthbpdhppelaihaaGreat
/- REGIONS: the operations one behind the other; where the tape draws, in every order that the edges leave open. Conditions: none. -/
namespace Go.Proofs.YthbpdhppelaihaaGreat
open Go.RowKit
variable {P : Program} {T : List (Nat × TI)}
def dstOf : List Oper → Nat → Option Nat
 | [], _ => none
 | o :: _, 0 => o.dst
 | _ :: l, n + 1 => dstOf l n
def guardSt (ops : List Oper) (σ : St) (o : Oper) : Option Bool :=
 match o.guard with
 | none => some true
 | some (g, want) => match dstOf ops g with
   | some d => match σ.tmp d with
     | .kb true => some (match want with | true => true | false => false)
     | .kb false => some (match want with | true => false | false => true)
     | .tp [] => some false
     | _ => none
   | none => none
def guardTmps (ops : List Oper) : List Oper → List Nat
 | [] => []
 | o :: l => match o.guard with
   | none => guardTmps ops l
   | some (g, _) => match dstOf ops g with
     | some d => d :: guardTmps ops l
     | none => guardTmps ops l
def isG (gs : List Nat) : Option Nat → Bool
 | some d => memN d gs
 | none => false
def splitB (b : Bool) (r : A) (K : A → Prop) : Prop :=
 match b with
 | false => K r
 | true => match r with
   | .c (.bool t) => Case t (K (.kb true)) (K (.kb false))
   | r => K r
structure Ct where
 wt : List Nat
 rt : List Nat
 wi : List Nat
 ri : List Nat
def tmpsOf : List Operand → List Nat
 | [] => []
 | .tmp t :: l => t :: tmpsOf l
 | _ :: l => tmpsOf l
def optL : Option Nat → List Nat
 | some d => [d]
 | none => []
def grdL (ops : List Oper) (o : Oper) : List Nat :=
 match o.guard with
 | none => []
 | some (g, _) => optL (dstOf ops g)
def ctOf (ops : List Oper) (o : Oper) (dh : Hp) (rd : List Nat) : Ct := ⟨optL o.dst, grdL ops o ++ tmpsOf o.op.operands.toList, keys dh, rd⟩
structure Nx (σ : St) (K : St → Prop) : Prop where
 h : K σ
structure Rg (σ : St) (K : St → Prop) (f : St → (St → Prop) → Prop) : Prop where
 h : f σ K
def vcOps (P : Program) (T : List (Nat × TI)) (ops : List Oper) (gs : List Nat) : List Oper → St → List Ct → (St → List Ct → Prop) → Prop
 | [], σ, es, K => K σ es
 | o :: rest, σ, es, K => match guardSt ops σ o with
   | some true => opRes P T (ev σ) (get σ.hp) σ.nx o.op fun r dh rd => splitB (isG gs o.dst) r fun r' => fcA r' fun r' => fcH dh fun dh => fcN (σ.nx + dh.length) fun m => Nx { σ.upd o.dst r' dh with nx := m } fun s => vcOps P T ops gs rest s (es ++ [ctOf ops o dh rd]) K
   | some false => Nx (σ.upd o.dst (.tp []) []) fun s => vcOps P T ops gs rest s (es ++ [ctOf ops o [] []]) K
   | none => False
def inter : List Nat → List Nat → Bool
 | [], _ => false
 | n :: l, l' => match memN n l' with
   | true => true
   | false => inter l l'
theorem inter_spec {l l' : List Nat} (h : inter l l' = false) {n : Nat} (hn : n ∈ l) : n ∉ l' := by
 induction l with
 | nil => simp at hn
 | cons k l ih =>
   simp only [inter] at h
   cases hm : memN k l' with
   | true => rw [hm] at h; cases h
   | false =>
     rw [hm] at h
     rcases List.mem_cons.1 hn with rfl | h1
     · intro h2; rw [memN_iff.2 h2] at hm; cases hm
     · exact ih h h1
def Ct.conf (a b : Ct) : Bool :=
 match inter a.wt b.rt, inter a.wt b.wt, inter a.rt b.wt, inter a.wi b.ri, inter a.wi b.wi, inter a.ri b.wi with
 | false, false, false, false, false, false => false
 | _, _, _, _, _, _ => true
def direct (o : Oper) : List Nat := (o.after.toList.filter fun e => Region.binds .any e).map (·.on)
def union : List Nat → List Nat → List Nat
 | [], l' => l'
 | n :: l, l' => match memN n l' with
   | true => union l l'
   | false => n :: union l l'
def unionAll (cl : List (List Nat)) : List Nat → List Nat
 | [] => []
 | i :: l => union (cl.getD i []) (unionAll cl l)
def closure : List Oper → List (List Nat) → List (List Nat)
 | [], cl => cl
 | o :: l, cl => closure l (cl ++ [union (direct o) (unionAll cl (direct o))])
def ordTo (cl : List Nat) (c : Ct) : List Ct → Nat → Bool
 | [], _ => true
 | a :: l, i => match a.conf c with
   | false => ordTo cl c l (i + 1)
   | true => match memN i cl with
     | true => ordTo cl c l (i + 1)
     | false => false
def ordOk : List (List Nat) → List Ct → List Ct → Bool
 | _, _, [] => true
 | [], _, _ :: _ => false
 | cl :: cls, pre, c :: l => match ordTo cl c pre 0 with
   | true => ordOk cls (pre ++ [c]) l
   | false => false
def backOk : List Oper → Nat → Bool
 | [], _ => true
 | o :: l, j => (direct o).all (fun i => Nat.blt i j) && backOk l (j + 1)
def dstOk (n : Nat) : List Oper → Bool
 | [] => true
 | o :: l => (match o.dst with | some d => Nat.blt d n | none => true) && dstOk n l
def vcReg (P : Program) (T : List (Nat × TI)) (n : Nat) (ops : List Oper) (draw : Bool) (σ : St) (K : St → Prop) : Prop :=
 match dstOk n ops, draw with
 | true, false => vcOps P T ops (guardTmps ops ops) ops σ [] fun σ' _ => K σ'
 | true, true => match backOk ops 0 with
   | true => vcOps P T ops (guardTmps ops ops) ops σ [] fun σ' es => Need (ordOk (closure ops []) [] es = true) (K σ')
   | false => False
 | false, _ => False
theorem tmp_upd (σ : St) (d : Option Nat) (r : A) (dh : Hp) (t : Nat) : (σ.upd d r dh).tmp t = if d = some t then r else σ.tmp t := by
 cases d with
 | none => simp [St.upd, St.tmp]
 | some d =>
   have := σ.tmp_put d r t
   simp only [St.put, St.tmp] at this
   simp only [St.upd, St.tmp, this, Option.some.injEq]
theorem Val.split {n : Nat} {o : Oper} {σ : St} {t : Bool} {dh : Hp} (h : Val P n o σ (σ.upd o.dst (.c (.bool t)) dh)) : Val P n o σ (σ.upd o.dst (.kb t) dh) := by
 intro w0 L0 F0 F V B a w hs K Q hK
 refine h hs K Q fun F' V' B' a' w' hs' => hK F' V' B' a' w' ?_
 refine ⟨hs'.fr, hs'.df, hs'.tsz, hs'.V1, hs'.F_lt, hs'.F_new, hs'.F0_F, hs'.hp, hs'.own, fun x => ?_, fun x => ?_, hs'.keep⟩
 · have := hs'.env x
   rw [tmp_upd] at this ⊢
   split
   · rename_i hd
     rw [if_pos hd] at this
     generalize a'.tmps.getD x undef = v at this
     cases this with | c h => cases h; exact .kb t
   · rename_i hd; rw [if_neg hd] at this; exact this
 · have := hs'.ids x
   rw [tmp_upd] at this ⊢
   split
   · simp [A.all]
   · rename_i hd; rw [if_neg hd] at this; exact this
theorem Snd.split {n : Nat} {o : Oper} {σ : St} {r : A} {dh : Hp} {rd : List Nat} (h : Snd P n o σ r dh rd) {b : Bool} {K : A → Prop} (hk : splitB b r K) : ∃ r', K r' ∧ Snd P n o σ r' dh rd := by
 unfold splitB at hk
 split at hk
 · exact ⟨_, hk, h⟩
 · split at hk
   · rename_i t
     cases t
     · exact ⟨_, hk.r rfl, fun σ' hs => (h σ' hs).split⟩
     · exact ⟨_, hk.l rfl, fun σ' hs => (h σ' hs).split⟩
   · exact ⟨_, hk, h⟩
theorem dstOf_get : ∀ (ops : List Oper) (g : Nat), dstOf ops g = (ops[g]?).bind (·.dst)
 | [], g => by simp [dstOf]
 | o :: l, 0 => by simp [dstOf]
 | o :: l, g + 1 => by simp [dstOf, dstOf_get l g]
theorem wanted_of {n : Nat} {w0 : World} {L0 : Old} {F0 F : Nat → Prop} {V : Nat → Value} {B : Nat → List Nat} {σ : St} {a : Act} {w : World} (hs : Sim n w0 L0 F0 F V B σ a w) {ops : List Oper} {o : Oper} {b : Bool} (hg : guardSt ops σ o = some b) : Region.wanted o (yielded ops.toArray a.tmps) = b := by
 unfold guardSt at hg
 unfold Region.wanted
 split at hg
 · rename_i h; rw [h]; simpa using hg
 · rename_i g want h
   rw [h]
   simp only
   split at hg
   · rename_i d hd
     rw [dstOf_get] at hd
     have he := hs.env d
     have key : yielded ops.toArray a.tmps g = match a.tmps[d]? with | some (.bool b) => some b | _ => none := by
      unfold yielded
      rw [List.getElem?_toArray, hd]
      rfl
     rw [key]
     rw [Array.getD_eq_getD_getElem?] at he
     split at hg
     · rename_i hr
       rw [hr] at he
       cases htm : a.tmps[d]? with
       | none => rw [htm] at he; have := rep_bool he rfl; cases this
       | some v =>
         rw [htm] at he
         have := rep_bool he rfl
         simp only [Option.getD_some] at this
         subst this
         cases hg
         cases want <;> rfl
     · rename_i hr
       rw [hr] at he
       cases htm : a.tmps[d]? with
       | none => rw [htm] at he; have := rep_bool he rfl; cases this
       | some v =>
         rw [htm] at he
         have := rep_bool he rfl
         simp only [Option.getD_some] at this
         subst this
         cases hg
         cases want <;> rfl
     · rename_i hr
       rw [hr] at he
       cases hg
       cases htm : a.tmps[d]? with
       | none => rfl
       | some v =>
         rw [htm] at he
         simp only [Option.getD_some] at he
         cases he
         rfl
     · cases hg
   · cases hg
theorem skip_sim {n : Nat} {w0 : World} {L0 : Old} {F0 F : Nat → Prop} {V : Nat → Value} {B : Nat → List Nat} {σ : St} {a : Act} {w : World} (hs : Sim n w0 L0 F0 F V B σ a w) {d : Option Nat} (hd : ∀ x, d = some x → x < n) : Sim n w0 L0 F0 F V B (σ.upd d (.tp []) []) (a.put d undef) w :=
 hs.putd hd (v := undef) (r := .tp []) (.tp .nil) (by simp [A.all, allL]) _
theorem dstOk_mem {n : Nat} : ∀ {ops : List Oper}, dstOk n ops = true → ∀ o ∈ ops, ∀ d, o.dst = some d → d < n
 | [], _, o, ho => by simp at ho
 | o' :: l, h, o, ho => by
   simp only [dstOk, Bool.and_eq_true] at h
   rcases List.mem_cons.1 ho with rfl | ho
   · intro d hd
     rw [hd] at h
     have := h.1
     simp at this
     exact this
   · exact dstOk_mem h.2 o ho
variable (hT : ∀ t i, get T t = some i → TOk P t i)
include hT
theorem ops_sound {n : Nat} {ops : List Oper} (hd : dstOk n ops = true) {gs : List Nat} {K : St → List Ct → Prop} {Q : Exit → Act → World → Prop} {w0 : World} {L0 : Old} {F0 : Nat → Prop} (hK : ∀ σ es F V B a w, K σ es → Sim n w0 L0 F0 F V B σ a w → Q .normal a w) :
 ∀ (rest : List Oper) (i : Nat) (σ : St) (es : List Ct) (F : Nat → Prop) (V : Nat → Value) (B : Nat → List Nat) (a : Act) (w : World), (∀ j, rest[j]? = ops[i + j]?) → Sim n w0 L0 F0 F V B σ a w → vcOps P T ops gs rest σ es K → wpOps P ops.toArray Q (List.range' i rest.length) a w
 | [], i, σ, es, F, V, B, a, w, hj, hs, hv => by
   simp only [List.length_nil, List.range'_zero, wpOps]
   exact hK σ es F V B a w hv hs
 | o :: rest, i, σ, es, F, V, B, a, w, hj, hs, hv => by
   have h0 : ops[i]? = some o := by have := hj 0; simpa using this.symm
   have hrest : ∀ j, rest[j]? = ops[i + 1 + j]? := fun j => by have := hj (j + 1); simpa [Nat.add_assoc, Nat.add_comm 1 j] using this
   have hdo := dstOk_mem hd o (List.mem_of_getElem? h0)
   simp only [List.length_cons, List.range'_succ, wpOps]
   rw [List.getElem?_toArray, h0]
   dsimp only
   simp only [vcOps] at hv
   split at hv
   · rename_i hg
     rw [wanted_of hs hg]
     simp only [if_true]
     obtain ⟨r, dh, rd, hk, hsd⟩ := op_sound hT hdo ⟨w0, L0, F0, F, V, B, a, w, hs⟩ hv
     obtain ⟨r', hk', hsd'⟩ := hsd.split hk
     rw [fcA_eq, fcH_eq, fcN_eq] at hk'
     exact .inl (hsd' σ ⟨fun _ _ => rfl, fun _ _ => rfl⟩ hs _ Q fun F' V' B' a' w' hs' => ops_sound hd hK rest (i + 1) _ _ F' V' B' a' w' hrest hs' hk'.h)
   · rename_i hg
     rw [wanted_of hs hg]
     simp only [Bool.false_eq_true, if_false]
     exact ops_sound hd hK rest (i + 1) _ _ F V B _ w hrest (skip_sim hs hdo) hv.h
   · exact hv.elim
end Go.Proofs.YthbpdhppelaihaaGreat
/- REGIONS where the tape draws: what holds of the order of the text holds of every order that is left open. Conditions: none. -/
namespace Go.Proofs.YthbpdhppelaihaaGreat
open Go.RowKit
variable {P : Program} {T : List (Nat × TI)}
structure Evt where
 i : Nat
 o : Oper
 r : A
 dh : Hp
 rd : List Nat
 ct : Ct
def evUpd (σ : St) (e : Evt) : St := σ.upd e.o.dst e.r e.dh
def app : St → List Evt → St
 | σ, [] => σ
 | σ, e :: es => app (evUpd σ e) es
theorem app_append (σ : St) : ∀ (es es' : List Evt), app σ (es ++ es') = app (app σ es) es' := by
 intro es
 induction es generalizing σ with
 | nil => intro _; rfl
 | cons e es ih => intro es'; exact ih _ es'
theorem app_tmp_congr {t : Nat} : ∀ (es : List Evt) {σ σ' : St}, σ.tmp t = σ'.tmp t → (app σ es).tmp t = (app σ' es).tmp t
 | [], _, _, h => h
 | e :: es, σ, σ', h => app_tmp_congr es (by simp only [evUpd, tmp_upd, h])
theorem get_evUpd (σ : St) (e : Evt) (id : Nat) : get (evUpd σ e).hp id = match get e.dh id with | some o => some o | none => get σ.hp id := by
 show get (e.dh ++ σ.hp) id = _
 rw [get_append]
 cases get e.dh id <;> rfl
theorem app_get_congr {id : Nat} : ∀ (es : List Evt) {σ σ' : St}, get σ.hp id = get σ'.hp id → get (app σ es).hp id = get (app σ' es).hp id
 | [], _, _, h => h
 | e :: es, σ, σ', h => app_get_congr es (by simp only [get_evUpd, h])
theorem app_filter_tmp {t : Nat} (f : Evt → Bool) : ∀ (es : List Evt) (σ : St), (∀ e ∈ es, f e = false → e.o.dst ≠ some t) → (app σ (es.filter f)).tmp t = (app σ es).tmp t
 | [], _, _ => rfl
 | e :: es, σ, h => by
   cases hf : f e with
   | true => rw [List.filter_cons_of_pos hf]; exact app_filter_tmp f es _ (fun x hx => h x (by simp [hx]))
   | false =>
     rw [List.filter_cons_of_neg (by simp [hf]), app_filter_tmp f es _ (fun x hx => h x (by simp [hx]))]
     refine (app_tmp_congr es ?_).symm
     rw [evUpd, tmp_upd, if_neg (h e (by simp) hf)]
theorem app_filter_get {id : Nat} (f : Evt → Bool) : ∀ (es : List Evt) (σ : St), (∀ e ∈ es, f e = false → get e.dh id = none) → get (app σ (es.filter f)).hp id = get (app σ es).hp id
 | [], _, _ => rfl
 | e :: es, σ, h => by
   cases hf : f e with
   | true => rw [List.filter_cons_of_pos hf]; exact app_filter_get f es _ (fun x hx => h x (by simp [hx]))
   | false =>
     rw [List.filter_cons_of_neg (by simp [hf]), app_filter_get f es _ (fun x hx => h x (by simp [hx]))]
     refine (app_get_congr es ?_).symm
     rw [get_evUpd, h e (by simp) hf]
def Good (P : Program) (n : Nat) (ops : List Oper) (e : Evt) (σ : St) : Prop :=
 (guardSt ops σ e.o = some true ∧ Snd P n e.o σ e.r e.dh e.rd ∧ e.ct = ctOf ops e.o e.dh e.rd) ∨ (guardSt ops σ e.o = some false ∧ e.r = .tp [] ∧ e.dh = [] ∧ e.ct = ctOf ops e.o [] [])
theorem trace_of (hT : ∀ t i, get T t = some i → TOk P t i) {n : Nat} {ops : List Oper} (hd : dstOk n ops = true) {gs : List Nat} {K : St → List Ct → Prop} : ∀ (rest : List Oper) (i : Nat) (σ : St) (es : List Ct), (∀ j, rest[j]? = ops[i + j]?) → Real n σ → vcOps P T ops gs rest σ es K →
 ∃ evs : List Evt, K (app σ evs) (es ++ evs.map (·.ct)) ∧ evs.length = rest.length ∧ ∀ pre e post, evs = pre ++ e :: post → e.i = i + pre.length ∧ rest[pre.length]? = some e.o ∧ Good P n ops e (app σ pre)
 | [], i, σ, es, hj, hR, hv => ⟨[], by simpa [vcOps, app] using hv, rfl, fun pre e post h => by simp at h⟩
 | o :: rest, i, σ, es, hj, hR, hv => by
   have h0 : ops[i]? = some o := by have := hj 0; simpa using this.symm
   have hrest : ∀ j, rest[j]? = ops[i + 1 + j]? := fun j => by have := hj (j + 1); simpa [Nat.add_assoc, Nat.add_comm 1 j] using this
   have hdo := dstOk_mem hd o (List.mem_of_getElem? h0)
   simp only [vcOps] at hv
   have fin : ∀ (e : Evt), e.i = i → e.o = o → Good P n ops e σ → Real n (evUpd σ e) → vcOps P T ops gs rest (evUpd σ e) (es ++ [e.ct]) K → ∃ evs : List Evt, K (app σ evs) (es ++ evs.map (·.ct)) ∧ evs.length = (o :: rest).length ∧ ∀ pre e post, evs = pre ++ e :: post → e.i = i + pre.length ∧ (o :: rest)[pre.length]? = some e.o ∧ Good P n ops e (app σ pre) := by
    intro e hei heo hgd hR' hv'
    obtain ⟨evs, h1, h2, h3⟩ := trace_of hT hd rest (i + 1) _ _ hrest hR' hv'
    refine ⟨e :: evs, by simpa [app] using h1, by simp [h2], fun pre e' post h => ?_⟩
    cases pre with
    | nil => simp at h; obtain ⟨rfl, rfl⟩ := h; exact ⟨by simpa using hei, by simp [heo], hgd⟩
    | cons p pre =>
      simp at h
      obtain ⟨rfl, h⟩ := h
      obtain ⟨h4, h5, h6⟩ := h3 pre e' post h
      exact ⟨by rw [h4]; simp; omega, by simpa using h5, h6⟩
   split at hv
   · rename_i hg
     obtain ⟨r, dh, rd, hk, hsd⟩ := op_sound hT hdo hR hv
     obtain ⟨r', hk', hsd'⟩ := hsd.split hk
     rw [fcA_eq, fcH_eq, fcN_eq] at hk'
     exact fin ⟨i, o, r', dh, rd, ctOf ops o dh rd⟩ rfl rfl (.inl ⟨hg, hsd', rfl⟩) (hR.step (hsd' σ ⟨fun _ _ => rfl, fun _ _ => rfl⟩)) hk'.h
   · rename_i hg
     refine fin ⟨i, o, .tp [], [], [], ctOf ops o [] []⟩ rfl rfl (.inr ⟨hg, rfl, rfl, rfl⟩) ?_ hv.h
     obtain ⟨w0, L0, F0, F, V, B, a, w, hs⟩ := hR
     exact ⟨w0, L0, F0, F, V, B, _, w, skip_sim hs hdo⟩
   · exact hv.elim
/-! What the checks say -/
theorem union_mem {n : Nat} {l l' : List Nat} (h : n ∈ union l l') : n ∈ l ∨ n ∈ l' := by
 induction l with
 | nil => exact .inr h
 | cons k l ih =>
   simp only [union] at h
   split at h
   · rcases ih h with h1 | h1
     · exact .inl (by simp [h1])
     · exact .inr h1
   · rcases List.mem_cons.1 h with rfl | h1
     · exact .inl (by simp)
     · rcases ih h1 with h2 | h2
       · exact .inl (by simp [h2])
       · exact .inr h2
theorem unionAll_mem {n : Nat} {cl : List (List Nat)} {l : List Nat} (h : n ∈ unionAll cl l) : ∃ i ∈ l, n ∈ cl.getD i [] := by
 induction l with
 | nil => simp [unionAll] at h
 | cons k l ih =>
   simp only [unionAll] at h
   rcases union_mem h with h1 | h1
   · exact ⟨k, by simp, h1⟩
   · obtain ⟨i, h2, h3⟩ := ih h1; exact ⟨i, by simp [h2], h3⟩
def Cl (ops : List Oper) (L : Nat → Bool) : Prop := ∀ j o, ops[j]? = some o → L j = true → ∀ i ∈ direct o, L i = true
def ClSpec (ops : List Oper) (cl : List (List Nat)) : Prop := ∀ (j : Nat) (o : Oper) (l : List Nat), ops[j]? = some o → cl[j]? = some l → ∀ i ∈ l, ∀ L, Cl ops L → (∀ k ∈ direct o, L k = true) → L i = true
theorem closure_spec {ops : List Oper} : ∀ (rest : List Oper) (cl : List (List Nat)), (∀ j, rest[j]? = ops[cl.length + j]?) → ClSpec ops cl → ClSpec ops (closure rest cl)
 | [], cl, _, h => h
 | o :: rest, cl, hj, h => by
   have h0 : ops[cl.length]? = some o := by have := hj 0; simpa using this.symm
   refine closure_spec rest _ (fun j => by have := hj (j + 1); simpa [Nat.add_assoc, Nat.add_comm 1 j] using this) ?_
   intro j o' l ho hl i hi L hL hdir
   rw [List.getElem?_append] at hl
   split at hl
   · exact h j o' l ho hl i hi L hL hdir
   · rename_i hge
     have hjl : j = cl.length := by
      rcases Nat.lt_or_ge (j - cl.length) 1 with h1 | h1
      · omega
      · rw [List.getElem?_eq_none (by simpa using h1)] at hl; cases hl
     subst hjl
     rw [h0] at ho
     cases ho
     simp at hl
     subst hl
     rcases union_mem hi with h1 | h1
     · exact hdir i h1
     · obtain ⟨k, h2, h3⟩ := unionAll_mem h1
       rw [List.getD_eq_getElem?_getD] at h3
       cases hk : cl[k]? with
       | none => rw [hk] at h3; simp at h3
       | some lk =>
         rw [hk] at h3
         have hklt : k < cl.length := by
          rcases Nat.lt_or_ge k cl.length with h4 | h4
          · exact h4
          · rw [List.getElem?_eq_none h4] at hk; cases hk
         cases hok : ops[k]? with
         | none =>
           have := List.getElem?_eq_none_iff.1 hok
           have h5 : cl.length < ops.length := by
            rcases Nat.lt_or_ge cl.length ops.length with h4 | h4
            · exact h4
            · rw [List.getElem?_eq_none h4] at h0; cases h0
           omega
         | some ok => exact h k ok lk hok hk i (by simpa using h3) L hL (hL k ok hok (hdir k h2))
theorem ordTo_spec {cl : List Nat} {c : Ct} : ∀ {pre : List Ct} {i : Nat}, ordTo cl c pre i = true → ∀ j a, pre[j]? = some a → a.conf c = true → (i + j) ∈ cl
 | [], i, _, j, a, h, _ => by simp at h
 | b :: pre, i, ho, j, a, h, hc => by
   simp only [ordTo] at ho
   cases j with
   | zero =>
     simp at h; subst h
     rw [hc] at ho
     simp only at ho
     split at ho
     · rename_i hm; exact memN_iff.1 hm
     · cases ho
   | succ j =>
     have h2 : ordTo cl c pre (i + 1) = true := by
      split at ho
      · exact ho
      · split at ho
        · exact ho
        · cases ho
     have := ordTo_spec h2 j a (by simpa using h) hc
     rwa [Nat.add_assoc, Nat.add_comm 1 j] at this
theorem ordOk_spec : ∀ {cls : List (List Nat)} {pre l : List Ct}, ordOk cls pre l = true → ∀ j c, l[j]? = some c → ∃ cl, cls[j]? = some cl ∧ ∀ i a, (pre ++ l)[i]? = some a → i < pre.length + j → a.conf c = true → i ∈ cl
 | _, pre, [], _, j, c, h => by simp at h
 | [], pre, _ :: _, ho, j, c, h => by simp [ordOk] at ho
 | cl :: cls, pre, d :: l, ho, j, c, h => by
   simp only [ordOk] at ho
   split at ho
   · rename_i h1
     cases j with
     | zero =>
       simp at h; subst h
       refine ⟨cl, by simp, fun i a hi hlt hc => ?_⟩
       have hi' : pre[i]? = some a := by rw [List.getElem?_append_left (by omega)] at hi; exact hi
       have := ordTo_spec h1 i a hi' hc
       simpa using this
     | succ j =>
       obtain ⟨cl', h2, h3⟩ := ordOk_spec ho j c (by simpa using h)
       exact ⟨cl', by simpa using h2, fun i a hi hlt hc => h3 i a (by simpa using hi) (by simp; omega) hc⟩
   · cases ho
theorem conf_spec {a b : Ct} (h : a.conf b = false) : (∀ t ∈ a.wt, t ∉ b.rt ∧ t ∉ b.wt) ∧ (∀ t ∈ a.rt, t ∉ b.wt) ∧ (∀ t ∈ a.wi, t ∉ b.ri ∧ t ∉ b.wi) ∧ (∀ t ∈ a.ri, t ∉ b.wi) := by
 unfold Ct.conf at h
 split at h
 · rename_i h1 h2 h3 h4 h5 h6
   exact ⟨fun t ht => ⟨inter_spec h1 ht, inter_spec h2 ht⟩, fun t ht => inter_spec h3 ht, fun t ht => ⟨inter_spec h4 ht, inter_spec h5 ht⟩, fun t ht => inter_spec h6 ht⟩
 · cases h
theorem backOk_spec : ∀ {ops : List Oper} {j : Nat}, backOk ops j = true → ∀ k o, ops[k]? = some o → ∀ i ∈ direct o, i < j + k
 | [], _, _, k, o, h => by simp at h
 | o' :: l, j, hb, k, o, h => by
   simp only [backOk, Bool.and_eq_true] at hb
   cases k with
   | zero =>
     simp at h; subst h
     intro i hi
     have := List.all_eq_true.1 hb.1 i hi
     simpa using this
   | succ k =>
     intro i hi
     have := backOk_spec hb.2 k o (by simpa using h) i hi
     omega
theorem tmpsOf_mem {t : Nat} {l : List Operand} (h : Operand.tmp t ∈ l) : t ∈ tmpsOf l := by
 induction l with
 | nil => simp at h
 | cons x l ih =>
   rcases List.mem_cons.1 h with h1 | h1
   · subst h1; simp [tmpsOf]
   · cases x <;> simp only [tmpsOf] <;> first | exact ih h1 | exact List.mem_cons_of_mem _ (ih h1)
theorem dst_mem {ops : List Oper} {o : Oper} {dh : Hp} {rd : List Nat} {t : Nat} : o.dst = some t ↔ t ∈ (ctOf ops o dh rd).wt := by
 cases h : o.dst <;> simp [ctOf, h, optL, eq_comm]
theorem key_mem {dh : Hp} {id : Nat} : get dh id ≠ none → id ∈ keys dh := by
 intro h
 cases hg : get dh id with
 | none => exact (h hg).elim
 | some o => exact keys_of_get hg
theorem ev_agree {σ σ' : St} {x : Operand} (h : ∀ t, x = .tmp t → σ.tmp t = σ'.tmp t) : ev σ x = ev σ' x := by
 cases x with
 | tmp t => exact h t rfl
 | _ => rfl
theorem guardSt_agree {ops : List Oper} {σ σ' : St} {o : Oper} (h : ∀ t ∈ grdL ops o, σ.tmp t = σ'.tmp t) : guardSt ops σ o = guardSt ops σ' o := by
 unfold guardSt
 unfold grdL at h
 cases hg : o.guard with
 | none => rfl
 | some p =>
   obtain ⟨g, want⟩ := p
   rw [hg] at h
   simp only at h ⊢
   cases hd : dstOf ops g with
   | none => rfl
   | some d =>
     rw [hd] at h
     simp only [optL] at h
     simp only [h d (by simp)]
end Go.Proofs.YthbpdhppelaihaaGreat
/- REGIONS: every order. Conditions: none. -/
namespace Go.Proofs.YthbpdhppelaihaaGreat
open Go.RowKit
variable {P : Program} {T : List (Nat × TI)}
theorem countP_le {p q : Nat → Bool} (h : ∀ x, p x = true → q x = true) : ∀ l : List Nat, l.countP p ≤ l.countP q
 | [] => by simp
 | x :: l => by
   have ih := countP_le h l
   rw [List.countP_cons, List.countP_cons]
   cases hp : p x with
   | false => cases q x <;> simp <;> omega
   | true => simp [h x hp]; omega
theorem countP_lt {p q : Nat → Bool} (h : ∀ x, p x = true → q x = true) {i : Nat} (hp : p i = false) (hq : q i = true) : ∀ l : List Nat, i ∈ l → l.countP p < l.countP q
 | [], hi => by simp at hi
 | x :: l, hi => by
   rw [List.countP_cons, List.countP_cons]
   rcases List.mem_cons.1 hi with rfl | hi
   · have := countP_le h l
     simp [hp, hq]; omega
   · have ih := countP_lt h hp hq l hi
     cases hpx : p x with
     | false => cases q x <;> simp <;> omega
     | true => simp [h x hpx]; omega
theorem getD_set_eq {l : Array Bool} {i j : Nat} (d : Bool) : (l.setIfInBounds i true).getD j d = if i = j ∧ i < l.size then true else l.getD j d := by
 rw [Array.getD_eq_getD_getElem?, Array.getD_eq_getD_getElem?, Array.getElem?_setIfInBounds]
 split
 · rename_i h
   subst h
   split
   · rename_i h2; simp [h2]
   · rename_i h2; simp [h2]
 · rename_i h; simp [h]
theorem filt0 (l : List Evt) : l.filter (fun _ => false) = [] := List.filter_eq_nil_iff.2 fun _ _ => by simp
structure Shown (P : Program) (n : Nat) (ops : List Oper) (σ0 : St) (evs : List Evt) : Prop where
 len : evs.length = ops.length
 at_ : ∀ pre e post, evs = pre ++ e :: post → e.i = pre.length ∧ ops[pre.length]? = some e.o ∧ Good P n ops e (app σ0 pre)
 ord : ordOk (closure ops []) [] (evs.map (·.ct)) = true
 back : backOk ops 0 = true
 dst : dstOk n ops = true
section
variable {n : Nat} {ops : List Oper} {σ0 : St} {evs : List Evt} (H : Shown P n ops σ0 evs)
include H
theorem Shown.split {i : Nat} (hi : i < ops.length) : ∃ pre e post, evs = pre ++ e :: post ∧ pre.length = i := by
 have : i < evs.length := by rw [H.len]; exact hi
 refine ⟨evs.take i, evs[i], evs.drop (i + 1), ?_, by rw [List.length_take]; omega⟩
 rw [List.getElem_cons_drop, List.take_append_drop]
theorem Shown.idx {pre post : List Evt} {e x : Evt} (h : evs = pre ++ e :: post) : (x ∈ pre → x.i < e.i) ∧ (x ∈ post → e.i < x.i) := by
 obtain ⟨h1, _, _⟩ := H.at_ pre e post h
 refine ⟨fun hx => ?_, fun hx => ?_⟩
 · obtain ⟨p1, p2, rfl⟩ := List.append_of_mem hx
   obtain ⟨h2, _, _⟩ := H.at_ p1 x (p2 ++ e :: post) (by rw [h]; simp)
   rw [h1, h2]; simp
 · obtain ⟨p1, p2, rfl⟩ := List.append_of_mem hx
   obtain ⟨h2, _, _⟩ := H.at_ (pre ++ e :: p1) x p2 (by rw [h]; simp)
   rw [h1, h2]; simp
theorem Shown.ctAt {pre post : List Evt} {e : Evt} (h : evs = pre ++ e :: post) : (evs.map (·.ct))[e.i]? = some e.ct := by
 obtain ⟨h1, _, _⟩ := H.at_ pre e post h
 rw [h1, h]
 simp
theorem Shown.waits {x e : Evt} (hx : x ∈ evs) (he : e ∈ evs) (hlt : x.i < e.i) (hc : x.ct.conf e.ct = true) {L : Nat → Bool} (hL : Cl ops L) (hdir : ∀ k ∈ direct e.o, L k = true) : L x.i = true := by
 obtain ⟨p1, p2, h1⟩ := List.append_of_mem he
 obtain ⟨q1, q2, h2⟩ := List.append_of_mem hx
 obtain ⟨h3, h4, _⟩ := H.at_ p1 e p2 h1
 obtain ⟨cl, hcl, hall⟩ := ordOk_spec H.ord e.i e.ct (H.ctAt h1)
 have := hall x.i x.ct (by simpa using H.ctAt h2) (by simpa using hlt) hc
 exact closure_spec ops [] (by simp) (fun j o l ho hl => by simp at hl) e.i e.o cl (by rw [h3]; exact h4) hcl x.i this L hL hdir
theorem Shown.agree {pre post : List Evt} {e : Evt} (h : evs = pre ++ e :: post) {L : Nat → Bool} (hL : Cl ops L) (hdir : ∀ k ∈ direct e.o, L k = true) (hun : L e.i = false) :
 (∀ t, t ∈ e.ct.rt ∨ t ∈ e.ct.wt → (app σ0 (evs.filter fun x => L x.i)).tmp t = (app σ0 pre).tmp t) ∧ (∀ id, id ∈ e.ct.ri ∨ id ∈ e.ct.wi → get (app σ0 (evs.filter fun x => L x.i)).hp id = get (app σ0 pre).hp id) ∧
 ∀ x ∈ evs, x.i > e.i → L x.i = true → e.ct.conf x.ct = false := by
 have hem : e ∈ evs := by rw [h]; simp
 -- those before e that have not come up do not matter to e; those behind it that have come up neither
 have hb : ∀ x ∈ pre, L x.i = false → x.ct.conf e.ct = false := fun x hx hl => by
  cases hc : x.ct.conf e.ct with
  | false => rfl
  | true =>
    have := H.waits (by rw [h]; simp [hx]) hem ((H.idx h).1 hx) hc hL hdir
    rw [hl] at this; cases this
 have ha : ∀ x ∈ evs, x.i > e.i → L x.i = true → e.ct.conf x.ct = false := fun x hx hgt hl => by
  cases hc : e.ct.conf x.ct with
  | false => rfl
  | true =>
    obtain ⟨p1, p2, h1⟩ := List.append_of_mem hx
    obtain ⟨h3, h4, _⟩ := H.at_ p1 x p2 h1
    have := H.waits hem hx hgt hc hL (hL x.i x.o (by rw [h3]; exact h4) hl)
    rw [hun] at this; cases this
 have wct : ∀ x ∈ evs, (∀ t, x.o.dst = some t → t ∈ x.ct.wt) ∧ ∀ id, get x.dh id ≠ none → id ∈ x.ct.wi := fun x hx => by
  obtain ⟨p1, p2, h1⟩ := List.append_of_mem hx
  obtain ⟨_, _, hg⟩ := H.at_ p1 x p2 h1
  rcases hg with ⟨_, _, hc⟩ | ⟨_, _, hd, hc⟩
  · exact ⟨fun t ht => by rw [hc]; exact dst_mem.1 ht, fun id hid => by rw [hc]; exact key_mem hid⟩
  · exact ⟨fun t ht => by rw [hc]; exact dst_mem.1 ht, fun id hid => by rw [hd] at hid; exact (hid rfl).elim⟩
 have hsplit : ∀ (σ : St), (app σ (evs.filter fun x => L x.i)) = app (app σ (pre.filter fun x => L x.i)) (post.filter fun x => L x.i) := fun σ => by
  rw [h, List.filter_append, List.filter_cons_of_neg (by simp [hun]), app_append]
 refine ⟨fun t ht => ?_, fun id hid => ?_, ha⟩
 · rw [hsplit]
   have h1 : (app σ0 (pre.filter fun x => L x.i)).tmp t = (app σ0 pre).tmp t := app_filter_tmp _ pre σ0 fun x hx hl hd => by
    have h2 := conf_spec (hb x hx hl)
    have h3 := (wct x (by rw [h]; simp [hx])).1 t hd
    rcases ht with ht | ht
    · exact (h2.1 t h3).1 ht
    · exact (h2.1 t h3).2 ht
   rw [← h1]
   have h4 : ∀ (σ : St), (app σ ((post.filter fun x => L x.i).filter fun _ => false)).tmp t = (app σ (post.filter fun x => L x.i)).tmp t := fun σ => app_filter_tmp _ _ σ fun x hx _ hd => by
    obtain ⟨hx, hl⟩ := List.mem_filter.1 hx
    have hxe : x ∈ evs := by rw [h]; simp [hx]
    have h2 := conf_spec (ha x hxe ((H.idx h).2 hx) hl)
    have h3 := (wct x hxe).1 t hd
    rcases ht with ht | ht
    · exact h2.2.1 t ht h3
    · exact (h2.1 t ht).2 h3
   rw [← h4, filt0]
   rfl
 · rw [hsplit]
   have h1 : get (app σ0 (pre.filter fun x => L x.i)).hp id = get (app σ0 pre).hp id := app_filter_get _ pre σ0 fun x hx hl => by
    apply Decidable.byContradiction
    intro hd
    have h2 := conf_spec (hb x hx hl)
    have h3 := (wct x (by rw [h]; simp [hx])).2 id hd
    rcases hid with ht | ht
    · exact (h2.2.2.1 id h3).1 ht
    · exact (h2.2.2.1 id h3).2 ht
   rw [← h1]
   have h4 : ∀ (σ : St), get (app σ ((post.filter fun x => L x.i).filter fun _ => false)).hp id = get (app σ (post.filter fun x => L x.i)).hp id := fun σ => app_filter_get _ _ σ fun x hx _ => by
    apply Decidable.byContradiction
    intro hd
    obtain ⟨hx, hl⟩ := List.mem_filter.1 hx
    have hxe : x ∈ evs := by rw [h]; simp [hx]
    have h2 := conf_spec (ha x hxe ((H.idx h).2 hx) hl)
    have h3 := (wct x hxe).2 id hd
    rcases hid with ht | ht
    · exact h2.2.2.2 id ht h3
    · exact (h2.2.2.1 id ht).2 h3
   rw [← h4, filt0]
   rfl
theorem Shown.after {pre post : List Evt} {e : Evt} (h : evs = pre ++ e :: post) {L L' : Nat → Bool} (hL' : ∀ x ∈ evs, L' x.i = (L x.i || Nat.beq x.i e.i)) (hun : L e.i = false) (ha : ∀ x ∈ evs, x.i > e.i → L x.i = true → e.ct.conf x.ct = false) :
 (∀ t, (app σ0 (evs.filter fun x => L' x.i)).tmp t = (evUpd (app σ0 (evs.filter fun x => L x.i)) e).tmp t) ∧ ∀ id, get (app σ0 (evs.filter fun x => L' x.i)).hp id = get (evUpd (app σ0 (evs.filter fun x => L x.i)) e).hp id := by
 have wct : ∀ x ∈ evs, (∀ t, x.o.dst = some t → t ∈ x.ct.wt) ∧ ∀ id, get x.dh id ≠ none → id ∈ x.ct.wi := fun x hx => by
  obtain ⟨p1, p2, h1⟩ := List.append_of_mem hx
  obtain ⟨_, _, hg⟩ := H.at_ p1 x p2 h1
  rcases hg with ⟨_, _, hc⟩ | ⟨_, _, hd, hc⟩
  · exact ⟨fun t ht => by rw [hc]; exact dst_mem.1 ht, fun id hid => by rw [hc]; exact key_mem hid⟩
  · exact ⟨fun t ht => by rw [hc]; exact dst_mem.1 ht, fun id hid => by rw [hd] at hid; exact (hid rfl).elim⟩
 have hem : e ∈ evs := by rw [h]; simp
 have hsame : ∀ l : List Evt, (∀ x ∈ l, x ∈ evs ∧ x.i ≠ e.i) → l.filter (fun x => L' x.i) = l.filter fun x => L x.i := fun l hl => List.filter_congr fun x hx => by
  obtain ⟨h1, h2⟩ := hl x hx
  rw [hL' x h1]
  have : Nat.beq x.i e.i = false := by
   cases hb : Nat.beq x.i e.i with
   | false => rfl
   | true => exact (h2 (Nat.eq_of_beq_eq_true hb)).elim
  simp [this]
 have hpre := hsame pre fun x hx => ⟨by rw [h]; simp [hx], by have := (H.idx h).1 hx; omega⟩
 have hpost := hsame post fun x hx => ⟨by rw [h]; simp [hx], by have := (H.idx h).2 hx; omega⟩
 have he : L' e.i = true := by rw [hL' e hem]; simp
 have h1 : evs.filter (fun x => L' x.i) = pre.filter (fun x => L x.i) ++ e :: post.filter fun x => L x.i := by
  rw [h, List.filter_append, List.filter_cons_of_pos (p := fun (x : Evt) => L' x.i) he, hpre, hpost]
 have h2 : evs.filter (fun x => L x.i) = pre.filter (fun x => L x.i) ++ post.filter fun x => L x.i := by
  rw [h, List.filter_append, List.filter_cons_of_neg (by simp [hun])]
 rw [h1, h2, app_append, app_append]
 generalize app σ0 (pre.filter fun x => L x.i) = X
 have hpo : ∀ x ∈ post.filter fun x => L x.i, x ∈ evs ∧ e.ct.conf x.ct = false := fun x hx => by
  obtain ⟨hx, hl⟩ := List.mem_filter.1 hx
  have hxe : x ∈ evs := by rw [h]; simp [hx]
  exact ⟨hxe, ha x hxe ((H.idx h).2 hx) hl⟩
 generalize post.filter (fun x => L x.i) = Y at hpo
 refine ⟨fun t => ?_, fun id => ?_⟩
 · show (app (evUpd X e) Y).tmp t = _
   by_cases hd : e.o.dst = some t
   · have h4 := app_filter_tmp (t := t) (fun _ => false) Y (evUpd X e) fun x hx _ hdx => by
      obtain ⟨h5, h6⟩ := hpo x hx
      exact ((conf_spec h6).1 t ((wct e hem).1 t hd)).2 ((wct x h5).1 t hdx)
     rw [← h4, filt0]
     simp [app, evUpd, tmp_upd, hd]
   · rw [app_tmp_congr Y (σ := evUpd X e) (σ' := X) (by rw [evUpd, tmp_upd, if_neg hd]), evUpd, tmp_upd, if_neg hd]
 · show get (app (evUpd X e) Y).hp id = _
   by_cases hd : get e.dh id = none
   · rw [app_get_congr Y (σ := evUpd X e) (σ' := X) (by rw [get_evUpd, hd]), get_evUpd, hd]
   · have h4 := app_filter_get (id := id) (fun _ => false) Y (evUpd X e) fun x hx _ => by
      apply Decidable.byContradiction
      intro hdx
      obtain ⟨h5, h6⟩ := hpo x hx
      exact ((conf_spec h6).2.2.1 id ((wct e hem).2 id hd)).2 ((wct x h5).2 id hdx)
     rw [← h4, filt0]
     obtain ⟨ob, hob⟩ := Option.ne_none_iff_exists'.1 hd
     simp [app, get_evUpd, hob]
theorem Shown.any {Q : Exit → Act → World → Prop} {w0 : World} {L0 : Old} {F0 : Nat → Prop} (hQ : ∀ F V B a w, Sim n w0 L0 F0 F V B (app σ0 evs) a w → Q .normal a w) : ∀ (fuel : Nat) (listed : Array Bool) (F : Nat → Prop) (V : Nat → Value) (B : Nat → List Nat) (a : Act) (w : World), listed.size = ops.length → Cl ops (fun i => listed.getD i false) → (List.range ops.length).countP (fun i => !listed.getD i false) ≤ fuel →
 Sim n w0 L0 F0 F V B (app σ0 (evs.filter fun x => listed.getD x.i false)) a w → wpAny P .any ops.toArray Q fuel listed a w := by
 have hidx : ∀ x ∈ evs, x.i < ops.length := fun x hx => by
  obtain ⟨p1, p2, h1⟩ := List.append_of_mem hx
  obtain ⟨h2, _, _⟩ := H.at_ p1 x p2 h1
  have := H.len
  rw [h1] at this
  simp at this
  omega
 have hdone : ∀ (listed : Array Bool) F V B a w, listed.size = ops.length → Region.ready .any ops.toArray listed = [] → Sim n w0 L0 F0 F V B (app σ0 (evs.filter fun x => listed.getD x.i false)) a w → Q .normal a w := by
  intro listed F V B a w hsz hr hs
  have hall : ∀ k, ∀ j, j < k → j < ops.length → listed.getD j false = true := by
   intro k
   induction k with
   | zero => intro j hj; omega
   | succ k ih =>
     intro j hj hjl
     apply Decidable.byContradiction
     intro hn
     have hmem : j ∈ Region.ready .any ops.toArray listed := by
      refine mem_ready.2 ⟨?_, ops[j], by simp [hjl], fun e he hb => ?_⟩
      · have hjs : j < listed.size := by omega
        simp [Array.getD_eq_getD_getElem?, hjs] at hn ⊢
        exact hn
      · have hlt := backOk_spec H.back j ops[j] (by simp) e.on (by
         simp only [direct, List.mem_map, List.mem_filter]
         exact ⟨e, ⟨by simpa using he, hb⟩, rfl⟩)
        exact ih e.on (by omega) (by omega)
     rw [hr] at hmem
     cases hmem
  have : evs.filter (fun x => listed.getD x.i false) = evs := List.filter_eq_self.2 fun x hx => hall ops.length x.i (hidx x hx) (hidx x hx)
  rw [this] at hs
  exact hQ F V B a w hs
 intro fuel
 induction fuel with
 | zero =>
   intro listed F V B a w hsz hcl hcnt hs
   have hr : Region.ready .any ops.toArray listed = [] := by
    apply List.eq_nil_iff_forall_not_mem.2
    intro j hj
    obtain ⟨h1, o, h2, _⟩ := mem_ready.1 hj
    have hjl : j < ops.length := by
     rcases Nat.lt_or_ge j ops.length with h | h
     · exact h
     · simp [h] at h2
    have h3 : 0 < (List.range ops.length).countP (fun i => !listed.getD i false) := List.countP_pos_iff.2 ⟨j, by simpa using hjl, by
     have hjs : j < listed.size := by omega
     simp [Array.getD_eq_getD_getElem?, hjs] at h1 ⊢
     exact h1⟩
    omega
   exact ⟨hr, hdone listed F V B a w hsz hr hs⟩
 | succ fuel ih =>
   intro listed F V B a w hsz hcl hcnt hs
   refine ⟨fun hr => hdone listed F V B a w hsz hr hs, fun i hi => ?_⟩
   obtain ⟨h1, o, h2, h3⟩ := mem_ready.1 hi
   have hil : i < ops.length := by
    rcases Nat.lt_or_ge i ops.length with h | h
    · exact h
    · simp [h] at h2
   have his : i < listed.size := by omega
   have hun : listed.getD i false = false := by simp [Array.getD_eq_getD_getElem?, his] at h1 ⊢; exact h1
   obtain ⟨pre, e, post, hev, hpl⟩ := H.split hil
   obtain ⟨he1, he2, hg⟩ := H.at_ pre e post hev
   rw [hpl] at he1 he2
   rw [List.getElem?_toArray, he2] at h2
   cases h2
   have hdir : ∀ k ∈ direct e.o, listed.getD k false = true := fun k hk => by
    simp only [direct, List.mem_map, List.mem_filter] at hk
    obtain ⟨x, ⟨hx1, hx2⟩, rfl⟩ := hk
    exact h3 x (by simpa using hx1) hx2
   obtain ⟨hat, hai, ha⟩ := H.agree hev hcl hdir (by rw [he1]; exact hun)
   have hset : ∀ j, (listed.setIfInBounds i true).getD j false = (listed.getD j false || Nat.beq j i) := fun j => by
    rw [getD_set_eq]
    by_cases hj : i = j
    · subst hj; simp [his]
    · have : Nat.beq j i = false := by
       cases hb : Nat.beq j i with
       | false => rfl
       | true => exact (hj (Nat.eq_of_beq_eq_true hb).symm).elim
      simp [hj, this]
   obtain ⟨haf1, haf2⟩ := H.after hev (L := fun j => listed.getD j false) (L' := fun j => (listed.setIfInBounds i true).getD j false) (fun x _ => by rw [hset, he1]) (by rw [he1]; exact hun) ha
   have hsz' : (listed.setIfInBounds i true).size = ops.length := by rw [Array.size_setIfInBounds]; exact hsz
   have hcl' : Cl ops (fun j => (listed.setIfInBounds i true).getD j false) := by
    intro j oj hoj hj k hk
    show (listed.setIfInBounds i true).getD k false = true
    have hj : (listed.setIfInBounds i true).getD j false = true := hj
    rw [hset] at hj ⊢
    simp only [Bool.or_eq_true] at hj ⊢
    rcases hj with hj | hj
    · exact .inl (hcl j oj hoj hj k hk)
    · have := Nat.eq_of_beq_eq_true hj
      subst this
      rw [he2] at hoj
      cases hoj
      exact .inl (hdir k hk)
   have hcnt' : (List.range ops.length).countP (fun j => !(listed.setIfInBounds i true).getD j false) ≤ fuel := by
    have := countP_lt (p := fun j => !(listed.setIfInBounds i true).getD j false) (q := fun j => !listed.getD j false) (fun x hx => by
     rw [hset] at hx
     simp only [Bool.not_eq_true', Bool.or_eq_false_iff] at hx ⊢
     exact hx.1) (i := i) (by simp [hset]) (by simp [hun]) (List.range ops.length) (by simpa using hil)
    omega
   have hdo := dstOk_mem H.dst e.o (List.mem_of_getElem? he2)
   unfold wpOp
   rw [List.getElem?_toArray, he2]
   dsimp only
   have hga : guardSt ops (app σ0 (evs.filter fun x => listed.getD x.i false)) e.o = guardSt ops (app σ0 pre) e.o := guardSt_agree fun t ht => hat t (.inl (by
    rcases hg with ⟨_, _, hc⟩ | ⟨_, _, _, hc⟩ <;> (rw [hc]; simp [ctOf, ht])))
   rcases hg with ⟨hgt, hsn, hct⟩ | ⟨hgf, hr, hdh, hct⟩
   · rw [wanted_of hs (hga.trans hgt)]
     simp only [if_true]
     refine .inl (hsn _ ⟨fun x hx => ev_agree fun t hxt => hat t (.inl ?_), fun id hid => hai id ?_⟩ hs _ Q fun F' V' B' a' w' hs' => ih _ F' V' B' a' w' hsz' hcl' hcnt' (hs'.congr haf1 haf2))
     · rw [hct]
       subst hxt
       simp only [ctOf, List.mem_append]
       exact .inr (tmpsOf_mem hx)
     · rw [hct]
       exact hid
   · rw [wanted_of hs (hga.trans hgf)]
     simp only [Bool.false_eq_true, if_false]
     have hsk := skip_sim hs hdo
     refine ih _ F V B _ w hsz' hcl' hcnt' (Sim.congr hsk (fun t => ?_) (fun id => ?_))
     · rw [haf1, evUpd, hr, hdh]
     · rw [haf2, evUpd, hr, hdh]
end
theorem reg_sound (hT : ∀ t i, get T t = some i → TOk P t i) (hm : P.follows .mixedOrders = true) {n : Nat} {ops : List Oper} {draw : Bool} {σ : St} {K : St → Prop} (hv : vcReg P T n ops draw σ K) {w0 : World} {L0 : Old} {F0 F : Nat → Prop} {V : Nat → Value} {B : Nat → List Nat} {a : Act} {w : World} (hs : Sim n w0 L0 F0 F V B σ a w) {Q : Exit → Act → World → Prop} (hQ : ∀ σ' F' V' B' a' w', K σ' → Sim n w0 L0 F0 F' V' B' σ' a' w' → Q .normal a' w') {id : Nat} : (Code.region id ops.toArray draw).wp P Q a w := by
 unfold vcReg at hv
 split at hv
 · rename_i hd
   refine wp_region ?_
   have := ops_sound hT hd (K := fun σ' _ => K σ') (Q := Q) (fun σ' es F' V' B' a' w' hk hs' => hQ σ' F' V' B' a' w' hk hs') ops 0 σ [] F V B a w (by simp) hs hv
   rw [List.size_toArray, List.range_eq_range']
   exact this
 · rename_i hd
   split at hv
   · rename_i hb
     obtain ⟨evs, ⟨hord, hk⟩, hlen, hat⟩ := trace_of hT hd ops 0 σ [] (by simp) ⟨w0, L0, F0, F, V, B, a, w, hs⟩ hv
     have H : Shown P n ops σ evs := ⟨hlen, fun pre e post h => by
      obtain ⟨h1, h2, h3⟩ := hat pre e post h
      exact ⟨by rw [h1]; omega, h2, h3⟩, by simpa using hord, hb, hd⟩
     refine wp_region_any hm ?_
     have hs' : Sim n w0 L0 F0 F V B σ a { w with drawn := w.drawn + 1 } := by
      refine ⟨⟨hs.fr.os, hs.fr.tape, hs.fr.output, hs.fr.size, hs.fr.old⟩, hs.df, hs.tsz, hs.V1, hs.F_lt, hs.F_new, hs.F0_F, ?_, hs.own, fun t => RepA.move (F := F) (V := V) (w := w) (w' := { w with drawn := w.drawn + 1 }) (fun _ h => h) (fun _ _ => rfl) (A.all_mono (fun _ _ => rfl) (hs.ids t)) (hs.env t), hs.ids, hs.keep⟩
      exact hs.hp.step hs.F_lt (fun _ => False) (fun _ _ _ => rfl) (Nat.le_refl _) (fun _ _ => rfl) (fun _ _ _ => rfl) (fun _ h => h) (fun _ h => .inl h) (fun _ _ => rfl) (fun _ h => h) (fun _ _ h => h.elim) (fun _ _ h => h.elim) (fun _ _ _ h => h.elim)
     have hrep : ∀ i, (Array.replicate ops.toArray.size false).getD i false = false := fun i => by
      simp only [Array.getD_eq_getD_getElem?, Array.getElem?_replicate]
      split <;> rfl
     refine H.any (Q := Q) (fun F' V' B' a' w' hs' => hQ _ F' V' B' a' w' hk hs') _ _ F V B a _ (by simp) (fun j o ho hj => ?_) ?_ ?_
     · have hj : (Array.replicate ops.toArray.size false).getD j false = true := hj
       rw [hrep] at hj; cases hj
     · refine Nat.le_trans List.countP_le_length ?_
       simp
     · have : evs.filter (fun x => (Array.replicate ops.toArray.size false).getD x.i false) = [] := List.filter_eq_nil_iff.2 fun x _ => by rw [hrep]; simp
       rw [this]
       exact hs'
   · exact hv.elim
 · exact hv.elim
end Go.Proofs.YthbpdhppelaihaaGreat