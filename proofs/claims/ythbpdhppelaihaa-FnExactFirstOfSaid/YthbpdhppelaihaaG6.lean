/- ONE OPERATION: op_sound. Conditions: none. -/
import Derived.Test.YthbpdhppelaihaaG5
set_option linter.unusedVariables false
set_option linter.unusedSimpArgs false
namespace Go.Proofs.Ythbpdhppelaihaa
open Go.RowKit
variable {P : Program} {T : List (Nat × TI)}

mutual
theorem leA_congr {h h' : Nat → Option Ob} : ∀ (a' : A) {a : A}, a'.all (fun _ => False) → (∀ k ∈ rwsA a, h k = h' k) → leA h' id a a' → leA h id a a'
  | .un, a, _, _, hl => by unfold leA; trivial
  | .c c', a, _, hh, hl => by
    unfold leA at hl ⊢
    cases a <;> try exact hl
    case rw k => simp only [] at hl ⊢; rw [hh k (by simp [rwsA])]; exact hl
  | .kb b', a, _, _, hl => by unfold leA at hl ⊢; exact hl
  | .ag l', a, hf, hh, hl => by
    unfold leA at hl ⊢
    cases a <;> try exact hl
    case ag l => exact leL_congr l' (by simpa only [A.all] using hf) (fun k hk => hh k (by simpa only [rwsA] using hk)) hl
  | .tp l', a, hf, hh, hl => by
    unfold leA at hl ⊢
    cases a <;> try exact hl
    case tp l => exact leL_congr l' (by simpa only [A.all] using hf) (fun k hk => hh k (by simpa only [rwsA] using hk)) hl
  | .nl, a, _, _, hl => by unfold leA at hl ⊢; exact hl
  | .pt i off, a, hf, _, hl => by simp only [A.all] at hf
  | .el e x off, a, _, _, hl => by unfold leA at hl ⊢; exact hl
  | .rw i, a, hf, hh, hl => by simp only [A.all] at hf
  | .re sz i j off, a, hf, _, hl => by simp only [A.all] at hf
  | .fn f l, a, _, _, hl => by unfold leA at hl ⊢; exact hl
theorem leL_congr {h h' : Nat → Option Ob} : ∀ (l' : List A) {l : List A}, allL (fun _ => False) l' → (∀ k ∈ rwsL l, h k = h' k) → leL h' id l l' → leL h id l l'
  | [], l, _, _, hl => by unfold leL at hl ⊢; exact hl
  | a' :: l', l, hf, hh, hl => by
    simp only [allL] at hf
    unfold leL at hl ⊢
    cases l with
    | nil => exact hl
    | cons a l => exact ⟨leA_congr a' hf.1 (fun k hk => hh k (by simp only [rwsL]; exact List.mem_append_left _ hk)) hl.1, leL_congr l' hf.2 (fun k hk => hh k (by simp only [rwsL]; exact List.mem_append_right _ hk)) hl.2⟩
end
variable (hT : ∀ t i, get T t = some i → TOk P t i)
section
variable {n : Nat} {o : Oper} (hd : ∀ d, o.dst = some d → d < n) {σ0 : St} {K : A → Hp → List Nat → Prop}
include hd
theorem snd_call {c : Call} {f : Operand} (ho : o.op = .call c) (hc : c.callee = .value f) {g : Nat} {caps : List A} (hf : ev σ0 f = .fn g caps) (hv : callA P (get σ0.hp) σ0.nx g (c.args.toList.map (ev σ0) ++ caps) K) : ∃ r dh rd, K r dh rd ∧ Snd P n o σ0 r dh rd := by
  unfold callA at hv
  have hops : ∀ σ rd dh, Agr σ σ0 o.op rd dh → ev σ f = ev σ0 f ∧ c.args.toList.map (ev σ) = c.args.toList.map (ev σ0) := fun σ rd dh hs => by
    have h3 := hs.1
    rw [ho] at h3
    exact ⟨h3 f (by simp [Op.operands, Call.operands, hc]), List.map_congr_left fun x hx => h3 x (by
      simp [Op.operands, Call.operands, hc]
      exact .inr (by simpa using hx))⟩
  rcases hv with hv | hv
  rotate_left
  · unfold callB at hv
    obtain ⟨as, r, hout, hret, hargs, hfr, hfh, hnw, has, hv⟩ := hv
    refine ⟨_, _, _, hv, fun σ hs => ?_⟩
    obtain ⟨hf', ha'⟩ := hops σ _ _ hs
    refine val_callB hd ho hc (hf'.trans hf) hret ?_ hfr hfh (newAll_congr (ids := []) (fun id hid => hs.2 id (.inr hid)) hnw) has
    rw [ha']
    exact leL_congr as has (fun id hid => by unfold lent; rw [hs.2 id (.inl hid)]) hargs
  obtain ⟨as, hin, r, hout, ids, hret, hargs, hnd, hdef, hlk, hnw, has, hoi, hv⟩ := hv
  refine ⟨_, _, _, hv, fun σ hs => ?_⟩
  have h3 := hs.1
  rw [ho] at h3
  have hf' : ev σ f = ev σ0 f := h3 f (by simp [Op.operands, Call.operands, hc])
  have ha' : c.args.toList.map (ev σ) = c.args.toList.map (ev σ0) := List.map_congr_left fun x hx => h3 x (by
    simp [Op.operands, Call.operands, hc]
    exact .inr (by simpa using hx))
  exact val_call hd ho hc (hf'.trans hf) hret (by rw [ha']; exact hargs) hnd hdef (lookAll_congr (fun id hid => hs.2 id (.inl hid)) hlk) (newAll_congr (fun id hid => hs.2 id (.inr hid)) hnw) has hoi
include hT
theorem snd_app (hR : Real n σ0) {t et : Nat} {i ie : TI} {e : Ty} {s x : Operand} {c : Call} (hi : get T t = some i) (hk : i.k = .sl e et) (hie : get T et = some ie) (hsz : ie.sz = szE e) (hby : ie.by_ = byE e) (het : et = etOf e) (hc : appCall c s x t) (ho : o.op = .call c) (hv : appA (get σ0.hp) e (ev σ0 s) (ev σ0 x) σ0.nx K) : ∃ r dh rd, K r dh rd ∧ Snd P n o σ0 r dh rd := by
  have hops : ∀ σ rd dh, Agr σ σ0 o.op rd dh → ev σ s = ev σ0 s ∧ ev σ x = ev σ0 x := fun σ rd dh hs => by
    have h3 := hs.1
    rw [ho] at h3
    unfold appCall at hc
    subst hc
    exact ⟨h3 s (by simp [Op.operands, Call.operands]), h3 x (by simp [Op.operands, Call.operands])⟩
  have hu := und_sl (hT t i hi) hk
  unfold appA at hv
  split at hv
  · rename_i idx e' ys hxd
    have hxx : ev σ0 x = .rw idx ∧ get σ0.hp idx = some (.dp e' ys) := by
      unfold isDp at hxd
      split at hxd
      · rename_i k hx
        split at hxd
        · rename_i hg; cases hxd; exact ⟨hx, hg⟩
        · cases hxd
      · cases hxd
    split at hv
    · rename_i zs hz
      unfold appD at hv
      split at hv
      · rename_i hsn
        obtain ⟨h1, hv⟩ := fresh_ok hv
        refine ⟨_, _, _, hv, fun σ hs => ?_⟩
        obtain ⟨h2, h3⟩ := hops σ _ _ hs
        have hb := real_boundD hR (x := x) (e := e') (xs := ys) (by rw [hxx.1]; simp only [isRowD, hxx.2])
        obtain ⟨rfl, _, h5⟩ := castTy_ok _ _ _ _ hz
        exact val_appD hT hd hu (hT et ie hie) hsz hby het (by rw [hs.2 σ0.nx (.inr (by simp [keys, kill]))]; exact h1) hc ho (.inl ⟨h2.trans hsn, rfl, rfl⟩) (h3.trans hxx.1) (by rw [hs.2 idx (.inr (by simp [keys, kill]))]; exact hxx.2) hz (by rw [← h5]; simpa using hb)
      · rename_i id hsn
        split at hv
        · rename_i e1 ws hg hne
          split at hv
          · rename_i xs hw
            obtain ⟨hlen, hv⟩ := hv
            obtain ⟨h1, hv⟩ := fresh_ok hv
            refine ⟨_, _, _, hv, fun σ hs => ?_⟩
            obtain ⟨h2, h3⟩ := hops σ _ _ hs
            obtain ⟨rfl, h5, h6⟩ := castTy_ok _ _ _ _ hw
            have hws : ws = xs := by
              clear hv hs
              cases e <;> simp [castTy] at hw <;> exact hw
            subst hws
            exact val_appD hT hd hu (hT et ie hie) hsz hby het (by rw [hs.2 σ0.nx (.inr (by simp [keys, kill]))]; exact h1) hc ho (.inr ⟨id, h2.trans hsn, (fun e => by subst e; simp at hne), rfl, .inl (by rw [hs.2 id (.inr (by simp [keys, kill]))]; exact hg)⟩) (h3.trans hxx.1) (by rw [hs.2 idx (.inr (by simp [keys, kill]))]; exact hxx.2) hz hlen
          · exact hv.elim
        · rename_i e1 hg hne
          split at hv
          · rename_i xs hw
            obtain ⟨h1, hv⟩ := fresh_ok hv
            refine ⟨_, _, _, hv, fun σ hs => ?_⟩
            obtain ⟨h2, h3⟩ := hops σ _ _ hs
            have hb := real_boundD hR (x := x) (e := e') (xs := ys) (by rw [hxx.1]; simp only [isRowD, hxx.2])
            obtain ⟨rfl, _, h6⟩ := castTy_ok _ _ _ _ hw
            obtain ⟨rfl, _, h5⟩ := castTy_ok _ _ _ _ hz
            exact val_appD hT hd hu (hT et ie hie) hsz hby het (by rw [hs.2 σ0.nx (.inr (by simp [keys, kill]))]; exact h1) hc ho (.inr ⟨id, h2.trans hsn, (fun e => by subst e; simp at hne), rfl, .inr ⟨by rw [hs.2 id (.inr (by simp [keys, kill]))]; exact hg, rfl⟩⟩) (h3.trans hxx.1) (by rw [hs.2 idx (.inr (by simp [keys, kill]))]; exact hxx.2) hz (by rw [← h5]; simpa using hb)
          · exact hv.elim
        · exact hv.elim
      · exact hv.elim
    · exact hv.elim
  split at hv
  · rename_i e' ys hx
    split at hv
    · rename_i hsn
      split at hv
      · rename_i zs hz
        obtain ⟨h1, hv⟩ := fresh_ok hv
        refine ⟨_, _, _, hv, fun σ hs => ?_⟩
        obtain ⟨h2, h3⟩ := hops σ _ _ hs
        exact val_app_nl hT hd hu (hT et ie hie) hsz hby het (by rw [hs.2 σ0.nx (.inr (by simp [keys]))]; exact h1) hc ho (h2.trans hsn) (h := get σ0.hp) (by rw [h3]; exact fun id hid => hs.2 id (.inl hid)) (by rw [h3]; exact hx) hz
      · exact hv.elim
    · rename_i id hsn
      split at hv
      · rename_i e1 ws hg
        split at hv
        · rename_i xs zs hw hz
          obtain ⟨hlen, hv⟩ := hv
          obtain ⟨h1, hv⟩ := fresh_ok hv
          refine ⟨_, _, _, hv, fun σ hs => ?_⟩
          obtain ⟨h2, h3⟩ := hops σ _ _ hs
          obtain ⟨rfl, h5, h6⟩ := castTy_ok _ _ _ _ hw
          have hws : ws = xs := by
            clear hv hs
            cases e <;> simp [castTy] at hw <;> exact hw
          subst hws
          exact val_app_rw hT hd hu (hT et ie hie) hsz hby het (by rw [hs.2 σ0.nx (.inr (by simp [keys]))]; exact h1) hc ho (h2.trans hsn) (by rw [hs.2 id (.inr (by simp [keys]))]; exact hg) (h := get σ0.hp) (by rw [h3]; exact fun id hid => hs.2 id (.inl hid)) (by rw [h3]; exact hx) hz hlen
        · exact hv.elim
      · exact hv.elim
    · exact hv.elim
  · exact hv.elim
omit hT in
theorem snd_mm {c : Call} {x y : Operand} {k k' : IntKind} {a b r : Int} (hc : (c.callee = .builtin .max ∧ r = if b > a then b else a) ∨ (c.callee = .builtin .min ∧ r = if b < a then b else a)) (hca : c.args.toList = [x, y]) (ho : o.op = .call c) (hx : ev σ0 x = .c (.int k a)) (hy : ev σ0 y = .c (.int k' b)) (hv : K (.c (.int k r)) [] []) : ∃ r dh rd, K r dh rd ∧ Snd P n o σ0 r dh rd := by
  refine ⟨_, _, _, hv, snd_of fun σ h3 _ => ?_⟩
  rw [ho] at h3
  have hcb : ∃ bi, c.callee = .builtin bi := by rcases hc with ⟨h, _⟩ | ⟨h, _⟩ <;> exact ⟨_, h⟩
  obtain ⟨bi, hcb⟩ := hcb
  have hx3 := h3 x (by simp [Op.operands, Call.operands, hcb]; rw [← Array.mem_toList_iff, hca]; simp)
  have hy3 := h3 y (by simp [Op.operands, Call.operands, hcb]; rw [← Array.mem_toList_iff, hca]; simp)
  refine val_pure hd fun hs => ⟨⟨.int k r, ?_, .c (.int _ _)⟩, by simp [A.all]⟩
  have h1 := rep_int (by rw [← hx, ← hx3]; exact hs.rep x)
  have h2 := rep_int (by rw [← hy, ← hy3]; exact hs.rep y)
  obtain ⟨callee, args, argTypes⟩ := c
  simp only at hca hcb
  obtain rfl : args = #[x, y] := by apply Array.toList_inj.1; simpa using hca
  rcases hc with ⟨hc, rfl⟩ | ⟨hc, rfl⟩ <;> simp only at hc <;> subst hc
  · simp [execOp, ho, resolve, invoke, builtin, h1, h2, Builtin.max_, Builtin.max2]
  · simp [execOp, ho, resolve, invoke, builtin, h1, h2, Builtin.min_, Builtin.min2]
theorem op_sound (hR : Real n σ0) (hv : opRes P T (ev σ0) (get σ0.hp) σ0.nx o.op K) : ∃ r dh rd, K r dh rd ∧ Snd P n o σ0 r dh rd := by
  cases hop : o.op <;> rw [hop] at hv
  case move x => exact snd_move hd (.inl hop) hv
  case assign x => exact snd_move hd (.inr hop) hv
  case pick c a b => exact snd_pick hd hop hv
  case nilCheck x => exact snd_nil hd hop hv
  case alloc t =>
    simp only [opRes] at hv
    split at hv
    · rename_i i hi; exact snd_alloc hT hd hi hop hv
    · exact hv.elim
  case box t x =>
    simp only [opRes] at hv
    split at hv
    · rename_i l hl; exact snd_box hd hop hl hv
    · exact hv.elim
  case build t parts =>
    simp only [opRes] at hv
    split at hv
    · rename_i i hi
      split at hv
      · rename_i fs hk
        split at hv
        · rename_i l hall hl; exact snd_build hT hd hi hk hop hall hl hv
        · exact hv.elim
      · exact hv.elim
    · exact hv.elim
  case buildSlice t m parts =>
    simp only [opRes] at hv
    split at hv
    · rename_i i hi
      split at hv
      · rename_i e et hk
        split at hv
        · rename_i ie hie
          split at hv
          · rename_i h1 h2; exact snd_lit hT hd hi hk hie (Nat.eq_of_beq_eq_true h1) (Nat.eq_of_beq_eq_true h2) hop hv
          · exact hv.elim
        · exact hv.elim
      · exact hv.elim
    · exact hv.elim
  case load t p =>
    simp only [opRes] at hv
    split at hv
    · rename_i i hi; exact snd_load hT hd hi hop hv
    · exact hv.elim
  case store t p v =>
    simp only [opRes] at hv
    split at hv
    · rename_i i hi; exact snd_store hT hd hi hop hv
    · exact hv.elim
  case binOp op t x y t' => exact snd_bin hT hd hop hv
  case unOp op t x => exact snd_un hd hop hv
  case convert s d x =>
    simp only [opRes] at hv
    split at hv
    · rename_i is id h1 h2
      split at hv
      · rename_i h3; exact snd_conv hT hd h1 h2 hop h3 hv
      · exact hv.elim
    · exact hv.elim
  case makeFunc fn first caps =>
    cases fn
    case func f =>
      simp only [opRes] at hv
      split at hv
      · rename_i hf; exact snd_makeFunc hd hf hop hv
      · exact hv.elim
    all_goals exact (hv : False).elim
  case makeSlice t x y =>
    simp only [opRes] at hv
    split at hv
    · rename_i i hi
      split at hv
      · rename_i e et hk
        split at hv
        · rename_i ie hie
          split at hv
          · rename_i cs h1 h2 h3 h4
            exact snd_make hT hd hi hk hie (Nat.eq_of_beq_eq_true h1) (Nat.eq_of_beq_eq_true h2) (Nat.eq_of_beq_eq_true h3) hop h4 hv.1 hv.2
          · exact hv.elim
        · exact hv.elim
      · exact hv.elim
    · exact hv.elim
  case slice t x lo hi mx =>
    simp only [opRes] at hv
    split at hv
    · rename_i i hi
      split at hv
      · rename_i e et hk
        split at hv
        · rename_i ie hie
          unfold sliceR at hv
          split at hv
          · rename_i e' xs hmx hr
            have hmx' : mx = none := by cases mx with | none => rfl | some y => simp at hmx
            subst hmx'
            split at hv
            · rename_i l r hsz hl hr'
              exact snd_slice_row hT hd hi hk hie (Nat.eq_of_beq_eq_true hsz) hop hr hl hr' hv.1 hv.2
            · exact hv.elim
          · exact hv.elim
        · exact hv.elim
      · rename_i hk
        unfold sliceS at hv
        split at hv
        · rename_i s hmx hx
          have hmx' : mx = none := by cases mx with | none => rfl | some y => simp at hmx
          subst hmx'
          split at hv
          · rename_i l r hl hr'
            exact snd_slice_str hT hd hi hk hop hx hl hr' hv.1 hv.2
          · exact hv.elim
        · exact hv.elim
      · exact hv.elim
    · exact hv.elim
  case fieldAddr t x f =>
    simp only [opRes] at hv
    split at hv
    · rename_i i hi
      split at hv
      · rename_i fs hk
        split at hv
        · rename_i off ft hf
          split at hv
          · rename_i fi hfi
            split at hv
            · rename_i hz; exact snd_fieldAddr hT hd hi hk hf hfi hz hop hv
            · exact hv.elim
          · exact hv.elim
        · exact hv.elim
      · exact hv.elim
    · exact hv.elim
  case field t x f =>
    simp only [opRes] at hv
    split at hv
    · rename_i i hi
      split at hv
      · rename_i fs hk
        split at hv
        · rename_i off ft l hf hx
          split at hv
          · rename_i fi hfi
            split at hv
            · rename_i a ha; exact snd_field hT hd hi hk hf hfi hop hx ha hv
            · exact hv.elim
          · exact hv.elim
        · exact hv.elim
      · exact hv.elim
    · exact hv.elim
  case indexAddr t x j =>
    simp only [opRes] at hv
    split at hv
    · rename_i i hi
      split at hv
      · rename_i e et hk
        split at hv
        · rename_i ie hie; exact snd_indexAddr hT hd hR hi hk hie hop hv
        · exact hv.elim
      · exact hv.elim
    · exact hv.elim
  case index t x j =>
    simp only [opRes] at hv
    split at hv
    · rename_i i hi
      split at hv
      · rename_i hk; exact snd_index hT hd hi hk hop hv
      · exact hv.elim
    · exact hv.elim
  case extract x j =>
    simp only [opRes] at hv
    split at hv
    · rename_i l hx
      split at hv
      · rename_i a ha; exact snd_extract hd hop hx ha hv
      · exact hv.elim
    · exact hv.elim
  case call c =>
    simp only [opRes] at hv
    split at hv
    · rename_i f hc
      split at hv
      · rename_i g caps hf; rw [fcL_eq] at hv; exact snd_call hd hop hc hf hv
      · exact hv.elim
    · rename_i hc
      split at hv
      · rename_i x t hca hct
        split at hv
        · rename_i i hi
          split at hv
          · rename_i e et hk
            exact snd_len hT hd hR hi hk hc hca hct hop hv
          · rename_i hk
            unfold lenS at hv
            split at hv
            · rename_i s hx; exact snd_len_str hT hd hR hi hk hc hca hct hop hx hv
            · exact hv.elim
          · exact hv.elim
        · exact hv.elim
      · exact hv.elim
    · rename_i hc
      split at hv
      · rename_i x y hca
        split at hv
        · rename_i k a k' b hx hy
          split at hv
          · exact snd_mm hd (.inl ⟨hc, rfl⟩) hca hop hx hy hv
          · exact hv.elim
        · exact hv.elim
      · exact hv.elim
    · rename_i hc
      split at hv
      · rename_i x y hca
        split at hv
        · rename_i k a k' b hx hy
          split at hv
          · exact snd_mm hd (.inr ⟨hc, rfl⟩) hca hop hx hy hv
          · exact hv.elim
        · exact hv.elim
      · exact hv.elim
    · rename_i hc
      split at hv
      · rename_i s x t t' hca hct
        split at hv
        · rename_i i htt hi
          split at hv
          · rename_i e et hk
            split at hv
            · rename_i ie hie
              split at hv
              · rename_i h1 h2 h3
                have ht : t = t' := Nat.eq_of_beq_eq_true htt
                subst ht
                refine snd_app hT hd hR hi hk hie (Nat.eq_of_beq_eq_true h1) (Nat.eq_of_beq_eq_true h2) (Nat.eq_of_beq_eq_true h3) ?_ hop hv
                obtain ⟨callee, args, argTypes⟩ := c
                simp only at hc hca hct
                subst hc
                unfold appCall
                congr
                · apply Array.toList_inj.1; simpa using hca
                · apply Array.toList_inj.1; simpa using hct
              · exact hv.elim
            · exact hv.elim
          · exact hv.elim
        · exact hv.elim
      · exact hv.elim
    · exact hv.elim
  all_goals exact (hv : False).elim
end
end Go.Proofs.Ythbpdhppelaihaa
