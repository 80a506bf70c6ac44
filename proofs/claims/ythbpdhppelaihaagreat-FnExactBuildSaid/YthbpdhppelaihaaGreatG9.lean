/- REGIONS: every order. Conditions: none. -/
import Derived.Test.YthbpdhppelaihaaGreatG8
set_option linter.unusedVariables false
set_option linter.unusedSimpArgs false
namespace Go.Proofs.YthbpdhppelaihaaGreat
open Go.RowKit
variable {P : Program} {T : List (Nat × TI)}

theorem countP_le {p q : Nat → Bool} (h : ∀ x, p x = true → q x = true) : ∀ l : List Nat, l.countP p ≤ l.countP q
  | [] => by simp
  | x :: l => by
    have ih := countP_le h l
    rw [List.countP_cons, List.countP_cons]
    cases hp : p x with
    | false => cases q x <;> simp <;> omega
    | true => simp [h x hp]; omega
theorem countP_lt {p q : Nat → Bool} (h : ∀ x, p x = true → q x = true) {i : Nat} (hp : p i = false) (hq : q i = true) : ∀ l : List Nat, i ∈ l → l.countP p < l.countP q
  | [], hi => by simp at hi
  | x :: l, hi => by
    rw [List.countP_cons, List.countP_cons]
    rcases List.mem_cons.1 hi with rfl | hi
    · have := countP_le h l
      simp [hp, hq]; omega
    · have ih := countP_lt h hp hq l hi
      cases hpx : p x with
      | false => cases q x <;> simp <;> omega
      | true => simp [h x hpx]; omega
theorem getD_set_eq {l : Array Bool} {i j : Nat} (d : Bool) : (l.setIfInBounds i true).getD j d = if i = j ∧ i < l.size then true else l.getD j d := by
  rw [Array.getD_eq_getD_getElem?, Array.getD_eq_getD_getElem?, Array.getElem?_setIfInBounds]
  split
  · rename_i h
    subst h
    split
    · rename_i h2; simp [h2]
    · rename_i h2; simp [h2]
  · rename_i h; simp [h]
theorem filt0 (l : List Evt) : l.filter (fun _ => false) = [] := List.filter_eq_nil_iff.2 fun _ _ => by simp
/-- All that the order of the text has shown. -/
structure Shown (P : Program) (n : Nat) (ops : List Oper) (σ0 : St) (evs : List Evt) : Prop where
  len : evs.length = ops.length
  at_ : ∀ pre e post, evs = pre ++ e :: post → e.i = pre.length ∧ ops[pre.length]? = some e.o ∧ Good P n ops e (app σ0 pre)
  ord : ordOk (closure ops []) [] (evs.map (·.ct)) = true
  back : backOk ops 0 = true
  dst : dstOk n ops = true
section
variable {n : Nat} {ops : List Oper} {σ0 : St} {evs : List Evt} (H : Shown P n ops σ0 evs)
include H
theorem Shown.split {i : Nat} (hi : i < ops.length) : ∃ pre e post, evs = pre ++ e :: post ∧ pre.length = i := by
  have : i < evs.length := by rw [H.len]; exact hi
  refine ⟨evs.take i, evs[i], evs.drop (i + 1), ?_, by rw [List.length_take]; omega⟩
  rw [List.getElem_cons_drop, List.take_append_drop]
theorem Shown.idx {pre post : List Evt} {e x : Evt} (h : evs = pre ++ e :: post) : (x ∈ pre → x.i < e.i) ∧ (x ∈ post → e.i < x.i) := by
  obtain ⟨h1, _, _⟩ := H.at_ pre e post h
  refine ⟨fun hx => ?_, fun hx => ?_⟩
  · obtain ⟨p1, p2, rfl⟩ := List.append_of_mem hx
    obtain ⟨h2, _, _⟩ := H.at_ p1 x (p2 ++ e :: post) (by rw [h]; simp)
    rw [h1, h2]; simp
  · obtain ⟨p1, p2, rfl⟩ := List.append_of_mem hx
    obtain ⟨h2, _, _⟩ := H.at_ (pre ++ e :: p1) x p2 (by rw [h]; simp)
    rw [h1, h2]; simp
theorem Shown.ctAt {pre post : List Evt} {e : Evt} (h : evs = pre ++ e :: post) : (evs.map (·.ct))[e.i]? = some e.ct := by
  obtain ⟨h1, _, _⟩ := H.at_ pre e post h
  rw [h1, h]
  simp
/-- x comes before e in the text, and it matters: so e waits for x. -/
theorem Shown.waits {x e : Evt} (hx : x ∈ evs) (he : e ∈ evs) (hlt : x.i < e.i) (hc : x.ct.conf e.ct = true) {L : Nat → Bool} (hL : Cl ops L) (hdir : ∀ k ∈ direct e.o, L k = true) : L x.i = true := by
  obtain ⟨p1, p2, h1⟩ := List.append_of_mem he
  obtain ⟨q1, q2, h2⟩ := List.append_of_mem hx
  obtain ⟨h3, h4, _⟩ := H.at_ p1 e p2 h1
  obtain ⟨cl, hcl, hall⟩ := ordOk_spec H.ord e.i e.ct (H.ctAt h1)
  have := hall x.i x.ct (by simpa using H.ctAt h2) (by simpa using hlt) hc
  exact closure_spec ops [] (by simp) (fun j o l ho hl => by simp at hl) e.i e.o cl (by rw [h3]; exact h4) hcl x.i this L hL hdir
/-- What has come up and e agree with what stands before e in the text. -/
theorem Shown.agree {pre post : List Evt} {e : Evt} (h : evs = pre ++ e :: post) {L : Nat → Bool} (hL : Cl ops L) (hdir : ∀ k ∈ direct e.o, L k = true) (hun : L e.i = false) :
    (∀ t, t ∈ e.ct.rt ∨ t ∈ e.ct.wt → (app σ0 (evs.filter fun x => L x.i)).tmp t = (app σ0 pre).tmp t) ∧ (∀ id, id ∈ e.ct.ri ∨ id ∈ e.ct.wi → get (app σ0 (evs.filter fun x => L x.i)).hp id = get (app σ0 pre).hp id) ∧
    ∀ x ∈ evs, x.i > e.i → L x.i = true → e.ct.conf x.ct = false := by
  have hem : e ∈ evs := by rw [h]; simp
  -- those before e that have not come up do not matter to e; those behind it that have come up neither
  have hb : ∀ x ∈ pre, L x.i = false → x.ct.conf e.ct = false := fun x hx hl => by
    cases hc : x.ct.conf e.ct with
    | false => rfl
    | true =>
      have := H.waits (by rw [h]; simp [hx]) hem ((H.idx h).1 hx) hc hL hdir
      rw [hl] at this; cases this
  have ha : ∀ x ∈ evs, x.i > e.i → L x.i = true → e.ct.conf x.ct = false := fun x hx hgt hl => by
    cases hc : e.ct.conf x.ct with
    | false => rfl
    | true =>
      obtain ⟨p1, p2, h1⟩ := List.append_of_mem hx
      obtain ⟨h3, h4, _⟩ := H.at_ p1 x p2 h1
      have := H.waits hem hx hgt hc hL (hL x.i x.o (by rw [h3]; exact h4) hl)
      rw [hun] at this; cases this
  have wct : ∀ x ∈ evs, (∀ t, x.o.dst = some t → t ∈ x.ct.wt) ∧ ∀ id, get x.dh id ≠ none → id ∈ x.ct.wi := fun x hx => by
    obtain ⟨p1, p2, h1⟩ := List.append_of_mem hx
    obtain ⟨_, _, hg⟩ := H.at_ p1 x p2 h1
    rcases hg with ⟨_, _, hc⟩ | ⟨_, _, hd, hc⟩
    · exact ⟨fun t ht => by rw [hc]; exact dst_mem.1 ht, fun id hid => by rw [hc]; exact key_mem hid⟩
    · exact ⟨fun t ht => by rw [hc]; exact dst_mem.1 ht, fun id hid => by rw [hd] at hid; exact (hid rfl).elim⟩
  have hsplit : ∀ (σ : St), (app σ (evs.filter fun x => L x.i)) = app (app σ (pre.filter fun x => L x.i)) (post.filter fun x => L x.i) := fun σ => by
    rw [h, List.filter_append, List.filter_cons_of_neg (by simp [hun]), app_append]
  refine ⟨fun t ht => ?_, fun id hid => ?_, ha⟩
  · rw [hsplit]
    have h1 : (app σ0 (pre.filter fun x => L x.i)).tmp t = (app σ0 pre).tmp t := app_filter_tmp _ pre σ0 fun x hx hl hd => by
      have h2 := conf_spec (hb x hx hl)
      have h3 := (wct x (by rw [h]; simp [hx])).1 t hd
      rcases ht with ht | ht
      · exact (h2.1 t h3).1 ht
      · exact (h2.1 t h3).2 ht
    rw [← h1]
    have h4 : ∀ (σ : St), (app σ ((post.filter fun x => L x.i).filter fun _ => false)).tmp t = (app σ (post.filter fun x => L x.i)).tmp t := fun σ => app_filter_tmp _ _ σ fun x hx _ hd => by
      obtain ⟨hx, hl⟩ := List.mem_filter.1 hx
      have hxe : x ∈ evs := by rw [h]; simp [hx]
      have h2 := conf_spec (ha x hxe ((H.idx h).2 hx) hl)
      have h3 := (wct x hxe).1 t hd
      rcases ht with ht | ht
      · exact h2.2.1 t ht h3
      · exact (h2.1 t ht).2 h3
    rw [← h4, filt0]
    rfl
  · rw [hsplit]
    have h1 : get (app σ0 (pre.filter fun x => L x.i)).hp id = get (app σ0 pre).hp id := app_filter_get _ pre σ0 fun x hx hl => by
      apply Decidable.byContradiction
      intro hd
      have h2 := conf_spec (hb x hx hl)
      have h3 := (wct x (by rw [h]; simp [hx])).2 id hd
      rcases hid with ht | ht
      · exact (h2.2.2.1 id h3).1 ht
      · exact (h2.2.2.1 id h3).2 ht
    rw [← h1]
    have h4 : ∀ (σ : St), get (app σ ((post.filter fun x => L x.i).filter fun _ => false)).hp id = get (app σ (post.filter fun x => L x.i)).hp id := fun σ => app_filter_get _ _ σ fun x hx _ => by
      apply Decidable.byContradiction
      intro hd
      obtain ⟨hx, hl⟩ := List.mem_filter.1 hx
      have hxe : x ∈ evs := by rw [h]; simp [hx]
      have h2 := conf_spec (ha x hxe ((H.idx h).2 hx) hl)
      have h3 := (wct x hxe).2 id hd
      rcases hid with ht | ht
      · exact h2.2.2.2 id ht h3
      · exact (h2.2.2.1 id ht).2 h3
    rw [← h4, filt0]
    rfl
/-- The state behind e, whichever way one counts. -/
theorem Shown.after {pre post : List Evt} {e : Evt} (h : evs = pre ++ e :: post) {L L' : Nat → Bool} (hL' : ∀ x ∈ evs, L' x.i = (L x.i || Nat.beq x.i e.i)) (hun : L e.i = false) (ha : ∀ x ∈ evs, x.i > e.i → L x.i = true → e.ct.conf x.ct = false) :
    (∀ t, (app σ0 (evs.filter fun x => L' x.i)).tmp t = (evUpd (app σ0 (evs.filter fun x => L x.i)) e).tmp t) ∧ ∀ id, get (app σ0 (evs.filter fun x => L' x.i)).hp id = get (evUpd (app σ0 (evs.filter fun x => L x.i)) e).hp id := by
  have wct : ∀ x ∈ evs, (∀ t, x.o.dst = some t → t ∈ x.ct.wt) ∧ ∀ id, get x.dh id ≠ none → id ∈ x.ct.wi := fun x hx => by
    obtain ⟨p1, p2, h1⟩ := List.append_of_mem hx
    obtain ⟨_, _, hg⟩ := H.at_ p1 x p2 h1
    rcases hg with ⟨_, _, hc⟩ | ⟨_, _, hd, hc⟩
    · exact ⟨fun t ht => by rw [hc]; exact dst_mem.1 ht, fun id hid => by rw [hc]; exact key_mem hid⟩
    · exact ⟨fun t ht => by rw [hc]; exact dst_mem.1 ht, fun id hid => by rw [hd] at hid; exact (hid rfl).elim⟩
  have hem : e ∈ evs := by rw [h]; simp
  have hsame : ∀ l : List Evt, (∀ x ∈ l, x ∈ evs ∧ x.i ≠ e.i) → l.filter (fun x => L' x.i) = l.filter fun x => L x.i := fun l hl => List.filter_congr fun x hx => by
    obtain ⟨h1, h2⟩ := hl x hx
    rw [hL' x h1]
    have : Nat.beq x.i e.i = false := by
      cases hb : Nat.beq x.i e.i with
      | false => rfl
      | true => exact (h2 (Nat.eq_of_beq_eq_true hb)).elim
    simp [this]
  have hpre := hsame pre fun x hx => ⟨by rw [h]; simp [hx], by have := (H.idx h).1 hx; omega⟩
  have hpost := hsame post fun x hx => ⟨by rw [h]; simp [hx], by have := (H.idx h).2 hx; omega⟩
  have he : L' e.i = true := by rw [hL' e hem]; simp
  have h1 : evs.filter (fun x => L' x.i) = pre.filter (fun x => L x.i) ++ e :: post.filter fun x => L x.i := by
    rw [h, List.filter_append, List.filter_cons_of_pos (p := fun (x : Evt) => L' x.i) he, hpre, hpost]
  have h2 : evs.filter (fun x => L x.i) = pre.filter (fun x => L x.i) ++ post.filter fun x => L x.i := by
    rw [h, List.filter_append, List.filter_cons_of_neg (by simp [hun])]
  rw [h1, h2, app_append, app_append]
  generalize app σ0 (pre.filter fun x => L x.i) = X
  have hpo : ∀ x ∈ post.filter fun x => L x.i, x ∈ evs ∧ e.ct.conf x.ct = false := fun x hx => by
    obtain ⟨hx, hl⟩ := List.mem_filter.1 hx
    have hxe : x ∈ evs := by rw [h]; simp [hx]
    exact ⟨hxe, ha x hxe ((H.idx h).2 hx) hl⟩
  generalize post.filter (fun x => L x.i) = Y at hpo
  refine ⟨fun t => ?_, fun id => ?_⟩
  · show (app (evUpd X e) Y).tmp t = _
    by_cases hd : e.o.dst = some t
    · have h4 := app_filter_tmp (t := t) (fun _ => false) Y (evUpd X e) fun x hx _ hdx => by
        obtain ⟨h5, h6⟩ := hpo x hx
        exact ((conf_spec h6).1 t ((wct e hem).1 t hd)).2 ((wct x h5).1 t hdx)
      rw [← h4, filt0]
      simp [app, evUpd, tmp_upd, hd]
    · rw [app_tmp_congr Y (σ := evUpd X e) (σ' := X) (by rw [evUpd, tmp_upd, if_neg hd]), evUpd, tmp_upd, if_neg hd]
  · show get (app (evUpd X e) Y).hp id = _
    by_cases hd : get e.dh id = none
    · rw [app_get_congr Y (σ := evUpd X e) (σ' := X) (by rw [get_evUpd, hd]), get_evUpd, hd]
    · have h4 := app_filter_get (id := id) (fun _ => false) Y (evUpd X e) fun x hx _ => by
        apply Decidable.byContradiction
        intro hdx
        obtain ⟨h5, h6⟩ := hpo x hx
        exact ((conf_spec h6).2.2.1 id ((wct e hem).2 id hd)).2 ((wct x h5).2 id hdx)
      rw [← h4, filt0]
      obtain ⟨ob, hob⟩ := Option.ne_none_iff_exists'.1 hd
      simp [app, get_evUpd, hob]
/-- EVERY ORDER. -/
theorem Shown.any {Q : Exit → Act → World → Prop} {w0 : World} {L0 : Old} {F0 : Nat → Prop} (hQ : ∀ F V B a w, Sim n w0 L0 F0 F V B (app σ0 evs) a w → Q .normal a w) : ∀ (fuel : Nat) (listed : Array Bool) (F : Nat → Prop) (V : Nat → Value) (B : Nat → List Nat) (a : Act) (w : World), listed.size = ops.length → Cl ops (fun i => listed.getD i false) → (List.range ops.length).countP (fun i => !listed.getD i false) ≤ fuel →
    Sim n w0 L0 F0 F V B (app σ0 (evs.filter fun x => listed.getD x.i false)) a w → wpAny P .any ops.toArray Q fuel listed a w := by
  have hidx : ∀ x ∈ evs, x.i < ops.length := fun x hx => by
    obtain ⟨p1, p2, h1⟩ := List.append_of_mem hx
    obtain ⟨h2, _, _⟩ := H.at_ p1 x p2 h1
    have := H.len
    rw [h1] at this
    simp at this
    omega
  have hdone : ∀ (listed : Array Bool) F V B a w, listed.size = ops.length → Region.ready .any ops.toArray listed = [] → Sim n w0 L0 F0 F V B (app σ0 (evs.filter fun x => listed.getD x.i false)) a w → Q .normal a w := by
    intro listed F V B a w hsz hr hs
    have hall : ∀ k, ∀ j, j < k → j < ops.length → listed.getD j false = true := by
      intro k
      induction k with
      | zero => intro j hj; omega
      | succ k ih =>
        intro j hj hjl
        apply Decidable.byContradiction
        intro hn
        have hmem : j ∈ Region.ready .any ops.toArray listed := by
          refine mem_ready.2 ⟨?_, ops[j], by simp [hjl], fun e he hb => ?_⟩
          · have hjs : j < listed.size := by omega
            simp [Array.getD_eq_getD_getElem?, hjs] at hn ⊢
            exact hn
          · have hlt := backOk_spec H.back j ops[j] (by simp) e.on (by
              simp only [direct, List.mem_map, List.mem_filter]
              exact ⟨e, ⟨by simpa using he, hb⟩, rfl⟩)
            exact ih e.on (by omega) (by omega)
        rw [hr] at hmem
        cases hmem
    have : evs.filter (fun x => listed.getD x.i false) = evs := List.filter_eq_self.2 fun x hx => hall ops.length x.i (hidx x hx) (hidx x hx)
    rw [this] at hs
    exact hQ F V B a w hs
  intro fuel
  induction fuel with
  | zero =>
    intro listed F V B a w hsz hcl hcnt hs
    have hr : Region.ready .any ops.toArray listed = [] := by
      apply List.eq_nil_iff_forall_not_mem.2
      intro j hj
      obtain ⟨h1, o, h2, _⟩ := mem_ready.1 hj
      have hjl : j < ops.length := by
        rcases Nat.lt_or_ge j ops.length with h | h
        · exact h
        · simp [h] at h2
      have h3 : 0 < (List.range ops.length).countP (fun i => !listed.getD i false) := List.countP_pos_iff.2 ⟨j, by simpa using hjl, by
        have hjs : j < listed.size := by omega
        simp [Array.getD_eq_getD_getElem?, hjs] at h1 ⊢
        exact h1⟩
      omega
    exact ⟨hr, hdone listed F V B a w hsz hr hs⟩
  | succ fuel ih =>
    intro listed F V B a w hsz hcl hcnt hs
    refine ⟨fun hr => hdone listed F V B a w hsz hr hs, fun i hi => ?_⟩
    obtain ⟨h1, o, h2, h3⟩ := mem_ready.1 hi
    have hil : i < ops.length := by
      rcases Nat.lt_or_ge i ops.length with h | h
      · exact h
      · simp [h] at h2
    have his : i < listed.size := by omega
    have hun : listed.getD i false = false := by simp [Array.getD_eq_getD_getElem?, his] at h1 ⊢; exact h1
    obtain ⟨pre, e, post, hev, hpl⟩ := H.split hil
    obtain ⟨he1, he2, hg⟩ := H.at_ pre e post hev
    rw [hpl] at he1 he2
    rw [List.getElem?_toArray, he2] at h2
    cases h2
    have hdir : ∀ k ∈ direct e.o, listed.getD k false = true := fun k hk => by
      simp only [direct, List.mem_map, List.mem_filter] at hk
      obtain ⟨x, ⟨hx1, hx2⟩, rfl⟩ := hk
      exact h3 x (by simpa using hx1) hx2
    obtain ⟨hat, hai, ha⟩ := H.agree hev hcl hdir (by rw [he1]; exact hun)
    have hset : ∀ j, (listed.setIfInBounds i true).getD j false = (listed.getD j false || Nat.beq j i) := fun j => by
      rw [getD_set_eq]
      by_cases hj : i = j
      · subst hj; simp [his]
      · have : Nat.beq j i = false := by
          cases hb : Nat.beq j i with
          | false => rfl
          | true => exact (hj (Nat.eq_of_beq_eq_true hb).symm).elim
        simp [hj, this]
    obtain ⟨haf1, haf2⟩ := H.after hev (L := fun j => listed.getD j false) (L' := fun j => (listed.setIfInBounds i true).getD j false) (fun x _ => by rw [hset, he1]) (by rw [he1]; exact hun) ha
    have hsz' : (listed.setIfInBounds i true).size = ops.length := by rw [Array.size_setIfInBounds]; exact hsz
    have hcl' : Cl ops (fun j => (listed.setIfInBounds i true).getD j false) := by
      intro j oj hoj hj k hk
      show (listed.setIfInBounds i true).getD k false = true
      have hj : (listed.setIfInBounds i true).getD j false = true := hj
      rw [hset] at hj ⊢
      simp only [Bool.or_eq_true] at hj ⊢
      rcases hj with hj | hj
      · exact .inl (hcl j oj hoj hj k hk)
      · have := Nat.eq_of_beq_eq_true hj
        subst this
        rw [he2] at hoj
        cases hoj
        exact .inl (hdir k hk)
    have hcnt' : (List.range ops.length).countP (fun j => !(listed.setIfInBounds i true).getD j false) ≤ fuel := by
      have := countP_lt (p := fun j => !(listed.setIfInBounds i true).getD j false) (q := fun j => !listed.getD j false) (fun x hx => by
        rw [hset] at hx
        simp only [Bool.not_eq_true', Bool.or_eq_false_iff] at hx ⊢
        exact hx.1) (i := i) (by simp [hset]) (by simp [hun]) (List.range ops.length) (by simpa using hil)
      omega
    have hdo := dstOk_mem H.dst e.o (List.mem_of_getElem? he2)
    unfold wpOp
    rw [List.getElem?_toArray, he2]
    dsimp only
    have hga : guardSt ops (app σ0 (evs.filter fun x => listed.getD x.i false)) e.o = guardSt ops (app σ0 pre) e.o := guardSt_agree fun t ht => hat t (.inl (by
      rcases hg with ⟨_, _, hc⟩ | ⟨_, _, _, hc⟩ <;> (rw [hc]; simp [ctOf, ht])))
    rcases hg with ⟨hgt, hsn, hct⟩ | ⟨hgf, hr, hdh, hct⟩
    · rw [wanted_of hs (hga.trans hgt)]
      simp only [if_true]
      refine .inl (hsn _ ⟨fun x hx => ev_agree fun t hxt => hat t (.inl ?_), fun id hid => hai id ?_⟩ hs _ Q fun F' V' B' a' w' hs' => ih _ F' V' B' a' w' hsz' hcl' hcnt' (hs'.congr haf1 haf2))
      · rw [hct]
        subst hxt
        simp only [ctOf, List.mem_append]
        exact .inr (tmpsOf_mem hx)
      · rw [hct]
        exact hid
    · rw [wanted_of hs (hga.trans hgf)]
      simp only [Bool.false_eq_true, if_false]
      have hsk := skip_sim hs hdo
      refine ih _ F V B _ w hsz' hcl' hcnt' (Sim.congr hsk (fun t => ?_) (fun id => ?_))
      · rw [haf1, evUpd, hr, hdh]
      · rw [haf2, evUpd, hr, hdh]
end
/-- A REGION'S CONDITION IS SOUND. -/
theorem reg_sound (hT : ∀ t i, get T t = some i → TOk P t i) (hm : P.follows .mixedOrders = true) {n : Nat} {ops : List Oper} {draw : Bool} {σ : St} {K : St → Prop} (hv : vcReg P T n ops draw σ K) {w0 : World} {L0 : Old} {F0 F : Nat → Prop} {V : Nat → Value} {B : Nat → List Nat} {a : Act} {w : World} (hs : Sim n w0 L0 F0 F V B σ a w) {Q : Exit → Act → World → Prop} (hQ : ∀ σ' F' V' B' a' w', K σ' → Sim n w0 L0 F0 F' V' B' σ' a' w' → Q .normal a' w') {id : Nat} : (Code.region id ops.toArray draw).wp P Q a w := by
  unfold vcReg at hv
  split at hv
  · rename_i hd
    refine wp_region ?_
    have := ops_sound hT hd (K := fun σ' _ => K σ') (Q := Q) (fun σ' es F' V' B' a' w' hk hs' => hQ σ' F' V' B' a' w' hk hs') ops 0 σ [] F V B a w (by simp) hs hv
    rw [List.size_toArray, List.range_eq_range']
    exact this
  · rename_i hd
    split at hv
    · rename_i hb
      obtain ⟨evs, ⟨hord, hk⟩, hlen, hat⟩ := trace_of hT hd ops 0 σ [] (by simp) ⟨w0, L0, F0, F, V, B, a, w, hs⟩ hv
      have H : Shown P n ops σ evs := ⟨hlen, fun pre e post h => by
        obtain ⟨h1, h2, h3⟩ := hat pre e post h
        exact ⟨by rw [h1]; omega, h2, h3⟩, by simpa using hord, hb, hd⟩
      refine wp_region_any hm ?_
      have hs' : Sim n w0 L0 F0 F V B σ a { w with drawn := w.drawn + 1 } := by
        refine ⟨⟨hs.fr.os, hs.fr.tape, hs.fr.output, hs.fr.size, hs.fr.old⟩, hs.df, hs.tsz, hs.V1, hs.F_lt, hs.F_new, hs.F0_F, ?_, hs.own, fun t => RepA.move (F := F) (V := V) (w := w) (w' := { w with drawn := w.drawn + 1 }) (fun _ h => h) (fun _ _ => rfl) (A.all_mono (fun _ _ => rfl) (hs.ids t)) (hs.env t), hs.ids, hs.keep⟩
        exact hs.hp.step hs.F_lt (fun _ => False) (fun _ _ _ => rfl) (Nat.le_refl _) (fun _ _ => rfl) (fun _ _ _ => rfl) (fun _ h => h) (fun _ h => .inl h) (fun _ _ => rfl) (fun _ h => h) (fun _ _ h => h.elim) (fun _ _ h => h.elim) (fun _ _ _ h => h.elim)
      have hrep : ∀ i, (Array.replicate ops.toArray.size false).getD i false = false := fun i => by
        simp only [Array.getD_eq_getD_getElem?, Array.getElem?_replicate]
        split <;> rfl
      refine H.any (Q := Q) (fun F' V' B' a' w' hs' => hQ _ F' V' B' a' w' hk hs') _ _ F V B a _ (by simp) (fun j o ho hj => ?_) ?_ ?_
      · have hj : (Array.replicate ops.toArray.size false).getD j false = true := hj
        rw [hrep] at hj; cases hj
      · refine Nat.le_trans List.countP_le_length ?_
        simp
      · have : evs.filter (fun x => (Array.replicate ops.toArray.size false).getD x.i false) = [] := List.filter_eq_nil_iff.2 fun x _ => by rw [hrep]; simp
        rw [this]
        exact hs'
    · exact hv.elim
  · exact hv.elim
end Go.Proofs.YthbpdhppelaihaaGreat
