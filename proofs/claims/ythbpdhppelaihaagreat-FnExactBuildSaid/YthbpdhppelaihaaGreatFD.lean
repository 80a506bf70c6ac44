/- What is one's own all the way down: how it goes over into another row. Conditions: none. -/
import Derived.Test.YthbpdhppelaihaaGreatF7
set_option linter.unusedVariables false
set_option linter.unusedSimpArgs false
namespace Go.Proofs.YthbpdhppelaihaaGreat
open Go.RowKit
variable {P : Program} {T : List (Nat × TI)}

def notSl : C → Prop
  | .sl _ _ => False
  | _ => True
theorem flat_cells {e : Ty} (h : flat e = true) (x : El e) : ∀ c ∈ cells e x, notSl c := by
  cases e <;> simp [flat] at h <;> intro c hc <;> simp only [cells, List.mem_cons, List.not_mem_nil, or_false] at hc
  all_goals
    repeat' (first | (rcases hc with rfl | hc; · trivial) | (subst hc; trivial))
theorem own_flat {F : Nat → Prop} {w : World} : ∀ {us : List Value} {cs : List C}, (∀ c ∈ cs, notSl c) → RepL F w us cs → OwnL w us cs []
  | _, _, _, .nil => .nil
  | u :: _, c :: _, hn, .cons h t => by
    have h0 := hn _ (List.mem_cons_self ..)
    have ih := own_flat (fun c hc => hn c (List.mem_cons_of_mem _ hc)) t
    have h1 : Own w u c [] := by
      cases h with
      | int k n => exact .int k n
      | bool b => exact .bool b
      | str s hs => exact .str s hs
      | sl => exact h0.elim
    have := OwnL.cons h1 ih (fun x hx => by simp at hx)
    simpa using this
theorem own_flats {F : Nat → Prop} {w : World} {e : Ty} {xs : List (El e)} {us : List Value} (h : flat e = true ∨ xs = []) (hr : RepL F w us (xs.flatMap (cells e))) : OwnL w us (xs.flatMap (cells e)) [] := by
  refine own_flat (fun c hc => ?_) hr
  obtain ⟨x, hx, hc⟩ := List.mem_flatMap.1 hc
  rcases h with h | h
  · exact flat_cells h x c hc
  · subst h; simp at hx
theorem own_of_row {F : Nat → Prop} {w : World} {e : Ty} {v : Value} {xs : List (El e)} {us : List Value} (ho : rowR w e v xs.length us) (hr : RepL F w us (xs.flatMap (cells e))) (hb : xs.length * byE e ≤ 140737488355328) (h : flat e = true ∨ xs = []) : Own w v (.sl e xs) (bkl v) := by
  have := Own.sl e xs v us [] hb ho (own_flats h hr) (by unfold bkl; cases blk v <;> simp)
  simpa using this
theorem memN_iff {n : Nat} {l : List Nat} : memN n l = true ↔ n ∈ l := by
  induction l with
  | nil => simp [memN]
  | cons k l ih =>
    simp only [memN]
    cases hb : Nat.beq n k with
    | true => simp [Nat.eq_of_beq_eq_true hb]
    | false =>
      have : n ≠ k := fun e => by subst e; simp at hb
      simp [ih, this]
theorem nodupN_iff {l : List Nat} : nodupN l = true → l.Nodup := by
  induction l with
  | nil => intro _; exact List.nodup_nil
  | cons k l ih =>
    intro h
    simp only [nodupN] at h
    split at h
    · cases h
    · rename_i hm
      exact List.nodup_cons.2 ⟨fun hk => (by rw [memN_iff.2 hk] at hm; cases hm), ih h⟩
theorem own_nil {w : World} (e : Ty) : Own w (.slice none 0 0) (.sl e []) [] := by
  have := Own.sl (w := w) e [] (.slice none 0 0) [] [] (by simp) ⟨by simp, .inl ⟨none, rfl, rfl⟩⟩ .nil (by simp [bkl, blk])
  simpa [bkl, blk] using this
theorem okD_own {n : Nat} {w0 : World} {L0 : Old} {F0 F : Nat → Prop} {V : Nat → Value} {B : Nat → List Nat} {σ : St} {a : Act} {w : World} (hs : Sim n w0 L0 F0 F V B σ a w) {x : A} {v : Value} (hr : RepA F V w v x) {d c : C} (hok : okD (get σ.hp) x = true) (hc : toC (get σ.hp) d x = some c) :
    ∃ bs, Own w v c bs ∧ ∀ b ∈ bs, ∃ id ∈ idsL [x], owns σ.hp V B id b := by
  cases x <;> simp only [okD, toC] at hok hc
  case c c0 =>
    cases hc
    cases hr with
    | c h =>
      cases h with
      | int k n => exact ⟨[], .int k n, fun b hb => by simp at hb⟩
      | bool b => exact ⟨[], .bool b, fun b hb => by simp at hb⟩
      | str s hs => exact ⟨[], .str s hs, fun b hb => by simp at hb⟩
      | sl => simp [okD] at hok
  case kb b =>
    cases hc
    cases hr
    exact ⟨[], .bool b, fun b hb => by simp at hb⟩
  case nl =>
    cases hr
    split at hc
    · cases hc; exact ⟨[], own_nil _, fun b hb => by simp at hb⟩
    · cases hc
  case rw id =>
    have hv : v = V id := by cases hr; rfl
    subst hv
    have ow : ∀ b, (∃ k ∈ idsL [A.rw id], owns σ.hp V B k b) ↔ owns σ.hp V B id b := fun b => by simp [idsL]
    split at hok
    · rename_i e xs hg
      rw [hg] at hc
      cases hc
      have hob := hs.hp.ob id _ hg
      cases hob with
      | dp _ _ h0 => exact ⟨_, h0, fun b hb => (ow b).2 (by unfold owns; rw [hg]; exact hb)⟩
    · rename_i e xs hg
      rw [hg] at hc
      cases hc
      have hob := hs.hp.ob id _ hg
      have hfl : flat e = true ∨ xs = [] := by
        split at hok
        · exact .inl (by assumption)
        · exact .inr rfl
        · cases hok
      cases hob with
      | row _ _ us ho hrr hb => exact ⟨_, own_of_row ho hrr hb hfl, fun b hb => (ow b).2 (by unfold owns; rw [hg]; exact bkl_mem.1 hb)⟩
    · cases hok
  all_goals cases hok
theorem idsL_cons (x : A) (l : List A) : idsL (x :: l) = idsL [x] ++ idsL l := by cases x <;> simp [idsL]
/-- What goes over. -/
theorem okDs_own {n : Nat} {w0 : World} {L0 : Old} {F0 F : Nat → Prop} {V : Nat → Value} {B : Nat → List Nat} {σ : St} {a : Act} {w : World} (hs : Sim n w0 L0 F0 F V B σ a w) : ∀ {l : List A} {us : List Value} {ds cs : List C}, RepAs F V w us l → okDs (get σ.hp) l = true → (idsL l).Nodup → toCs (get σ.hp) ds l = some cs →
    ∃ bs, OwnL w us cs bs ∧ ∀ b ∈ bs, ∃ id ∈ idsL l, owns σ.hp V B id b
  | [], _, ds, cs, .nil, _, _, hc => by
    cases ds with
    | nil => simp [toCs] at hc; subst hc; exact ⟨[], .nil, fun b hb => by simp at hb⟩
    | cons d ds => simp [toCs] at hc
  | x :: l, _, ds, cs, .cons h t, hok, hnd, hc => by
    cases ds with
    | nil => simp [toCs] at hc
    | cons d ds =>
      simp only [toCs] at hc
      simp only [okDs] at hok
      split at hok
      · rename_i hx
        split at hc
        · rename_i c cs' h1 h2
          cases hc
          rw [idsL_cons, List.nodup_append] at hnd
          obtain ⟨b1, ho1, hb1⟩ := okD_own hs h hx h1
          obtain ⟨b2, ho2, hb2⟩ := okDs_own hs t hok hnd.2.1 h2
          refine ⟨b1 ++ b2, .cons ho1 ho2 fun b hb hb' => ?_, fun b hb => ?_⟩
          · obtain ⟨i, hi, hoi⟩ := hb1 b hb
            obtain ⟨j, hj, hoj⟩ := hb2 b hb'
            exact hnd.2.2 i hi j hj (hs.hp.apart i j b hoi hoj)
          · rw [idsL_cons]
            rcases List.mem_append.1 hb with hb | hb
            · obtain ⟨i, hi, hoi⟩ := hb1 b hb; exact ⟨i, List.mem_append_left _ hi, hoi⟩
            · obtain ⟨i, hi, hoi⟩ := hb2 b hb; exact ⟨i, List.mem_append_right _ hi, hoi⟩
        · cases hc
      · cases hok
def updB (B : Nat → List Nat) (id : Nat) (bs : List Nat) : Nat → List Nat := fun k => if k = id then bs else B k
theorem get_kill {ks : List Nat} {id : Nat} {o : Ob} (h : get (kill ks) id = some o) : id ∈ ks ∧ o = .gone := by
  induction ks with
  | nil => simp [kill, get] at h
  | cons k ks ih =>
    simp only [kill] at h
    rw [get_cons] at h
    split at h
    · rename_i e; subst e; cases h; exact ⟨by simp, rfl⟩
    · obtain ⟨h1, h2⟩ := ih h; exact ⟨List.mem_cons_of_mem _ h1, h2⟩
theorem get_kill_in {ks : List Nat} {id : Nat} (h : id ∈ ks) : get (kill ks) id = some .gone := by
  induction ks with
  | nil => simp at h
  | cons k ks ih =>
    simp only [kill]
    rw [get_cons]
    split
    · rfl
    · rename_i e
      rcases List.mem_cons.1 h with h | h
      · exact (e h.symm).elim
      · exact ih h
theorem get_kill_out {ks : List Nat} {id : Nat} (h : id ∉ ks) : get (kill ks) id = none := by
  cases hg : get (kill ks) id with
  | none => rfl
  | some o => exact (h (get_kill hg).1).elim
/-- Object t turns (or is new); the objects ks go over into it. -/
theorem Sim.turn {n : Nat} {w0 : World} {L0 : Old} {F0 F : Nat → Prop} {V : Nat → Value} {B : Nat → List Nat} {σ : St} {a : Act} {w w' : World} (hs : Sim n w0 L0 F0 F V B σ a w) {t : Nat} {ks : List Nat} {v : Value} {bs : List Nat} {o : Ob} (htk : t ∉ ks) (hkd : ∀ k ∈ ks, Def σ.hp k) (hv : get σ.hp t = none ∨ V t = v) (hv1 : v.oneCell' = true)
    (hos : w'.os = w.os) (htape : w'.tape = w.tape) (hout : w'.output = w.output) (hsz : w.heap.size ≤ w'.heap.size)
    (hblk : ∀ b, b < w.heap.size → (∀ k, (k = t ∨ k ∈ ks) → ¬ owns σ.hp V B k b) → w'.heap[b]? = w.heap[b]?) (ho : ObR F (updV V t v) (updB B t bs) w' t o) (hids : obIds (Def ((t, o) :: (kill ks ++ σ.hp))) o)
    (hown : ∀ b, owns ((t, o) :: (kill ks ++ σ.hp)) (updV V t v) (updB B t bs) t b → (w.heap.size ≤ b ∧ b < w'.heap.size) ∨ ∃ k, (k = t ∨ k ∈ ks) ∧ owns σ.hp V B k b) :
    Sim n w0 L0 F0 F (updV V t v) (updB B t bs) { σ with hp := (t, o) :: (kill ks ++ σ.hp) } a w' := by
  have hV : ∀ k, Def σ.hp k → updV V t v k = V k := fun k hk => by
    unfold updV
    split
    · rename_i e
      subst e
      rcases hv with hv | hv
      · unfold Def at hk; rw [hv] at hk; cases hk
      · exact hv.symm
    · rfl
  refine hs.step (fun k => k = t ∨ k ∈ ks) hos htape hout hblk hsz hV (fun k hk _ => ?_) (fun b hb => hb) (fun b hb => .inl hb) (fun b hb => Nat.lt_of_lt_of_le (hs.F_lt b hb) hsz) (fun k => ?_) (fun k hk => ?_) (fun k hk => ?_) (fun k o' hk ho' => ?_) (fun k b hk ho' => ?_) (fun k k' b hk hk' h1 h2 => ?_)
  · unfold updB; rw [if_neg (fun e => hk (.inl e))]
  · unfold updV; split
    · exact hv1
    · exact hs.V1 k
  · rw [get_cons, if_neg (fun e => hk (.inl e.symm)), get_append, get_kill_out (fun h => hk (.inr h))]
  · unfold Def at *
    rw [get_cons]
    split
    · rfl
    · rw [get_append]
      split
      · rfl
      · exact hk
  · rw [get_cons] at ho'
    split at ho'
    · rename_i e; subst e; cases ho'; exact ⟨ho, hids⟩
    · rename_i e
      rcases hk with hk | hk
      · exact (e hk.symm).elim
      · rw [get_append, get_kill_in hk] at ho'
        cases ho'
        exact ⟨.gone, trivial⟩
  · have hkt : k = t := by
      rcases hk with hk | hk
      · exact hk
      · unfold owns at ho'
        rw [get_cons, if_neg (fun e => htk (by rw [e]; exact hk)), get_append, get_kill_in hk] at ho'
        exact ho'.elim
    subst hkt
    rcases hown b ho' with ⟨h1, h2⟩ | ⟨k', hk', h1⟩
    · exact ⟨h2, fun hF => absurd (hs.F_lt b hF) (by omega), .inl h1⟩
    · exact ⟨Nat.lt_of_lt_of_le (hs.hp.lt k' b h1) hsz, hs.hp.nF k' b h1, .inr ⟨k', hk', h1⟩⟩
  · have key : ∀ k, (k = t ∨ k ∈ ks) → owns ((t, o) :: (kill ks ++ σ.hp)) (updV V t v) (updB B t bs) k b → k = t := fun k hk h => by
      rcases hk with hk | hk
      · exact hk
      · unfold owns at h
        rw [get_cons, if_neg (fun e => htk (by rw [e]; exact hk)), get_append, get_kill_in hk] at h
        exact h.elim
    rw [key k hk h1, key k' hk' h2]
theorem kill_len (ks : List Nat) : (kill ks).length = ks.length := by induction ks <;> simp [kill, *]
theorem okDs_def {h : Nat → Option Ob} : ∀ {l : List A}, okDs h l = true → ∀ id ∈ idsL l, (h id).isSome = true
  | [], _, id, hid => by simp [idsL] at hid
  | x :: l, hok, id, hid => by
    simp only [okDs] at hok
    split at hok
    · rename_i hx
      rw [idsL_cons] at hid
      rcases List.mem_append.1 hid with hid | hid
      · cases x <;> simp [idsL] at hid
        subst hid
        simp only [okD] at hx
        cases hg : h id with
        | none => rw [hg] at hx; cases hx
        | some o => rfl
      · exact okDs_def hok id hid
    · cases hok
end Go.Proofs.YthbpdhppelaihaaGreat
