/- An element of a row that is one's own all the way down, laid open: what it leads to are objects for a while. Conditions: none. -/
import Derived.Test.YthbpdhppelaihaaGreatH4
set_option linter.unusedVariables false
set_option linter.unusedSimpArgs false
namespace Go.Proofs.YthbpdhppelaihaaGreat
open Go.RowKit
def obF (e : Ty) (xs : List (El e)) : Ob := match flat e with
  | true => .row e xs
  | false => .dp e xs
def focA : Nat → List C → List A
  | _, [] => []
  | nx, .sl _ _ :: l => .rw nx :: focA (nx + 1) l
  | nx, .int k n :: l => .c (.int k n) :: focA nx l
  | nx, .bool b :: l => .c (.bool b) :: focA nx l
  | nx, .str s :: l => .c (.str s) :: focA nx l
def focH : Nat → List C → Hp
  | _, [] => []
  | nx, .sl e xs :: l => (nx, obF e xs) :: focH (nx + 1) l
  | nx, .int _ _ :: l => focH nx l
  | nx, .bool _ :: l => focH nx l
  | nx, .str _ :: l => focH nx l
theorem focA_len : ∀ (cs : List C) (nx : Nat), (focA nx cs).length = cs.length
  | [], _ => rfl
  | .sl _ _ :: l, nx => by simp [focA, focA_len l]
  | .int _ _ :: l, nx => by simp [focA, focA_len l]
  | .bool _ :: l, nx => by simp [focA, focA_len l]
  | .str _ :: l, nx => by simp [focA, focA_len l]
theorem focH_ge : ∀ (cs : List C) (nx : Nat), ∀ k ∈ keys (focH nx cs), nx ≤ k
  | [], _, k, hk => by simp [focH, keys] at hk
  | .sl _ _ :: l, nx, k, hk => by
    simp only [focH, keys, List.mem_cons] at hk
    rcases hk with rfl | hk
    · exact Nat.le_refl _
    · have := focH_ge l (nx + 1) k hk; omega
  | .int _ _ :: l, nx, k, hk => focH_ge l nx k hk
  | .bool _ :: l, nx, k, hk => focH_ge l nx k hk
  | .str _ :: l, nx, k, hk => focH_ge l nx k hk
theorem focA_all : ∀ (cs : List C) (nx : Nat) {D : Nat → Prop}, (∀ k ∈ keys (focH nx cs), D k) → allL D (focA nx cs)
  | [], _, D, _ => by simp [focA, allL]
  | .sl _ _ :: l, nx, D, h => by
    simp only [focA, allL, A.all]
    exact ⟨h nx (by simp [focH, keys]), focA_all l (nx + 1) fun k hk => h k (by simp only [focH, keys]; exact List.mem_cons_of_mem _ hk)⟩
  | .int _ _ :: l, nx, D, h => by simp only [focA, allL, A.all]; exact ⟨trivial, focA_all l nx h⟩
  | .bool _ :: l, nx, D, h => by simp only [focA, allL, A.all]; exact ⟨trivial, focA_all l nx h⟩
  | .str _ :: l, nx, D, h => by simp only [focA, allL, A.all]; exact ⟨trivial, focA_all l nx h⟩
theorem ownL_flat {w : World} : ∀ {us : List Value} {cs : List C} {bs : List Nat}, (∀ c ∈ cs, notSl c) → OwnL w us cs bs → bs = []
  | _, _, _, _, .nil => rfl
  | _, _, _, hn, .cons h t hd => by
    have h0 := hn _ (List.mem_cons_self ..)
    have ih := ownL_flat (fun c hc => hn c (List.mem_cons_of_mem _ hc)) t
    subst ih
    cases h with
    | int k n => rfl
    | bool b => rfl
    | str s hs => rfl
    | sl => exact h0.elim
mutual
theorem ren_id : ∀ a : A, a.ren (fun k => k) = a
  | .ag l => by simp only [A.ren]; rw [renL_id l]
  | .tp l => by simp only [A.ren]; rw [renL_id l]
  | .fn f l => by simp only [A.ren]; rw [renL_id l]
  | .pt _ _ => rfl
  | .rw _ => rfl
  | .re _ _ _ _ => rfl
  | .un => rfl
  | .nl => rfl
  | .kb _ => rfl
  | .c _ => rfl
  | .el _ _ _ => rfl
theorem renL_id : ∀ l : List A, renL (fun k => k) l = l
  | [] => rfl
  | a :: l => by simp only [renL]; rw [ren_id a, renL_id l]
end
theorem obF_rep {F : Nat → Prop} {V : Nat → Value} {B : Nat → List Nat} {w : World} {k : Nat} {e : Ty} {xs : List (El e)} {bs : List Nat} (h : Own w (V k) (.sl e xs) bs) (hB : B k = bs) : ObR F V B w k (obF e xs) ∧ ∀ b, owns [(k, obF e xs)] V B k b → b ∈ bs := by
  unfold obF
  cases hf : flat e with
  | true =>
    obtain ⟨us, b0, hb, ho, hr, hn, rfl⟩ := h.inv
    have : b0 = [] := ownL_flat (fun c hc => by obtain ⟨x, _, hc⟩ := List.mem_flatMap.1 hc; exact flat_cells hf x c hc) hr
    subst this
    refine ⟨.row e xs us ho (hr.rep fun b hb => by simp at hb) hb, fun b hb => ?_⟩
    simp only [owns, get_cons, if_true] at hb
    simp [bkl_mem.2 hb]
  | false =>
    refine ⟨.dp e xs (by rw [hB]; exact h), fun b hb' => ?_⟩
    simp only [owns, get_cons, if_true] at hb'
    rw [hB] at hb'
    exact hb'
theorem owns_one {hp : Hp} {V : Nat → Value} {B : Nat → List Nat} {k b : Nat} {o : Ob} (hg : get hp k = some o) (h : owns hp V B k b) : owns [(k, o)] V B k b := by
  unfold owns at *
  rw [hg] at h
  rw [get_cons, if_pos rfl]
  exact h
theorem foc_ok {F : Nat → Prop} {w : World} : ∀ (cs : List C) (nx : Nat) {us : List Value} {bs : List Nat} (V : Nat → Value) (B : Nat → List Nat), OwnL w us cs bs → (∀ k, (V k).oneCell' = true) → ∃ V' B', (∀ k, k ∉ keys (focH nx cs) → V' k = V k ∧ B' k = B k) ∧ (∀ k, (V' k).oneCell' = true) ∧ RepAs F V' w us (focA nx cs) ∧
    (∀ k o, get (focH nx cs) k = some o → ObR F V' B' w k o ∧ (obIds (fun _ => False) o) ∧ ∀ b, owns (focH nx cs) V' B' k b → b ∈ bs) ∧ ∀ k k' b, owns (focH nx cs) V' B' k b → owns (focH nx cs) V' B' k' b → k = k'
  | [], nx, us, bs, V, B, ho, h1 => by
    cases ho
    exact ⟨V, B, fun k _ => ⟨rfl, rfl⟩, h1, .nil, fun k o hg => by simp [focH, get] at hg, fun k k' b h => by simp [focH, owns, get] at h⟩
  | .int k n :: cs, nx, us, bs, V, B, ho, h1 => by
    cases ho with
    | cons h t hd =>
      cases h
      obtain ⟨V', B', h2, h3, h4, h5⟩ := foc_ok cs nx V B t h1
      exact ⟨V', B', h2, h3, .cons (.c (.int k n)) h4, h5⟩
  | .bool b :: cs, nx, us, bs, V, B, ho, h1 => by
    cases ho with
    | cons h t hd =>
      cases h
      obtain ⟨V', B', h2, h3, h4, h5⟩ := foc_ok cs nx V B t h1
      exact ⟨V', B', h2, h3, .cons (.c (.bool b)) h4, h5⟩
  | .str s :: cs, nx, us, bs, V, B, ho, h1 => by
    cases ho with
    | cons h t hd =>
      cases h with
      | str s0 hs =>
        obtain ⟨V', B', h2, h3, h4, h5⟩ := foc_ok cs nx V B t h1
        exact ⟨V', B', h2, h3, .cons (.c (.str s0 hs)) h4, h5⟩
  | .sl e xs :: cs, nx, us, bs, V, B, ho, h1 => by
    cases ho with
    | cons h t hd =>
        rename_i v us' bb bs'
        obtain ⟨us0, bs0, hb, hro, hr, hn, hbb⟩ := h.inv
        subst hbb
        have how : Own w v (.sl e xs) (bkl v ++ bs0) := h
        obtain ⟨V1, B1, h2, h3, h4, h5, h6⟩ := foc_ok cs (nx + 1) V B t h1
        have hge := focH_ge cs (nx + 1)
        have hVe : ∀ k ∈ keys (focH (nx + 1) cs), updV V1 nx v k = V1 k ∧ updB B1 nx (bkl v ++ bs0) k = B1 k := fun k hk => by
          have := hge k hk
          unfold updV updB
          rw [if_neg (by omega), if_neg (by omega)]
          exact ⟨rfl, rfl⟩
        have hgn : get (focH (nx + 1) cs) nx = none := get_none_of_keys fun hm => by have := hge nx hm; omega
        have hget : ∀ k, k ≠ nx → get (focH nx (.sl e xs :: cs)) k = get (focH (nx + 1) cs) k := fun k hk => by
          simp only [focH]; rw [get_cons, if_neg (fun e => hk e.symm)]
        have hget0 : get (focH nx (.sl e xs :: cs)) nx = some (obF e xs) := by simp only [focH]; rw [get_cons, if_pos rfl]
        have hob := obF_rep (F := F) (V := updV V1 nx v) (B := updB B1 nx (bkl v ++ bs0)) (k := nx) (w := w) (e := e) (xs := xs) (bs := bkl v ++ bs0) (by simpa [updV] using how) (by simp [updB])
        have hown0 : ∀ b, owns (focH nx (.sl e xs :: cs)) (updV V1 nx v) (updB B1 nx (bkl v ++ bs0)) nx b → b ∈ bkl v ++ bs0 := fun b hb => hob.2 b (owns_one hget0 hb)
        have hownk : ∀ k b, k ≠ nx → owns (focH nx (.sl e xs :: cs)) (updV V1 nx v) (updB B1 nx (bkl v ++ bs0)) k b → owns (focH (nx + 1) cs) V1 B1 k b := fun k b hk hb => by
          have hd : k ∈ keys (focH (nx + 1) cs) := by
            have := owns_def hb
            unfold Def at this
            rw [hget k hk] at this
            obtain ⟨o, ho⟩ := Option.isSome_iff_exists.1 this
            exact keys_of_get ho
          obtain ⟨e1, e2⟩ := hVe k hd
          exact (owns_same (hget k hk) e1 e2).1 hb
        have hsub : ∀ k b, owns (focH (nx + 1) cs) V1 B1 k b → b ∈ bs' := fun k b hb => by
          obtain ⟨o, ho⟩ := Option.isSome_iff_exists.1 (owns_def hb)
          exact (h5 k o ho).2.2 b hb
        refine ⟨updV V1 nx v, updB B1 nx (bkl v ++ bs0), fun k hk => ?_, fun k => ?_, .cons ?_ ?_, fun k o hg => ?_, fun k k' b hb hb' => ?_⟩
        · simp only [focH, keys, List.mem_cons, not_or] at hk
          unfold updV updB
          rw [if_neg hk.1, if_neg hk.1]
          exact h2 k hk.2
        · unfold updV
          split
          · exact how.one
          · exact h3 k
        · have := RepA.rw (F := F) (V := updV V1 nx v) (w := w) nx
          simpa [updV] using this
        · exact h4.move (fun _ h => h) (fun _ _ => rfl) (focA_all cs (nx + 1) fun k hk => (hVe k hk).1)
        · by_cases hk : k = nx
          · subst hk
            rw [hget0] at hg
            cases hg
            refine ⟨hob.1, by unfold obF; cases flat e <;> trivial, fun b hb => List.mem_append_left _ (hown0 b hb)⟩
          · rw [hget k hk] at hg
            obtain ⟨h7, h8, h9⟩ := h5 k o hg
            obtain ⟨e1, e2⟩ := hVe k (keys_of_get hg)
            refine ⟨?_, h8, fun b hb => List.mem_append_right _ (h9 b (hownk k b hk hb))⟩
            have hren := ObR.ren (F := F) (V := V1) (V' := updV V1 nx v) (B := B1) (B' := updB B1 nx (bkl v ++ bs0)) (w := w) (fun k => k) (k := k) (o := o) e1 e2 (obIds_mono (fun _ h => h.elim) h8) h7
            have hid : o.ren (fun k => k) = o := by
              cases o with
              | box l => exact congrArg Ob.box (renL_id l)
              | fo e p l q => simp only [Ob.ren, renL_id]
              | _ => rfl
            rwa [hid] at hren
        · by_cases hk : k = nx <;> by_cases hk' : k' = nx
          · rw [hk, hk']
          · subst hk; exact (hd b (hown0 b hb) (hsub k' b (hownk k' b hk' hb'))).elim
          · subst hk'; exact (hd b (hown0 b hb') (hsub k b (hownk k b hk hb))).elim
          · exact h6 k k' b (hownk k b hk hb) (hownk k' b hk' hb')
/-- An element that is one's own all the way down: the value, the objects. -/
abbrev ownA (e : Ty) (x : El e) : A := .ag (focA 0 (cells e x))
abbrev ownH (e : Ty) (x : El e) : Hp := focH 0 (cells e x)
/-- The state in which element i of row id is laid open. -/
def focS (σ : St) (id i nx : Nat) (e : Ty) (xs : List (El e)) : St := { σ with hp := (id, .fo e (xs.take i) (focA nx (cells e (xs.getD i (dflt e)))) (xs.drop (i + 1))) :: (focH nx (cells e (xs.getD i (dflt e))) ++ σ.hp) }
theorem Weak.focus {n m : Nat} {σ : St} (id i nx : Nat) {e : Ty} {xs : List (El e)} (hg : get σ.hp id = some (.dp e xs)) (hi : i < xs.length) (hf : ∀ k ∈ keys (focH nx (cells e (xs.getD i (dflt e)))), get σ.hp k = none) : Weak n m σ (focS σ id i nx e xs) := by
  intro w0 L0 F0 F V B a w hm hs
  have hob := hs.hp.ob id _ hg
  cases hob with
  | dp _ _ hown =>
    obtain ⟨us, b0, hb, hro, hr, hn, hB0⟩ := hown.inv
    have hcut : xs.flatMap (cells e) = (xs.take i).flatMap (cells e) ++ (cells e (xs.getD i (dflt e)) ++ (xs.drop (i + 1)).flatMap (cells e)) := by
      conv => lhs; rw [← List.take_append_drop i xs, List.flatMap_append, List.drop_eq_getElem_cons hi, List.flatMap_cons]
      rw [List.getD_eq_getElem?_getD, List.getElem?_eq_getElem hi]
      rfl
    rw [hcut] at hr
    obtain ⟨us1, us23, b1, b23, rfl, rfl, hr1, hr23, hd1⟩ := OwnL.split _ hr
    obtain ⟨vs, us2, b2, b3, rfl, rfl, hrv, hr2, hd2⟩ := OwnL.split _ hr23
    obtain ⟨V', B', h2, h3, h4, h5, h6⟩ := foc_ok (F := F) (cells e (xs.getD i (dflt e))) nx V B hrv hs.V1
    have hidn : id ∉ keys (focH nx (cells e (xs.getD i (dflt e)))) := fun hk => by have := hf id hk; rw [hg] at this; cases this
    have hdefn : ∀ k, Def σ.hp k → k ∉ keys (focH nx (cells e (xs.getD i (dflt e)))) := fun k hd hk => by have := hf k hk; unfold Def at hd; rw [this] at hd; cases hd
    have howid : ∀ b, owns σ.hp V B id b ↔ b ∈ bkl (V id) ++ (b1 ++ (b2 ++ b3)) := fun b => by unfold owns; rw [hg, hB0]
    have hget : ∀ k, k ≠ id → get (focS σ id i nx e xs).hp k = match get (focH nx (cells e (xs.getD i (dflt e)))) k with | some o => some o | none => get σ.hp k := fun k hk => by
      show get ((id, _) :: (_ ++ _)) k = _
      rw [get_cons, if_neg (fun e => hk e.symm), get_append]
      cases get (focH nx (cells e (xs.getD i (dflt e)))) k <;> rfl
    have hgid : get (focS σ id i nx e xs).hp id = some (.fo e (xs.take i) (focA nx (cells e (xs.getD i (dflt e)))) (xs.drop (i + 1))) := by
      show get ((id, _) :: (_ ++ _)) id = _
      rw [get_cons, if_pos rfl]
    have hnd := hn
    rw [List.nodup_append] at hn
    have hvid : V' id = V id := (h2 id hidn).1
    refine ⟨F, V', updB B' id (bkl (V id) ++ (b1 ++ b3)), ?_⟩
    have hBn : ∀ k, k ≠ id → updB B' id (bkl (V id) ++ (b1 ++ b3)) k = B' k := fun k hk => by unfold updB; rw [if_neg hk]
    have hownF : ∀ k b, k ∈ keys (focH nx (cells e (xs.getD i (dflt e)))) → owns (focS σ id i nx e xs).hp V' (updB B' id (bkl (V id) ++ (b1 ++ b3))) k b → owns (focH nx (cells e (xs.getD i (dflt e)))) V' B' k b := fun k b hk hb => by
      have hki : k ≠ id := fun e => hidn (e ▸ hk)
      have hsome : ∃ o, get (focH nx (cells e (xs.getD i (dflt e)))) k = some o := by
        cases hgk : get (focH nx (cells e (xs.getD i (dflt e)))) k with
        | some o => exact ⟨o, rfl⟩
        | none =>
          unfold owns at hb
          rw [hget k hki, hgk, hf k hk] at hb
          exact hb.elim
      obtain ⟨o, ho⟩ := hsome
      exact (owns_same (by rw [hget k hki, ho]) rfl (hBn k hki)).1 hb
    have hownI : ∀ b, owns (focS σ id i nx e xs).hp V' (updB B' id (bkl (V id) ++ (b1 ++ b3))) id b → b ∈ bkl (V id) ++ (b1 ++ b3) := fun b hb => by
      unfold owns at hb
      rw [hgid] at hb
      simpa [updB] using hb
    have hF2 : ∀ k b, owns (focH nx (cells e (xs.getD i (dflt e)))) V' B' k b → b ∈ b2 := fun k b hb => by
      obtain ⟨o, ho⟩ := Option.isSome_iff_exists.1 (owns_def hb)
      exact (h5 k o ho).2.2 b hb
    have hdis : ∀ b, b ∈ bkl (V id) ++ (b1 ++ b3) → b ∈ b2 → False := fun b hb h2b => by
      rcases List.mem_append.1 hb with hb | hb
      · exact hn.2.2 b hb b (by simp [h2b]) rfl
      · rcases List.mem_append.1 hb with hb | hb
        · exact hd1 b hb (by simp [h2b])
        · exact hd2 b h2b hb
    have hs' := hs.step (F' := F) (V' := V') (B' := updB B' id (bkl (V id) ++ (b1 ++ b3))) (w' := w) (hp' := (focS σ id i nx e xs).hp) (fun k => k = id ∨ k ∈ keys (focH nx (cells e (xs.getD i (dflt e))))) rfl rfl rfl (fun _ _ _ => rfl) (Nat.le_refl _) (fun k hk => (h2 k (hdefn k hk)).1) (fun k hk hd => by rw [hBn k (fun e => hk (.inl e))]; exact (h2 k (fun h => hk (.inr h))).2) (fun _ h => h) (fun _ h => .inl h) hs.F_lt h3 (fun k hk => by
        rw [hget k (fun e => hk (.inl e)), get_none_of_keys (fun h => hk (.inr h))]) (fun k hk => by
        unfold Def at *
        by_cases hki : k = id
        · subst hki; rw [hgid]; rfl
        · rw [hget k hki, get_none_of_keys (hdefn k hk)]; exact hk) (fun k o hk ho => by
        by_cases hki : k = id
        · subst hki
          rw [hgid] at ho
          cases ho
          have hlen : (xs.take i).length + (1 + (xs.drop (i + 1)).length) = xs.length := by simp; omega
          refine ⟨.fo e _ _ _ us1 vs us2 b1 b3 (by rw [hlen]; exact hb) (by rw [focA_len, cells_len]) (by rw [hlen, hvid]; exact hro) hr1 hr2 h4 hrv.one (by rw [hvid]; simp [updB]) ?_, ?_⟩
          · simp only [updB, if_true]
            rw [List.nodup_append, List.nodup_append]
            refine ⟨hn.1, ⟨hr1.nodup, hr2.nodup, fun x hx y hy e => by subst e; exact hd1 x hx (by simp [hy])⟩, fun x hx y hy e => ?_⟩
            subst e
            rcases List.mem_append.1 hy with hy | hy
            · exact hn.2.2 x hx x (by simp [hy]) rfl
            · exact hn.2.2 x hx x (by simp [hy]) rfl
          · refine focA_all _ nx fun j hj => ?_
            unfold Def
            have hji : j ≠ k := fun e => hidn (e ▸ hj)
            have hin : (get (focH nx (cells e (xs.getD i (dflt e)))) j).isSome = true := by
              clear hget hgid hownF hownI
              generalize focH nx (cells e (xs.getD i (dflt e))) = l at hj
              induction l with
              | nil => simp [keys] at hj
              | cons p l ih =>
                rw [get_cons]
                split
                · rfl
                · rename_i hne
                  simp only [keys, List.mem_cons] at hj
                  rcases hj with hj | hj
                  · exact (hne hj.symm).elim
                  · exact ih hj
            show (get (focS σ k i nx e xs).hp j).isSome = true
            rw [hget j hji]
            obtain ⟨o, ho⟩ := Option.isSome_iff_exists.1 hin
            rw [ho]; rfl
        · rcases hk with hk | hk
          · exact (hki hk).elim
          · rw [hget k hki] at ho
            cases hgk : get (focH nx (cells e (xs.getD i (dflt e)))) k with
            | none => rw [hgk, hf k hk] at ho; cases ho
            | some o' =>
              rw [hgk] at ho
              cases ho
              obtain ⟨h7, h8, _⟩ := h5 k o hgk
              refine ⟨?_, obIds_mono (fun _ h => h.elim) h8⟩
              have hren := ObR.ren (F := F) (V := V') (V' := V') (B := B') (B' := updB B' id (bkl (V id) ++ (b1 ++ b3))) (w := w) (fun k => k) (k := k) (o := o) rfl (hBn k hki) (obIds_mono (fun _ h => h.elim) h8) h7
              have hid : o.ren (fun k => k) = o := by
                cases o with
                | box l => exact congrArg Ob.box (renL_id l)
                | fo e p l q => simp only [Ob.ren, renL_id]
                | _ => rfl
              rwa [hid] at hren) (fun k b hk hb => by
        have : owns σ.hp V B id b := by
          by_cases hki : k = id
          · subst hki
            have := hownI b hb
            rw [howid]
            simp only [List.mem_append] at this ⊢
            rcases this with h | h | h
            · exact .inl h
            · exact .inr (.inl h)
            · exact .inr (.inr (.inr h))
          · rcases hk with hk | hk
            · exact (hki hk).elim
            · rw [howid]
              have := hF2 k b (hownF k b hk hb)
              simp [this]
        exact ⟨hs.hp.lt id b this, hs.hp.nF id b this, .inr ⟨id, .inl rfl, this⟩⟩) (fun k k' b hk hk' hb hb' => by
        by_cases hki : k = id <;> by_cases hki' : k' = id
        · rw [hki, hki']
        · subst hki
          rcases hk' with hk' | hk'
          · exact (hki' hk').elim
          · exact (hdis b (hownI b hb) (hF2 k' b (hownF k' b hk' hb'))).elim
        · subst hki'
          rcases hk with hk | hk
          · exact (hki hk).elim
          · exact (hdis b (hownI b hb') (hF2 k b (hownF k b hk hb))).elim
        · rcases hk with hk | hk
          · exact (hki hk).elim
          · rcases hk' with hk' | hk'
            · exact (hki' hk').elim
            · exact h6 k k' b (hownF k b hk hb) (hownF k' b hk' hb'))
    exact hs'
/-- The element is shut again. -/
theorem Weak.unfocus {n m : Nat} {σ : St} (id : Nat) {e : Ty} {pre post : List (El e)} {cs : List A} {ds : List C} (hg : get σ.hp id = some (.fo e pre cs post)) (hok : okDs (get σ.hp) cs = true) (hnd : nodupN (id :: idsL cs) = true) (hds : toCs (get σ.hp) (cells e (dflt e)) cs = some ds) (x : El e) (hx : cells e x = ds) :
    Weak n m σ { σ with hp := (id, .dp e (pre ++ x :: post)) :: (kill (idsL cs) ++ σ.hp) } := by
  intro w0 L0 F0 F V B a w hm hs
  have hob := hs.hp.ob id _ hg
  have hnd' := List.nodup_cons.1 (nodupN_iff hnd)
  cases hob with
  | fo _ _ _ _ us1 vs us2 b1 b2 hb hc hro hr1 hr2 hv h1 hB hn =>
    obtain ⟨bs, hlo, hbo⟩ := okDs_own hs hv hok hnd'.2 hds
    have howid : ∀ b, owns σ.hp V B id b ↔ b ∈ bkl (V id) ++ (b1 ++ b2) := fun b => by unfold owns; rw [hg, hB]
    have hdis : ∀ x ∈ bs, ¬ owns σ.hp V B id x := fun x hx h => by
      obtain ⟨k, hk, hko⟩ := hbo x hx
      exact hnd'.1 (hs.hp.apart k id x hko h ▸ hk)
    rw [hB, List.nodup_append, List.nodup_append] at hn
    have hVV : updV V id (V id) = V := by funext k; unfold updV; split <;> simp_all
    have hdf := okDs_def hok
    subst hx
    have hoo : Own w (V id) (.sl e (pre ++ x :: post)) (bkl (V id) ++ (b1 ++ (bs ++ b2))) := by
      have hlen : (pre ++ x :: post).length = pre.length + (1 + post.length) := by simp; omega
      refine .sl e _ _ (us1 ++ (vs ++ us2)) _ (by rw [hlen]; exact hb) (by rw [hlen]; exact hro) ?_ ?_
      · rw [List.flatMap_append, List.flatMap_cons]
        refine hr1.append (hlo.append hr2 fun y hy hy2 => hdis y hy ((howid y).2 (by simp [hy2]))) fun y hy hy2 => ?_
        rcases List.mem_append.1 hy2 with h | h
        · exact hdis y h ((howid y).2 (by simp [hy]))
        · exact hn.2.1.2.2 y hy y h rfl
      · rw [List.nodup_append, List.nodup_append, List.nodup_append]
        refine ⟨hn.1, ⟨hr1.nodup, ⟨hlo.nodup, hr2.nodup, fun y hy z hz e => by subst e; exact hdis y hy ((howid y).2 (by simp [hz]))⟩, fun y hy z hz e => ?_⟩, fun y hy z hz e => ?_⟩
        · subst e
          rcases List.mem_append.1 hz with h | h
          · exact hdis y h ((howid y).2 (by simp [hy]))
          · exact hn.2.1.2.2 y hy y h rfl
        · subst e
          rcases List.mem_append.1 hz with h | h
          · exact hn.2.2 y hy y (by simp [h]) rfl
          · rcases List.mem_append.1 h with h | h
            · exact hdis y h ((howid y).2 (by simp [hy]))
            · exact hn.2.2 y hy y (by simp [h]) rfl
    have hst := hs.turn (t := id) (ks := idsL cs) (v := V id) (bs := bkl (V id) ++ (b1 ++ (bs ++ b2))) (o := .dp e (pre ++ x :: post)) (w' := w) hnd'.1 (fun k hk => hdf k hk) (.inr rfl) (hs.V1 id) rfl rfl rfl (Nat.le_refl _) (fun _ _ _ => rfl)
      (.dp e _ (by rw [hVV]; simp only [updB, if_true]; exact hoo)) trivial (fun b hb => by
        unfold owns at hb
        rw [get_cons, if_pos rfl] at hb
        simp only [updB, if_true] at hb
        rcases List.mem_append.1 hb with hb | hb
        · exact .inr ⟨id, .inl rfl, (howid b).2 (by simp [hb])⟩
        · rcases List.mem_append.1 hb with hb | hb
          · exact .inr ⟨id, .inl rfl, (howid b).2 (by simp [hb])⟩
          · rcases List.mem_append.1 hb with hb | hb
            · obtain ⟨k, hk, hko⟩ := hbo b hb
              exact .inr ⟨k, .inr hk, hko⟩
            · exact .inr ⟨id, .inl rfl, (howid b).2 (by simp [hb])⟩)
    exact ⟨F, _, _, hst⟩
end Go.Proofs.YthbpdhppelaihaaGreat
