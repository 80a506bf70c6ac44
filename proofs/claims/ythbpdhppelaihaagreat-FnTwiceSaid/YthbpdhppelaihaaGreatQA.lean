/- Maps and messages: plain laws. Conditions: none. -/
import Derived.Test.YthbpdhppelaihaaGreatZS
set_option linter.unusedVariables false
set_option linter.unusedSimpArgs false
namespace Go.Proofs.YthbpdhppelaihaaGreat
def Srt (xs : List Pr) : Prop := xs.Pairwise (fun a b => a.k < b.k)
def rngP (x : Pr) : Prop := (0 ≤ x.k ∧ x.k ≤ 999) ∧ (-1000000000 ≤ x.v ∧ x.v ≤ 1000000000)
def MapP (xs : List Pr) : Prop := Srt xs ∧ ∀ x ∈ xs, rngP x
theorem getD_mem {α : Type} {xs : List α} {i : Nat} (d : α) (h : i < xs.length) : xs.getD i d ∈ xs := List.mem_of_getElem? (getD_some h d)
theorem mem_getD {α : Type} {xs : List α} {x : α} (d : α) (h : x ∈ xs) : ∃ i, i < xs.length ∧ xs.getD i d = x := by
 obtain ⟨j, hj, rfl⟩ := List.mem_iff_getElem.1 h
 exact ⟨j, hj, by rw [List.getD_eq_getElem?_getD, List.getElem?_eq_getElem hj]; rfl⟩
theorem srt_inc {xs : List Pr} (h : Srt xs) : incP xs := by
 intro i j hij hj
 have := List.pairwise_iff_getElem.1 h i j (by omega) hj hij
 rw [List.getD_eq_getElem?_getD, List.getD_eq_getElem?_getD, List.getElem?_eq_getElem hj, List.getElem?_eq_getElem (by omega)]
 exact this
theorem inc_srt {xs : List Pr} (h : incP xs) : Srt xs := by
 refine List.pairwise_iff_getElem.2 fun i j hi hj hij => ?_
 have := h i j hij hj
 rw [List.getD_eq_getElem?_getD, List.getD_eq_getElem?_getD, List.getElem?_eq_getElem hj, List.getElem?_eq_getElem hi] at this
 exact this
theorem mapOk_iff (xs : List Pr) : mapOk xs = true ↔ MapP xs := by
 unfold mapOk
 rw [List.all_eq_true]
 constructor
 · intro h
   have h' : ∀ i, i < xs.length → mapStep xs i = true := fun i hi => h i (by simpa using hi)
   have hr : ∀ i, i < xs.length → rngP (xs.getD i (dflt .pr)) := fun i hi => by
    have := h' i hi
    simp [mapStep, inB] at this
    exact ⟨this.1.1, this.1.2⟩
   have hs : ∀ i, 0 < i → i < xs.length → (xs.getD (i - 1) (dflt .pr)).k < (xs.getD i (dflt .pr)).k := fun i h0 hi => by
    have := h' i hi
    simp only [mapStep, Bool.and_eq_true, Bool.or_eq_true, decide_eq_true_eq] at this
    omega
   refine ⟨inc_srt fun i j hij hj => ?_, fun x hx => ?_⟩
   · induction j with
     | zero => omega
     | succ j ih =>
       have h1 := hs (j + 1) (by omega) hj
       rw [Nat.add_sub_cancel] at h1
       rcases Nat.lt_or_ge i j with h2 | h2
       · have := ih h2 (by omega); omega
       · obtain rfl : i = j := by omega
         exact h1
   · obtain ⟨i, hi, rfl⟩ := mem_getD (dflt .pr) hx
     exact hr i hi
 · intro ⟨h1, h2⟩ i hi
   have hi : i < xs.length := by simpa using hi
   have h3 := h2 _ (getD_mem (dflt .pr) hi)
   simp only [mapStep, inB, Bool.and_eq_true, Bool.or_eq_true, decide_eq_true_eq]
   refine ⟨⟨⟨h3.1.1, h3.1.2⟩, h3.2.1, h3.2.2⟩, ?_⟩
   rcases Nat.eq_zero_or_pos i with h | h
   · exact .inl h
   · exact .inr (srt_inc h1 _ _ (by omega) hi)
def insF (key v : Int) : List Pr → List Pr
 | [] => [⟨key, v⟩]
 | x :: xs => if x.k < key then x :: insF key v xs else if x.k = key then ⟨key, v⟩ :: xs else ⟨key, v⟩ :: x :: xs
def delF (key : Int) (xs : List Pr) : List Pr := xs.filter (fun x => !decide (x.k = key))
def getV (key : Int) : List Pr → Int
 | [] => 0
 | x :: xs => if x.k = key then x.v else getV key xs
theorem mem_ins {key v : Int} : ∀ {xs : List Pr} {y : Pr}, y ∈ insF key v xs → y = ⟨key, v⟩ ∨ y ∈ xs
 | [], y, h => by simp only [insF, List.mem_singleton] at h; exact .inl h
 | x :: xs, y, h => by
   simp only [insF] at h
   split at h
   · rcases List.mem_cons.1 h with h | h
     · exact .inr (List.mem_cons.2 (.inl h))
     · rcases mem_ins h with h | h
       · exact .inl h
       · exact .inr (List.mem_cons_of_mem _ h)
   · split at h
     · rcases List.mem_cons.1 h with h | h
       · exact .inl h
       · exact .inr (List.mem_cons_of_mem _ h)
     · rcases List.mem_cons.1 h with h | h
       · exact .inl h
       · exact .inr h
theorem ins_len (key v : Int) : ∀ xs : List Pr, (insF key v xs).length ≤ xs.length + 1
 | [] => by simp [insF]
 | x :: xs => by
   have := ins_len key v xs
   simp only [insF]
   split
   · simp only [List.length_cons]; omega
   · split <;> simp
theorem ins_srt {key v : Int} : ∀ {xs : List Pr}, Srt xs → Srt (insF key v xs)
 | [], _ => by simp [insF, Srt]
 | x :: xs, h => by
   have h0 := List.pairwise_cons.1 h
   simp only [insF]
   split
   · rename_i hx
     refine List.pairwise_cons.2 ⟨fun y hy => ?_, ins_srt h0.2⟩
     rcases mem_ins hy with rfl | hy
     · exact hx
     · exact h0.1 y hy
   · rename_i hx
     split
     · rename_i he
       exact List.pairwise_cons.2 ⟨fun y hy => by have := h0.1 y hy; show key < y.k; omega, h0.2⟩
     · refine List.pairwise_cons.2 ⟨fun y hy => ?_, h⟩
       rcases List.mem_cons.1 hy with rfl | hy
       · show key < y.k; omega
       · have := h0.1 y hy; show key < y.k; omega
def putG (key v : Int) : Bool → List Pr → List Pr
 | put, [] => if put then [] else [⟨key, v⟩]
 | put, x :: xs => (if !put && decide (key ≤ x.k) then [⟨key, v⟩] else []) ++ ((if x.k = key then [] else [x]) ++ putG key v (put || decide (key ≤ x.k)) xs)
theorem put_true (key v : Int) : ∀ xs : List Pr, putG key v true xs = delF key xs
 | [] => rfl
 | x :: xs => by
   simp only [putG, Bool.not_true, Bool.false_and, Bool.false_eq_true, if_false, List.nil_append, Bool.true_or, put_true key v xs, delF, List.filter_cons]
   by_cases h : x.k = key <;> simp [h]
theorem del_id {key : Int} {xs : List Pr} (h : ∀ y ∈ xs, key < y.k) : delF key xs = xs := by
 unfold delF
 rw [List.filter_eq_self]
 intro y hy
 have := h y hy
 simp; omega
theorem put_ins (key v : Int) : ∀ {xs : List Pr}, Srt xs → putG key v false xs = insF key v xs
 | [], _ => rfl
 | x :: xs, h => by
   have h0 := List.pairwise_cons.1 h
   simp only [putG, insF, Bool.not_false, Bool.true_and, Bool.false_or, decide_eq_true_eq]
   by_cases h1 : x.k < key
   · have h2 : ¬ key ≤ x.k := by omega
     have h3 : ¬ x.k = key := by omega
     simp [h1, h2, h3, put_ins key v h0.2]
   · have h2 : key ≤ x.k := by omega
     by_cases h3 : x.k = key
     · subst h3
       simp only [Int.le_refl, Int.lt_irrefl, if_true, if_false, decide_true, put_true]
       rw [del_id fun y hy => by have := h0.1 y hy; omega]
       simp
     · simp only [h1, h2, h3, if_true, if_false, decide_true, put_true]
       rw [del_id fun y hy => by have := h0.1 y hy; omega]
       simp
def posF (key : Int) : List Pr → Nat
 | [] => 0
 | x :: xs => if x.k < key then posF key xs + 1 else 0
theorem pos_cons {x : Pr} {xs : List Pr} {key : Int} {r : Nat} (hx : x.k < key) (h : posOk xs key r) : posOk (x :: xs) key (r + 1) := by
 obtain ⟨h1, h2, h3⟩ := h
 refine ⟨by simpa using h1, fun a ha => ?_, fun b hb hl => ?_⟩
 · cases a with
   | zero => simpa using hx
   | succ a => simpa using h2 a (by omega)
 · cases b with
   | zero => omega
   | succ b => simpa using h3 b (by omega) (by simpa using hl)
theorem pos_ok {key : Int} : ∀ {xs : List Pr}, Srt xs → posOk xs key (posF key xs)
 | [], _ => ⟨by simp [posF], fun a ha => by simp [posF] at ha, fun b hb hl => by simp at hl⟩
 | x :: xs, h => by
   have h0 := List.pairwise_cons.1 h
   simp only [posF]
   split
   · rename_i hx; exact pos_cons hx (pos_ok h0.2)
   · rename_i hx
     refine ⟨Nat.zero_le _, fun a ha => by omega, fun b hb hl => ?_⟩
     cases b with
     | zero => simp; omega
     | succ b =>
       have := h0.1 _ (getD_mem (dflt .pr) (i := b) (xs := xs) (by simpa using hl))
       simp only [List.getD_cons_succ]; omega
theorem pos_found {key v : Int} : ∀ {xs : List Pr}, Srt xs → posF key xs < xs.length → (xs.getD (posF key xs) (dflt .pr)).k = key →
 insF key v xs = xs.set (posF key xs) ⟨key, v⟩ ∧ delF key xs = xs.take (posF key xs) ++ xs.drop (posF key xs + 1) ∧ getV key xs = (xs.getD (posF key xs) (dflt .pr)).v
 | [], _, hl, _ => by simp at hl
 | x :: xs, h, hl, hk => by
   have h0 := List.pairwise_cons.1 h
   simp only [posF] at hl hk ⊢
   by_cases hx : x.k < key
   · simp only [hx, if_true] at hl hk ⊢
     have hn : ¬ x.k = key := by omega
     obtain ⟨h1, h2, h3⟩ := pos_found (v := v) h0.2 (by simpa using hl) (by simpa using hk)
     refine ⟨by simp [insF, hx, h1], ?_, by simp [getV, hn, h3]⟩
     simp only [delF] at h2 ⊢
     rw [List.filter_cons, if_pos (by simp [hn]), h2]
     simp
   · simp only [hx, if_false] at hl hk ⊢
     have hk : x.k = key := by simpa using hk
     refine ⟨by simp [insF, hk], ?_, by simp [getV, hk]⟩
     have := del_id (key := key) (xs := xs) fun y hy => by have := h0.1 y hy; omega
     simp only [delF] at this ⊢
     rw [List.filter_cons, if_neg (by simp [hk]), this]
     simp
theorem pos_none {key v : Int} : ∀ {xs : List Pr}, Srt xs → ¬ (posF key xs < xs.length ∧ (xs.getD (posF key xs) (dflt .pr)).k = key) →
 insF key v xs = xs.take (posF key xs) ++ ⟨key, v⟩ :: xs.drop (posF key xs) ∧ delF key xs = xs ∧ getV key xs = 0
 | [], _, _ => by simp [insF, delF, getV, posF]
 | x :: xs, h, hk => by
   have h0 := List.pairwise_cons.1 h
   simp only [posF] at hk ⊢
   by_cases hx : x.k < key
   · simp only [hx, if_true] at hk ⊢
     have hn : ¬ x.k = key := by omega
     obtain ⟨h1, h2, h3⟩ := pos_none (v := v) h0.2 (by simpa using hk)
     refine ⟨by simp [insF, hx, h1], ?_, by simp [getV, hn, h3]⟩
     simp only [delF] at h2 ⊢
     rw [List.filter_cons, if_pos (by simp [hn]), h2]
   · simp only [hx, if_false] at hk ⊢
     have hk : ¬ x.k = key := by simpa using hk
     have hd := del_id (key := key) (xs := x :: xs) fun y hy => by
      rcases List.mem_cons.1 hy with rfl | hy
      · omega
      · have := h0.1 y hy; omega
     have hg : ∀ ys : List Pr, (∀ y ∈ ys, key < y.k) → getV key ys = 0 := fun ys => by
      induction ys with
      | nil => intro _; rfl
      | cons y ys ih =>
        intro hy
        have h1 := hy y (List.mem_cons_self ..)
        simp only [getV]
        rw [if_neg (by omega), ih fun z hz => hy z (List.mem_cons_of_mem _ hz)]
     refine ⟨by simp [insF, hx, hk], hd, hg _ fun y hy => ?_⟩
     rcases List.mem_cons.1 hy with rfl | hy
     · omega
     · have := h0.1 y hy; omega
theorem lim_rng (n : Int) : -1000000000 ≤ lim n ∧ lim n ≤ 1000000000 := by unfold lim; split <;> (try split) <;> omega
theorem lim_id {n : Int} (h : -1000000000 ≤ n ∧ n ≤ 1000000000) : lim n = n := by unfold lim; rw [if_neg (by omega), if_neg (by omega)]
def doF (xs : List Pr) (m : Ms) : List Pr := if m.op = 1 then insF m.k m.v xs else if m.op = 2 then delF m.k xs else if m.op = 3 then insF m.k (lim (getV m.k xs + m.v)) xs else xs
def allF (xs : List Pr) : List Ms → List Pr
 | [] => xs
 | m :: ms => allF (if msgOk m then doF xs m else xs) ms
theorem msg_rng {m : Ms} (h : msgOk m = true) : (1 ≤ m.op ∧ m.op ≤ 4) ∧ (0 ≤ m.k ∧ m.k ≤ 999) ∧ (-1000000000 ≤ m.v ∧ m.v ≤ 1000000000) := by
 simp [msgOk, inB] at h
 omega
theorem ins_map {key v : Int} {xs : List Pr} (h : MapP xs) (hk : rngP ⟨key, v⟩) : MapP (insF key v xs) :=
 ⟨ins_srt h.1, fun y hy => by
   rcases mem_ins hy with rfl | hy
   · exact hk
   · exact h.2 y hy⟩
theorem do_map {xs : List Pr} {m : Ms} (h : MapP xs) (hm : msgOk m = true) : MapP (doF xs m) := by
 obtain ⟨h1, h2, h3⟩ := msg_rng hm
 unfold doF
 split
 · exact ins_map h ⟨h2, h3⟩
 · split
   · exact ⟨List.Pairwise.filter _ h.1, fun y hy => h.2 y (List.mem_filter.1 hy).1⟩
   · split
     · exact ins_map h ⟨h2, lim_rng _⟩
     · exact h
theorem do_mem {xs : List Pr} {m : Ms} {y : Pr} (hy : y ∈ doF xs m) : y.k = m.k ∨ y ∈ xs := by
 unfold doF at hy
 split at hy
 · rcases mem_ins hy with rfl | hy
   · exact .inl rfl
   · exact .inr hy
 · split at hy
   · exact .inr (List.mem_filter.1 hy).1
   · split at hy
     · rcases mem_ins hy with rfl | hy
       · exact .inl rfl
       · exact .inr hy
     · exact .inr hy
theorem do_len (xs : List Pr) (m : Ms) : (doF xs m).length ≤ xs.length + 1 := by
 unfold doF
 split
 · exact ins_len _ _ _
 · split
   · exact Nat.le_succ_of_le (List.length_filter_le _ _)
   · split
     · exact ins_len _ _ _
     · omega
theorem all_map : ∀ {ms : List Ms} {xs : List Pr}, MapP xs → MapP (allF xs ms)
 | [], _, h => h
 | m :: ms, xs, h => by
   simp only [allF]
   split
   · rename_i hm; exact all_map (do_map h hm)
   · exact all_map h
theorem all_mem : ∀ {ms : List Ms} {xs : List Pr} {y : Pr}, y ∈ allF xs ms → (∃ m ∈ ms, y.k = m.k) ∨ y ∈ xs
 | [], _, _, h => .inr h
 | m :: ms, xs, y, h => by
   simp only [allF] at h
   rcases all_mem h with ⟨m', h1, h2⟩ | h
   · exact .inl ⟨m', List.mem_cons_of_mem _ h1, h2⟩
   · split at h
     · rcases do_mem h with h | h
       · exact .inl ⟨m, List.mem_cons_self .., h⟩
       · exact .inr h
     · exact .inr h
theorem all_len : ∀ (ms : List Ms) (xs : List Pr), (allF xs ms).length ≤ xs.length + ms.length
 | [], _ => by simp [allF]
 | m :: ms, xs => by
   have h2 := do_len xs m
   cases hm : msgOk m with
   | true =>
     have h1 := all_len ms (doF xs m)
     simp only [allF, List.length_cons, hm, if_true]; omega
   | false =>
     have h1 := all_len ms xs
     simp only [allF, List.length_cons, hm, Bool.false_eq_true, if_false]; omega
end Go.Proofs.YthbpdhppelaihaaGreat