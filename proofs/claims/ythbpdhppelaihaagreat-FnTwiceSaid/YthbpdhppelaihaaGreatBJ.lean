/- Pages of a root, what is taken, and plans: plain definitions and laws. Conditions: none. -/
import Derived.Test.YthbpdhppelaihaaGreatTF
set_option linter.unusedVariables false
set_option linter.unusedSimpArgs false
namespace Go.Proofs.YthbpdhppelaihaaGreat
def pgT (ps : List (List UInt8)) (r : Int) : List UInt8 := ps.getD r.toNat []
def pgL (f : Int → List Int × Bool) : List Int → List Int × Bool
 | [] => ([], true)
 | k :: ks => if (f k).2 then ((f k).1 ++ (pgL f ks).1, (pgL f ks).2) else ((f k).1, false)
noncomputable def pgF (ps : List (List UInt8)) : Nat → Int → List Int × Bool
 | 0, _ => ([], false)
 | n + 1, r => if 0 ≤ r ∧ r < ps.length then (r :: (pgL (pgF ps n) (decF (pgT ps r)).2.1).1, (pgL (pgF ps n) (decF (pgT ps r)).2.1).2) else ([], false)
theorem pgL_le {f : Int → List Int × Bool} {B : Nat} (h : ∀ k, (f k).1.length ≤ B) : ∀ ks : List Int, (pgL f ks).1.length ≤ ks.length * B
 | [] => by simp [pgL]
 | k :: ks => by
   have h1 := h k
   have h2 := pgL_le h ks
   unfold pgL
   rw [List.length_cons, Nat.succ_mul]
   split
   · simp only [List.length_append]; omega
   · dsimp only; omega
def pgB : Nat → Nat
 | 0 => 0
 | n + 1 => 1 + 4 * pgB n
theorem pgF_le (ps : List (List UInt8)) : ∀ (n : Nat) (r : Int), (pgF ps n r).1.length ≤ pgB n
 | 0, r => by simp [pgF, pgB]
 | n + 1, r => by
   unfold pgF
   split
   · have h1 := pgL_le (f := pgF ps n) (B := pgB n) (pgF_le ps n) (decF (pgT ps r)).2.1
     have h2 := dec_kids (pgT ps r)
     have h3 : (decF (pgT ps r)).2.1.length * pgB n ≤ 4 * pgB n := Nat.mul_le_mul_right _ h2
     simp only [List.length_cons, pgB]
     omega
   · simp [pgB]
theorem pgL_in {f : Int → List Int × Bool} {N : Nat} (h : ∀ k, ∀ x ∈ (f k).1, 0 ≤ x ∧ x < N) : ∀ ks : List Int, ∀ x ∈ (pgL f ks).1, 0 ≤ x ∧ x < N
 | [], x, hx => by simp [pgL] at hx
 | k :: ks, x, hx => by
   unfold pgL at hx
   split at hx
   · rcases List.mem_append.1 hx with hx | hx
     · exact h k x hx
     · exact pgL_in h ks x hx
   · exact h k x hx
theorem pgF_in (ps : List (List UInt8)) : ∀ (n : Nat) (r : Int), ∀ x ∈ (pgF ps n r).1, 0 ≤ x ∧ x < ps.length
 | 0, r, x, hx => by simp [pgF] at hx
 | n + 1, r, x, hx => by
   unfold pgF at hx
   split at hx
   · rename_i h
     rcases List.mem_cons.1 hx with rfl | hx
     · exact h
     · exact pgL_in (pgF_in ps n) _ x hx
   · simp at hx
def mark : List Int → List Bool → List Bool
 | [], m => m
 | x :: l, m => mark l (m.set x.toNat true)
theorem mark_len : ∀ (l : List Int) (m : List Bool), (mark l m).length = m.length
 | [], m => rfl
 | x :: l, m => by unfold mark; rw [mark_len l, List.length_set]
theorem mark_app : ∀ (a b : List Int) (m : List Bool), mark (a ++ b) m = mark b (mark a m)
 | [], b, m => rfl
 | x :: a, b, m => mark_app a b _
theorem mark_get : ∀ (l : List Int) (m : List Bool) (j : Nat), (∀ x ∈ l, 0 ≤ x ∧ x < m.length) → (mark l m).getD j false = (m.getD j false || decide ((j : Int) ∈ l))
 | [], m, j, _ => by simp [mark]
 | x :: l, m, j, h => by
   have h0 := h x (by simp)
   unfold mark
   rw [mark_get l _ j (fun y hy => by rw [List.length_set]; exact h y (by simp [hy]))]
   have e : (m.set x.toNat true).getD j false = (m.getD j false || decide ((j : Int) = x)) := by
    rw [List.getD_eq_getElem?_getD, List.getD_eq_getElem?_getD, List.getElem?_set]
    by_cases h1 : x.toNat = j
    · rw [if_pos h1, if_pos (by omega)]
      simp only [Option.getD_some]
      rw [decide_eq_true (show (j : Int) = x by omega), Bool.or_true]
    · rw [if_neg h1, decide_eq_false (show ¬ (j : Int) = x by omega), Bool.or_false]
   rw [e, Bool.or_assoc]
   congr 1
   rw [← Bool.decide_or]
   simp only [List.mem_cons]
noncomputable def ofSu (ps : List (List UInt8)) (s : Su) : List Int := if 0 < s.ver ∧ (pgF ps 7 s.root).2 = true then (pgF ps 7 s.root).1 else []
theorem ofSu_in (ps : List (List UInt8)) (s : Su) : ∀ x ∈ ofSu ps s, 0 ≤ x ∧ x < ps.length := fun x hx => by
 unfold ofSu at hx
 split at hx
 · exact pgF_in ps 7 _ x hx
 · simp at hx
noncomputable def takenF (ps : List (List UInt8)) (ss : List Su) : List Bool := mark (ss.flatMap (ofSu ps)) (List.replicate ps.length false)
theorem taken_len (ps : List (List UInt8)) (ss : List Su) : (takenF ps ss).length = ps.length := by unfold takenF; rw [mark_len, List.length_replicate]
theorem taken_step (ps : List (List UInt8)) (ss : List Su) {i : Nat} (h : i < ss.length) : takenF ps (ss.take (i + 1)) = mark (ofSu ps (ss.getD i (dflt .su))) (takenF ps (ss.take i)) := by
 unfold takenF
 rw [show ss.take (i + 1) = ss.take i ++ [ss.getD i (dflt .su)] by rw [List.take_add_one, List.getD_eq_getElem?_getD, List.getElem?_eq_getElem h]; rfl, List.flatMap_append, mark_app]
 simp
def skipT (tk : List Bool) (a : Nat) : Nat := a + ((tk.drop a).takeWhile (fun b => b)).length
structure PSt where
 at_ : Nat
 list : List Wr
 bad : Bool
def pageF (tk : List Bool) (q : PSt) : Int × PSt := if skipT tk q.at_ < tk.length then ((skipT tk q.at_ : Nat), ⟨skipT tk q.at_ + 1, q.list, q.bad⟩) else (0, ⟨skipT tk q.at_, q.list, true⟩)
def putP (tk : List Bool) (t : Tr) (r : List Int × PSt) : Int × PSt :=
 ((pageF tk r.2).1, ⟨(pageF tk r.2).2.at_, (pageF tk r.2).2.list ++ [⟨(pageF tk r.2).1, (putNd t r.1).1, ⟨0, 0⟩⟩], (pageF tk r.2).2.bad || !(putNd t r.1).2⟩)
mutual
def plT (tk : List Bool) : Tr → PSt → Int × PSt
 | ⟨l, ps, cs, kd, bf⟩, q => putP tk ⟨l, ps, cs, kd, bf⟩ (plL tk kd q)
def plL (tk : List Bool) : List Tr → PSt → List Int × PSt
 | [], q => ([], q)
 | t :: ts, q => ((plT tk t q).1 :: (plL tk ts (plT tk t q).2).1, (plL tk ts (plT tk t q).2).2)
end
theorem plT_eq (tk : List Bool) (t : Tr) (q : PSt) : plT tk t q = putP tk t (plL tk t.kids q) := by cases t; unfold plT; rfl
theorem plL_cons (tk : List Bool) (t : Tr) (ts : List Tr) (q : PSt) : plL tk (t :: ts) q = ((plT tk t q).1 :: (plL tk ts (plT tk t q).2).1, (plL tk ts (plT tk t q).2).2) := by conv => lhs; unfold plL
theorem plL_app (tk : List Bool) : ∀ (a b : List Tr) (q : PSt), plL tk (a ++ b) q = ((plL tk a q).1 ++ (plL tk b (plL tk a q).2).1, (plL tk b (plL tk a q).2).2)
 | [], b, q => by simp [plL]
 | t :: a, b, q => by
   rw [List.cons_append, plL_cons, plL_cons, plL_app tk a b]
   rfl
theorem plL_step (tk : List Bool) (ts : List Tr) (q : PSt) {i : Nat} (h : i < ts.length) : plL tk (ts.take (i + 1)) q = ((plL tk (ts.take i) q).1 ++ [(plT tk (ts.getD i (dflt .tr)) (plL tk (ts.take i) q).2).1], (plT tk (ts.getD i (dflt .tr)) (plL tk (ts.take i) q).2).2) := by
 rw [show ts.take (i + 1) = ts.take i ++ [ts.getD i (dflt .tr)] by rw [List.take_add_one, List.getD_eq_getElem?_getD, List.getElem?_eq_getElem h]; rfl, plL_app]
 simp [plL]
end Go.Proofs.YthbpdhppelaihaaGreat