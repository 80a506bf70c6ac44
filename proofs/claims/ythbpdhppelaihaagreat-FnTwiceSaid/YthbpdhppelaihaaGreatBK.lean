/- What a plan has written is read as what it was: plain laws. Conditions: none. -/
import Derived.Test.YthbpdhppelaihaaGreatBJ
import Derived.Test.YthbpdhppelaihaaGreatZJ
set_option linter.unusedVariables false
set_option linter.unusedSimpArgs false
namespace Go.Proofs.YthbpdhppelaihaaGreat
theorem inR_in {x : Int} (h : -2000000000 ≤ x ∧ x ≤ 2000000000) : inR x = true := decide_eq_true h
theorem putNd_ok {t : Tr} {ks : List Int} (h1 : nodeB t ks = true) (h2 : ∀ x ∈ nodeNs t ks, inR x = true) : (putNd t ks).2 = true := by
 rw [good_put.1 ⟨h1, h2, rfl⟩]
def NodeOk (t : Tr) : Prop := ∀ ks : List Int, ks.length = t.kids.length → (∀ x ∈ ks, inR x = true) → (putNd t ks).2 = true
def Nice : Nat → Tr → Prop
 | 0, _ => False
 | n + 1, t => NodeOk t ∧ ∀ k ∈ t.kids, Nice n k
theorem msgOk_rng {m : Ms} (h : msgOk m = true) : (1 ≤ m.op ∧ m.op ≤ 4) ∧ (0 ≤ m.k ∧ m.k ≤ 999) ∧ -1000000000 ≤ m.v ∧ m.v ≤ 1000000000 := by
 unfold msgOk at h
 simp only [Bool.and_eq_true, inB_iff] at h
 exact ⟨h.1.1.1, h.1.1.2, h.1.2⟩
theorem dep_nice : ∀ (n : Nat) (t : Tr) (lo hi : Int), 0 ≤ lo → hi ≤ 1000 → depF n t lo hi ≠ 0 → Nice n t
 | 0, t, lo, hi, _, _, h => absurd rfl h
 | n + 1, t, lo, hi, hlo, hhi, h => by
   by_cases hl : t.leaf = true
   · simp only [depF] at h
     rw [if_pos hl] at h
     split at h
     · rename_i hb
       unfold leafB at hb
       simp only [Bool.and_eq_true, decide_eq_true_eq] at hb
       obtain ⟨⟨⟨⟨⟨h1, h2⟩, h3⟩, h4⟩, h5⟩, h6⟩ := hb
       have hp : ∀ x ∈ t.pairs, inR x.k = true ∧ inR x.v = true := fun x hx => by
        obtain ⟨i, hi1, hi2⟩ := mem_getD (dflt .pr) hx
        have h7 := List.all_eq_true.1 h1 i (by simpa using hi1)
        unfold mapStep at h7
        rw [hi2] at h7
        simp only [Bool.and_eq_true, inB_iff] at h7
        exact ⟨inR_in (by omega), inR_in (by omega)⟩
       refine ⟨fun ks hk hr => putNd_ok ((nodeB_leaf hl).2 ⟨h2, h4, h3, h5, by omega⟩) ?_, fun k hk => ?_⟩
       · rw [nodeNs_leaf hl]
         intro x hx
         rcases List.mem_cons.1 hx with rfl | hx
         · exact inR_in (by omega)
         · rcases List.mem_cons.1 hx with rfl | hx
           · exact inR_in (by omega)
           · obtain ⟨p, hp1, hp2⟩ := List.mem_flatMap.1 hx
             have := hp p hp1
             simp only [List.mem_cons, List.not_mem_nil, or_false] at hp2
             rcases hp2 with rfl | rfl
             · exact this.1
             · exact this.2
       · rw [List.length_eq_zero_iff.1 h4] at hk
         simp at hk
     · exact absurd rfl h
   · have hl' : t.leaf = false := by simpa using hl
     by_cases hs : shapeB t = true ∧ t.buf.all (bufM lo hi) = true
     · have e : depF (n + 1) t lo hi = kidsF (depF n) t.cuts hi t.kids 0 0 lo := by
        simp only [depF]; rw [if_neg hl, hs.1, hs.2]; rfl
       rw [e] at h
       obtain ⟨h1, h2, h3, h4⟩ := shapeB_iff.1 hs.1
       obtain ⟨D, hD0, hD1, _, hD3⟩ := kids_row t.kids 0 0 lo (by intro e; rw [e] at h1; simp at h1) (by omega) h
       rw [List.drop_zero] at hD3
       refine ⟨fun ks hk hr => putNd_ok ((nodeB_node hl').2 ⟨by omega, by omega, by omega, h3, h4⟩) ?_, fun k hk => ?_⟩
       · rw [nodeNs_node hl']
         intro x hx
         rcases List.mem_cons.1 hx with rfl | hx
         · exact inR_in (by omega)
         · rcases List.mem_cons.1 hx with rfl | hx
           · exact inR_in (by omega)
           · rcases List.mem_append.1 hx with hx | hx
             · exact hr x hx
             · rcases List.mem_append.1 hx with hx | hx
               · have := row_cuts hD3 x hx
                 exact inR_in (by omega)
               · rcases List.mem_cons.1 hx with rfl | hx
                 · exact inR_in (by omega)
                 · obtain ⟨m, hm1, hm2⟩ := List.mem_flatMap.1 hx
                   have hm' := List.all_eq_true.1 hs.2 m hm1
                   unfold bufM at hm'
                   simp only [Bool.and_eq_true, decide_eq_true_eq] at hm'
                   have := msgOk_rng hm'.1.1
                   simp only [List.mem_cons, List.not_mem_nil, or_false] at hm2
                   rcases hm2 with rfl | rfl | rfl <;> exact inR_in (by omega)
       · obtain ⟨i, hi1, hi2⟩ := mem_getD (dflt .tr) hk
         obtain ⟨a, b, ha, ha1, ha2, _⟩ := row_kid hD3 hi1
         rw [hi2] at ha
         exact dep_nice n k a b (by omega) (by omega) (by rw [ha]; exact hD0)
     · exact absurd (depF_bad hl' hs) h
theorem okT_nice {t : Tr} (h : okT t = true) : Nice 7 t := dep_nice 7 t 0 1000 (by omega) (by omega) (by have := of_decide_eq_true h; omega)
def nodes : Tr → Nat
 | ⟨_, _, _, kd, _⟩ => 1 + nodesL kd
where nodesL : List Tr → Nat
 | [] => 0
 | t :: ts => nodes t + nodesL ts
theorem nodes_eq (t : Tr) : nodes t = 1 + nodes.nodesL t.kids := by cases t; unfold nodes; rfl
def freeN (m : List Bool) : Nat := (m.filter fun b => !b).length
theorem free_skip : ∀ m : List Bool, freeN (m.drop (m.takeWhile fun b => b).length) = freeN m ∧ (m.takeWhile fun b => b).length ≤ m.length ∧ ((m.takeWhile fun b => b).length < m.length → m.getD (m.takeWhile fun b => b).length true = false ∧ freeN m = freeN (m.drop ((m.takeWhile fun b => b).length + 1)) + 1)
 | [] => ⟨rfl, Nat.le_refl _, fun h => by simp at h⟩
 | false :: m => by
   refine ⟨rfl, Nat.zero_le _, fun _ => ⟨rfl, ?_⟩⟩
   simp [freeN]
 | true :: m => by
   obtain ⟨h1, h2, h3⟩ := free_skip m
   have e : ((true :: m).takeWhile fun b => b).length = (m.takeWhile fun b => b).length + 1 := by simp
   have e2 : freeN (true :: m) = freeN m := by simp [freeN]
   rw [e, e2]
   refine ⟨h1, by simp only [List.length_cons]; omega, fun h => ?_⟩
   exact h3 (by simp only [List.length_cons] at h; omega)
theorem skip_laws {tk : List Bool} {a : Nat} (ha : a ≤ tk.length) : a ≤ skipT tk a ∧ skipT tk a ≤ tk.length ∧ freeN (tk.drop (skipT tk a)) = freeN (tk.drop a) ∧ (skipT tk a < tk.length → tk.getD (skipT tk a) true = false ∧ freeN (tk.drop a) = freeN (tk.drop (skipT tk a + 1)) + 1) := by
 obtain ⟨h1, h2, h3⟩ := free_skip (tk.drop a)
 rw [List.drop_drop] at h1
 rw [List.length_drop] at h2 h3
 unfold skipT
 refine ⟨by omega, by omega, h1, fun h => ?_⟩
 obtain ⟨h4, h5⟩ := h3 (by omega)
 rw [List.drop_drop] at h5
 refine ⟨?_, by rw [h5, Nat.add_assoc]⟩
 rw [← h4, List.getD_eq_getElem?_getD, List.getD_eq_getElem?_getD, List.getElem?_drop]
def Grow (tk : List Bool) : Nat → List Wr → Nat → Prop
 | a, [], b => a ≤ b
 | a, w :: ws, b => ∃ j : Nat, w.at_ = j ∧ a ≤ j ∧ j < tk.length ∧ tk.getD j true = false ∧ Grow tk (j + 1) ws b
theorem grow_app {tk : List Bool} : ∀ {x y : List Wr} {a b c : Nat}, Grow tk a x b → Grow tk b y c → Grow tk a (x ++ y) c
 | [], [], a, b, c, h1, h2 => by simp only [Grow, List.nil_append] at *; omega
 | [], w :: y, a, b, c, h1, h2 => by
   obtain ⟨j, h3, h4, h5, h6, h7⟩ := h2
   simp only [Grow] at h1
   exact ⟨j, h3, by omega, h5, h6, h7⟩
 | w :: x, y, a, b, c, h1, h2 => by
   obtain ⟨j, h3, h4, h5, h6, h7⟩ := h1
   exact ⟨j, h3, h4, h5, h6, grow_app h7 h2⟩
theorem grow_le {tk : List Bool} : ∀ {x : List Wr} {a b : Nat}, Grow tk a x b → a ≤ b
 | [], a, b, h => h
 | w :: x, a, b, h => by obtain ⟨j, h3, h4, h5, h6, h7⟩ := h; have := grow_le h7; omega
theorem grow_mem {tk : List Bool} : ∀ {x : List Wr} {a b : Nat}, Grow tk a x b → ∀ w ∈ x, ∃ j : Nat, w.at_ = j ∧ a ≤ j ∧ j < b ∧ j < tk.length ∧ tk.getD j true = false
 | [], a, b, h, w, hw => by simp at hw
 | v :: x, a, b, h, w, hw => by
   obtain ⟨j, h3, h4, h5, h6, h7⟩ := h
   rcases List.mem_cons.1 hw with rfl | hw
   · have := grow_le h7
     exact ⟨j, h3, h4, by omega, h5, h6⟩
   · obtain ⟨i, e1, e2, e3⟩ := grow_mem h7 w hw
     exact ⟨i, e1, by omega, e3⟩
def rdL (f : Int → Option Tr) : List Int → Option (List Tr)
 | [] => some []
 | k :: ks => match f k, rdL f ks with
   | some t, some ts => some (t :: ts)
   | _, _ => none
noncomputable def rdT (ps : List (List UInt8)) : Nat → Int → Option Tr
 | 0, _ => none
 | n + 1, r => if (0 ≤ r ∧ r < ps.length) ∧ (decF (pgT ps r)).2.2 = true then
    (rdL (rdT ps n) (decF (pgT ps r)).2.1).map fun ks => ⟨(decF (pgT ps r)).1.leaf, (decF (pgT ps r)).1.pairs, (decF (pgT ps r)).1.cuts, ks, (decF (pgT ps r)).1.buf⟩
   else none
def Lies (ps : List (List UInt8)) (ws : List Wr) : Prop := ∀ w ∈ ws, pgT ps w.at_ = w.text
theorem bare_with (t : Tr) : (⟨(bare t).leaf, (bare t).pairs, (bare t).cuts, t.kids, (bare t).buf⟩ : Tr) = t := by cases t; rfl
structure Trod (tk : List Bool) (n : Nat) (t : Tr) (q : PSt) (r : Int × PSt) : Prop where
 le : r.2.at_ ≤ tk.length
 bad : r.2.bad = (q.bad || decide (freeN (tk.drop q.at_) < nodes t))
 free : freeN (tk.drop r.2.at_) = freeN (tk.drop q.at_) - nodes t
 rng : 0 ≤ r.1 ∧ r.1 < 200
 good : r.2.bad = false → ∃ ws, r.2.list = q.list ++ ws ∧ Grow tk q.at_ ws r.2.at_ ∧ r.1 < tk.length ∧ ∀ ps : List (List UInt8), ps.length = tk.length → Lies ps ws → rdT ps n r.1 = some t
structure TrodL (tk : List Bool) (n : Nat) (ts : List Tr) (q : PSt) (r : List Int × PSt) : Prop where
 le : r.2.at_ ≤ tk.length
 bad : r.2.bad = (q.bad || decide (freeN (tk.drop q.at_) < nodes.nodesL ts))
 free : freeN (tk.drop r.2.at_) = freeN (tk.drop q.at_) - nodes.nodesL ts
 len : r.1.length = ts.length
 rng : ∀ x ∈ r.1, inR x = true
 good : r.2.bad = false → ∃ ws, r.2.list = q.list ++ ws ∧ Grow tk q.at_ ws r.2.at_ ∧ ∀ ps : List (List UInt8), ps.length = tk.length → Lies ps ws → rdL (rdT ps n) r.1 = some ts
theorem lies_app {ps : List (List UInt8)} {a b : List Wr} (h : Lies ps (a ++ b)) : Lies ps a ∧ Lies ps b := ⟨fun w hw => h w (by simp [hw]), fun w hw => h w (by simp [hw])⟩
theorem or_lt (q : Bool) (f a b : Nat) : ((q || decide (f < a)) || decide (f - a < b)) = (q || decide (f < a + b)) := by
 rw [Bool.or_assoc, ← Bool.decide_or]
 congr 1
 apply decide_eq_decide.2
 omega
theorem trodL_of {tk : List Bool} (h200 : tk.length ≤ 200) {n : Nat} (ih : ∀ t, Nice n t → ∀ q : PSt, q.at_ ≤ tk.length → Trod tk n t q (plT tk t q)) : ∀ (ts : List Tr) (q : PSt), (∀ k ∈ ts, Nice n k) → q.at_ ≤ tk.length → TrodL tk n ts q (plL tk ts q)
 | [], q, _, hq => by
   unfold plL
   exact { le := hq, bad := by simp [nodes.nodesL], free := by simp [nodes.nodesL], len := rfl, rng := fun x hx => by simp at hx, good := fun _ => ⟨[], by simp, Nat.le_refl _, fun ps _ _ => rfl⟩ }
 | t :: ts, q, hn, hq => by
   have h1 := ih t (hn t (by simp)) q hq
   have h2 := trodL_of h200 ih ts (plT tk t q).2 (fun k hk => hn k (by simp [hk])) h1.le
   unfold plL
   refine { le := h2.le, bad := ?_, free := ?_, len := by dsimp only; rw [List.length_cons, List.length_cons, h2.len], rng := ?_, good := ?_ }
   · dsimp only
     rw [h2.bad, h1.bad, h1.free, or_lt]
     rfl
   · dsimp only
     rw [h2.free, h1.free]
     simp only [nodes.nodesL]
     omega
   · intro x hx
     rcases List.mem_cons.1 hx with rfl | hx
     · have := h1.rng; exact inR_in (by omega)
     · exact h2.rng x hx
   · intro hb
     dsimp only at hb
     have hb1 : (plT tk t q).2.bad = false := by
      have := h2.bad
      rw [hb] at this
      cases he : (plT tk t q).2.bad with
      | false => rfl
      | true => rw [he] at this; simp at this
     obtain ⟨w1, a1, a2, a3, a4⟩ := h1.good hb1
     obtain ⟨w2, b1, b2, b3⟩ := h2.good hb
     refine ⟨w1 ++ w2, by dsimp only; rw [b1, a1, List.append_assoc], grow_app a2 b2, fun ps hp hl => ?_⟩
     obtain ⟨l1, l2⟩ := lies_app hl
     simp only [rdL, a4 ps hp l1, b3 ps hp l2]
theorem trod_all {tk : List Bool} (h200 : tk.length ≤ 200) : ∀ (n : Nat) (t : Tr), Nice n t → ∀ q : PSt, q.at_ ≤ tk.length → Trod tk n t q (plT tk t q)
 | 0, t, h, _, _ => h.elim
 | n + 1, t, ⟨hok, hk⟩, q, hq => by
   have h1 := trodL_of h200 (trod_all h200 n) t.kids q hk hq
   rw [plT_eq]
   generalize plL tk t.kids q = r at *
   obtain ⟨ks, q1⟩ := r
   have hput := hok ks h1.len h1.rng
   obtain ⟨s1, s2, s3, s4⟩ := skip_laws h1.le
   have hbad := h1.bad
   have hfree := h1.free
   have hgood := h1.good
   dsimp only at s1 s2 s3 s4 hput hbad hfree hgood
   unfold putP pageF
   dsimp only
   by_cases hlt : skipT tk q1.at_ < tk.length
   · rw [if_pos hlt, hput]
     dsimp only
     obtain ⟨s5, s6⟩ := s4 hlt
     refine { le := hlt, bad := ?_, free := ?_, rng := ⟨by omega, by omega⟩, good := ?_ }
     · dsimp only
       rw [hbad, nodes_eq, Bool.not_true, Bool.or_false]
       congr 1
       apply decide_eq_decide.2
       omega
     · dsimp only
       rw [nodes_eq]
       omega
     · intro hb
       dsimp only at hb
       rw [Bool.not_true, Bool.or_false] at hb
       obtain ⟨ws, b1, b2, b3⟩ := hgood hb
       dsimp only
       refine ⟨ws ++ [⟨(skipT tk q1.at_ : Nat), (putNd t ks).1, ⟨0, 0⟩⟩], by rw [b1, List.append_assoc], grow_app b2 ⟨skipT tk q1.at_, rfl, s1, hlt, s5, Nat.le_refl _⟩, by omega, fun ps hp hl => ?_⟩
       obtain ⟨l1, l2⟩ := lies_app hl
       have hpg := l2 _ (List.mem_singleton.2 rfl)
       dsimp only at hpg
       have hdec := dec_good (b := (putNd t ks).1) (t := t) (ks := ks) (good_put.2 (Prod.ext rfl hput))
       unfold rdT
       rw [hpg, hdec]
       dsimp only
       rw [if_pos ⟨⟨by omega, by omega⟩, rfl⟩, b3 ps hp l1]
       exact congrArg some (bare_with t)
   · rw [if_neg hlt, hput]
     dsimp only
     have h0 : freeN (tk.drop (skipT tk q1.at_)) = 0 := by rw [List.drop_of_length_le (by omega)]; rfl
     refine { le := s2, bad := ?_, free := ?_, rng := ⟨by omega, by omega⟩, good := ?_ }
     · dsimp only
       rw [Bool.true_or, nodes_eq, decide_eq_true (show _ < _ by omega), Bool.or_true]
     · dsimp only
       rw [nodes_eq]
       omega
     · intro hb; cases hb
end Go.Proofs.YthbpdhppelaihaaGreat