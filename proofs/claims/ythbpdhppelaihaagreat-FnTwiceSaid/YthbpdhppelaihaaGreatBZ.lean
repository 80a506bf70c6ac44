/- What is planned twice is opened as the second one: plain laws. Conditions: none. -/
import Derived.Test.YthbpdhppelaihaaGreatBY
set_option linter.unusedVariables false
set_option linter.unusedSimpArgs false
namespace Go.Proofs.YthbpdhppelaihaaGreat
theorem free_set : ∀ {m : List Bool} {j : Nat}, j < m.length → m.getD j true = false → freeN (m.set j true) + 1 = freeN m
 | [], j, h, _ => by simp at h
 | x :: m, 0, _, h => by
   obtain rfl : x = false := h
   simp [freeN]
 | x :: m, j + 1, h, h2 => by
   have h3 := free_set (m := m) (j := j) (by simpa using h) h2
   unfold freeN at h3 ⊢
   rw [List.set_cons_succ, List.filter_cons, List.filter_cons]
   split
   · simp only [List.length_cons]; omega
   · exact h3
theorem spPut_law (t : Tr) (ks : List Int) (q : SpS) : (0 < freeN q.1 → ∃ r, spPut t ks q = some r ∧ freeN r.2.1 + 1 = freeN q.1) ∧ (freeN q.1 = 0 → spPut t ks q = none) := by
 obtain ⟨h1, h2, h3, h4⟩ := skip_laws (tk := q.1) (a := 0) (Nat.zero_le _)
 rw [List.drop_zero] at h3 h4
 unfold spPut
 by_cases hl : skipT q.1 0 < q.1.length
 · obtain ⟨h5, h6⟩ := h4 hl
   rw [if_pos hl]
   exact ⟨fun _ => ⟨_, rfl, free_set hl h5⟩, fun h => by omega⟩
 · rw [if_neg hl]
   refine ⟨fun h => ?_, fun _ => rfl⟩
   rw [List.drop_of_length_le (by omega)] at h3
   simp [freeN] at h3
   unfold freeN at h
   omega
mutual
theorem spT_law : ∀ (t : Tr) (q : SpS), (nodes t ≤ freeN q.1 → ∃ r, spT t q = some r ∧ freeN r.2.1 + nodes t = freeN q.1) ∧ (freeN q.1 < nodes t → spT t q = none)
 | ⟨l, ps, cs, kd, bf⟩, q => by
   obtain ⟨h1, h2⟩ := spL_law kd q
   rw [spT_eq, nodes_eq]
   dsimp only
   by_cases hk : nodes.nodesL kd ≤ freeN q.1
   · obtain ⟨r, h3, h4⟩ := h1 hk
     rw [h3, Option.bind_some]
     obtain ⟨h5, h6⟩ := spPut_law ⟨l, ps, cs, kd, bf⟩ r.1 r.2
     refine ⟨fun h => ?_, fun h => h6 (by omega)⟩
     obtain ⟨x, h7, h8⟩ := h5 (by omega)
     exact ⟨x, h7, by omega⟩
   · rw [h2 (by omega)]
     exact ⟨fun h => by omega, fun _ => rfl⟩
theorem spL_law : ∀ (ts : List Tr) (q : SpS), (nodes.nodesL ts ≤ freeN q.1 → ∃ r, spL ts q = some r ∧ freeN r.2.1 + nodes.nodesL ts = freeN q.1) ∧ (freeN q.1 < nodes.nodesL ts → spL ts q = none)
 | [], q => ⟨fun _ => ⟨([], q), by simp [spL], by simp [nodes.nodesL]⟩, fun h => by simp [nodes.nodesL] at h⟩
 | t :: ts, q => by
   obtain ⟨h1, h2⟩ := spT_law t q
   rw [spL_cons]
   simp only [nodes.nodesL]
   by_cases hk : nodes t ≤ freeN q.1
   · obtain ⟨r, h3, h4⟩ := h1 hk
     rw [h3, Option.bind_some]
     obtain ⟨h5, h6⟩ := spL_law ts r.2
     refine ⟨fun h => ?_, fun h => by rw [h6 (by omega)]; rfl⟩
     obtain ⟨x, h7, h8⟩ := h5 (by omega)
     exact ⟨_, by rw [h7]; rfl, by dsimp only; omega⟩
   · rw [h2 (by omega)]
     exact ⟨fun h => by omega, fun _ => rfl⟩
end
theorem plan_both {ps : List (List UInt8)} {ss : List Su} {t : Tr} (hl : ps.length ≤ 200) : (planF ps ss t).2 = (planS ps ss t).isSome := by
 by_cases hc : okT t = true ∧ ss.length = 2
 · have htr := trod_all (tk := takenF ps ss) (by rw [taken_len]; exact hl) 7 t (okT_nice hc.1) ⟨0, [], false⟩ (Nat.zero_le _)
   have hbad : (planR ps ss t).2.bad = (false || decide (freeN ((takenF ps ss).drop 0) < nodes t)) := htr.bad
   rw [List.drop_zero, Bool.false_or] at hbad
   obtain ⟨h1, h2⟩ := spT_law t (takenF ps ss, [])
   unfold planS
   rw [if_pos hc]
   by_cases hf : freeN (takenF ps ss) < nodes t
   · rw [h2 hf, plan_no (by rw [hbad, decide_eq_true hf]; simp)]
     rfl
   · obtain ⟨r, h3, _⟩ := h1 (by dsimp only; omega)
     rw [h3, plan_yes ⟨hc.1, hc.2, by rw [hbad, decide_eq_false hf]⟩]
     rfl
 · unfold planS
   rw [if_neg hc, plan_no fun h => hc ⟨h.1, h.2.1⟩]
   rfl
def Pgs (n : Nat) (l : List Wr) : Prop := ∀ w ∈ l, 0 ≤ w.at_ ∧ w.at_ < n
theorem dsk_su : ∀ {l : List Wr} {d : Dk}, Pgs d.1.length l → (dskF l d).2 = d.2
 | [], d, _ => rfl
 | w :: l, d, h => by
   have h1 := h w (by simp)
   have e : wr1 w d = (d.1.set w.at_.toNat w.text, d.2) := by unfold wr1; rw [if_pos h1]
   have h2 := dsk_su (l := l) (d := wr1 w d) (by rw [(wr1_len w d).1]; exact fun x hx => h x (by simp [hx]))
   show (dskF l (wr1 w d)).2 = _
   rw [h2, e]
theorem dsk_keep : ∀ {l : List Wr} {d : Dk} {j : Nat}, Pgs d.1.length l → (∀ w ∈ l, w.at_ ≠ j) → pgT (dskF l d).1 j = pgT d.1 j
 | [], d, j, _, _ => rfl
 | w :: l, d, j, h, hj => by
   have h1 := h w (by simp)
   have h0 := hj w (by simp)
   have e : wr1 w d = (d.1.set w.at_.toNat w.text, d.2) := by unfold wr1; rw [if_pos h1]
   have h2 := dsk_keep (l := l) (d := wr1 w d) (j := j) (by rw [(wr1_len w d).1]; exact fun x hx => h x (by simp [hx])) (fun x hx => hj x (by simp [hx]))
   show pgT (dskF l (wr1 w d)).1 j = _
   rw [h2, e]
   unfold pgT
   dsimp only
   rw [getD_set, if_neg (by omega)]
theorem grow_pgs {tk : List Bool} {l : List Wr} {a b : Nat} (h : Grow tk a l b) : Pgs tk.length l := fun w hw => by
 obtain ⟨j, h1, _, _, h2, _⟩ := grow_mem h w hw
 omega
theorem grow_lies {tk : List Bool} : ∀ {l : List Wr} {a b : Nat} {d : Dk}, Grow tk a l b → d.1.length = tk.length → Lies (dskF l d).1 l
 | [], a, b, d, _, _ => fun w hw => by simp at hw
 | v :: l, a, b, d, h, hd => by
   have hp := grow_pgs h
   obtain ⟨j, h1, h2, h3, h4, h5⟩ := h
   have hv := hp v (by simp)
   have e : wr1 v d = (d.1.set v.at_.toNat v.text, d.2) := by unfold wr1; rw [if_pos (by rw [hd]; exact hv)]
   have hl := (wr1_len v d).1
   intro w hw
   show pgT (dskF l (wr1 v d)).1 w.at_ = w.text
   rcases List.mem_cons.1 hw with rfl | hw
   · have h6 := dsk_keep (l := l) (d := wr1 w d) (j := j) (by rw [hl, hd]; exact fun x hx => hp x (by simp [hx])) (fun x hx => by
      obtain ⟨i, e1, e2, _⟩ := grow_mem h5 x hx
      omega)
     rw [h1, h6, e]
     unfold pgT
     dsimp only
     rw [getD_set, if_pos ⟨by omega, by omega⟩]
   · exact grow_lies h5 (by rw [hl, hd]) w hw
theorem op_two (ps : List (List UInt8)) (s0 s1 : Su) (q : Tr × Int) : opG ps [s0, s1] q = (if (if q.2 < s0.ver then match rdR ps s0.root with
 | some t => (t, s0.ver)
 | none => q else q).2 < s1.ver then match rdR ps s1.root with
 | some t => (t, s1.ver)
 | none => (if q.2 < s0.ver then match rdR ps s0.root with
   | some t => (t, s0.ver)
   | none => q else q) else (if q.2 < s0.ver then match rdR ps s0.root with
 | some t => (t, s0.ver)
 | none => q else q)) := rfl
theorem plan_open {d : Dk} (h200 : d.1.length ≤ 200) (htop : d.2.length = 2 → 0 ≤ (d.2.getD 0 (dflt .su)).ver ∨ 0 ≤ (d.2.getD 1 (dflt .su)).ver) {u : Tr} (hp : (planF d.1 d.2 u).2 = true) :
 (opF (dskF (planF d.1 d.2 u).1 d).1 (dskF (planF d.1 d.2 u).1 d).2).1 = u ∧ (opF (dskF (planF d.1 d.2 u).1 d).1 (dskF (planF d.1 d.2 u).1 d).2).2.2 = true := by
 by_cases hc : okT u = true ∧ d.2.length = 2 ∧ (planR d.1 d.2 u).2.bad = false
 · have hy := plan_yes hc
   obtain ⟨hok, h2, hbad⟩ := hc
   have htr := trod_all (tk := takenF d.1 d.2) (by rw [taken_len]; exact h200) 7 u (okT_nice hok) ⟨0, [], false⟩ (Nat.zero_le _)
   obtain ⟨ws, g1, g2, g3, g4⟩ := htr.good hbad
   rw [hy]
   change (planR d.1 d.2 u).2.list = [] ++ ws at g1
   rw [List.nil_append] at g1
   dsimp only
   rw [g1]
   have hroot : (plT (takenF d.1 d.2) u ⟨0, [], false⟩).1 = (planR d.1 d.2 u).1 := rfl
   rw [hroot] at g3 g4
   generalize (planR d.1 d.2 u).1 = root at *
   have htl := taken_len d.1 d.2
   have hpg := grow_pgs g2
   rw [htl] at hpg
   have hlies := grow_lies (d := d) g2 htl.symm
   have hlen := (dsk_len ws d).1
   have hrd := g4 (dskF ws d).1 (by rw [hlen, htl]) hlies
   have hsu := dsk_su (d := d) hpg
   have hrr : rdR (dskF ws d).1 root = some u := by unfold rdR; rw [hrd]; dsimp only; rw [if_pos hok]
   have hdo : dskF (ws ++ [lastW d.2 root]) d = wr1 (lastW d.2 root) (dskF ws d) := by unfold dskF; rw [List.foldl_append]; rfl
   rw [hdo]
   generalize dskF ws d = e at *
   obtain ⟨e1, e2⟩ := e
   dsimp only at hrr hsu hlen
   subst hsu
   obtain ⟨ps, ss⟩ := d
   dsimp only at h2 htop ⊢
   match ss, h2 with
   | [s0, s1], _ =>
     have htop' := htop rfl
     change 0 ≤ s0.ver ∨ 0 ≤ s1.ver at htop'
     have hl : lastW [s0, s1] root = ⟨if s1.ver < s0.ver then -2 else -1, [], ⟨max s0.ver s1.ver + 1, root⟩⟩ := rfl
     rw [hl]
     by_cases hv : s1.ver < s0.ver
     · rw [if_pos hv]
       have hw : wr1 ⟨-2, [], ⟨max s0.ver s1.ver + 1, root⟩⟩ (e1, [s0, s1]) = (e1, [s0, ⟨max s0.ver s1.ver + 1, root⟩]) := by
        unfold wr1
        rw [if_neg (by dsimp only; omega), if_pos ⟨.inr rfl, (by decide : (-1 : Int) - -2 < 2)⟩]
        rfl
       rw [hw]
       unfold opF
       rw [op_two]
       dsimp only
       rw [hrr]
       have hq : (if (0 : Int) < s0.ver then match rdR e1 s0.root with
        | some t => (t, s0.ver)
        | none => (Tr0, 0) else (Tr0, 0)).2 < max s0.ver s1.ver + 1 := by
        split
        · split
          · dsimp only; omega
          · dsimp only; omega
        · dsimp only; omega
       rw [if_pos hq]
       dsimp only
       rw [if_neg (by omega)]
       exact ⟨rfl, rfl⟩
     · rw [if_neg hv]
       have hw : wr1 ⟨-1, [], ⟨max s0.ver s1.ver + 1, root⟩⟩ (e1, [s0, s1]) = (e1, [⟨max s0.ver s1.ver + 1, root⟩, s1]) := by
        unfold wr1
        rw [if_neg (by dsimp only; omega), if_pos ⟨.inl rfl, (by decide : (-1 : Int) - -1 < 2)⟩]
        rfl
       rw [hw]
       unfold opF
       rw [op_two]
       dsimp only
       rw [if_pos (show (0 : Int) < max s0.ver s1.ver + 1 by omega), hrr]
       dsimp only
       rw [if_neg (show ¬ max s0.ver s1.ver + 1 < s1.ver by omega)]
       dsimp only
       rw [if_neg (by omega)]
       exact ⟨rfl, rfl⟩
 · rw [plan_no hc] at hp
   cases hp
theorem plan_part {d : Dk} (h200 : d.1.length ≤ 200) {t : Tr} (hp : (planF d.1 d.2 t).2 = true) {m : Nat} (hm : m < (planF d.1 d.2 t).1.length) : (dskF ((planF d.1 d.2 t).1.take m) d).2 = d.2 := by
 by_cases hc : okT t = true ∧ d.2.length = 2 ∧ (planR d.1 d.2 t).2.bad = false
 · have hy := plan_yes hc
   obtain ⟨hok, h2, hbad⟩ := hc
   have htr := trod_all (tk := takenF d.1 d.2) (by rw [taken_len]; exact h200) 7 t (okT_nice hok) ⟨0, [], false⟩ (Nat.zero_le _)
   obtain ⟨ws, g1, g2, g3, g4⟩ := htr.good hbad
   rw [hy] at hm ⊢
   change (planR d.1 d.2 t).2.list = [] ++ ws at g1
   rw [List.nil_append] at g1
   dsimp only at hm ⊢
   rw [g1] at hm ⊢
   rw [List.length_append] at hm
   simp only [List.length_cons, List.length_nil] at hm
   have hpg := grow_pgs g2
   rw [taken_len] at hpg
   rw [List.take_append_of_le_length (by omega)]
   exact dsk_su fun w hw => hpg w (List.mem_of_mem_take hw)
 · rw [plan_no hc] at hp
   cases hp
theorem plan_pos {ps : List (List UInt8)} {ss : List Su} {t : Tr} (hp : (planF ps ss t).2 = true) : 0 < (planF ps ss t).1.length ∧ okT t = true := by
 by_cases hc : okT t = true ∧ ss.length = 2 ∧ (planR ps ss t).2.bad = false
 · rw [plan_yes hc]
   exact ⟨by simp, hc.1⟩
 · rw [plan_no hc] at hp
   cases hp
theorem plan_nil {ps : List (List UInt8)} {ss : List Su} {t : Tr} (hp : (planF ps ss t).2 = false) : (planF ps ss t).1 = [] := by
 by_cases hc : okT t = true ∧ ss.length = 2 ∧ (planR ps ss t).2.bad = false
 · rw [plan_yes hc] at hp; cases hp
 · rw [plan_no hc]
end Go.Proofs.YthbpdhppelaihaaGreat