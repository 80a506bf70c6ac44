/- Joined: BE BH BI. -/
import Derived.Test.YthbpdhppelaihaaGreatTF
import Derived.Test.YthbpdhppelaihaaGreatBG
/- Reading a node, number by number: how far it has come. Plain. Conditions: none. -/
set_option linter.unusedVariables false
set_option linter.unusedSimpArgs false
namespace Go.Proofs.YthbpdhppelaihaaGreat
abbrev RS := Nat × Bool
def rdI (b : List UInt8) (p : RS) : Int × RS := if (getN b p.1).2.2 then ((getN b p.1).1, ((getN b p.1).2.1, p.2)) else (0, (p.1, false))
def rdS (b : List UInt8) (p : RS) : Int × RS := if (getN b p.1).2.2 && p.2 then ((getN b p.1).1, ((getN b p.1).2.1, p.2)) else (0, (p.1, false))
def Rd (b : List UInt8) (rd : RS → Int × RS) : Prop := ∀ a x a', getN b a = (x, a', true) → rd (a, true) = (x, (a', true))
theorem rd_I (b : List UInt8) : Rd b (rdI b) := fun a x a' h => by unfold rdI; rw [h]; rfl
theorem rd_S (b : List UInt8) : Rd b (rdS b) := fun a x a' h => by unfold rdS; rw [h]; rfl
def At (b : List UInt8) (t : Tr) (ks : List Int) (j : Nat) (p : RS) : Prop := p = (posN (nodeNs t ks) j, true)
theorem at_zero (b : List UInt8) (t : Tr) (ks : List Int) : At b t ks 0 (0, true) := by unfold At; rw [pos_zero]
theorem at_step {b : List UInt8} {rd : RS → Int × RS} (hr : Rd b rd) {t : Tr} {ks : List Int} (hg : GoodN b t ks) {j : Nat} {p : RS} (h : At b t ks j p) (hj : j < (nodeNs t ks).length) : (rd p).1 = (nodeNs t ks).getD j 0 ∧ At b t ks (j + 1) (rd p).2 := by
 unfold At at h
 subst h
 have h1 := rd_at hg.2.1 hj
 rw [← hg.2.2] at h1
 rw [hr _ _ _ h1]
 exact ⟨rfl, rfl⟩
theorem at_end {b : List UInt8} {t : Tr} {ks : List Int} (hg : GoodN b t ks) {j : Nat} {p : RS} (h : At b t ks j p) (hj : (nodeNs t ks).length ≤ j) : p = (b.length, true) := by
 unfold At at h
 rw [h, pos_all hj, ← hg.2.2]
section
variable {b : List UInt8} {rd : RS → Int × RS}
theorem leaf_len {t : Tr} {ks : List Int} (hl : t.leaf = true) : (nodeNs t ks).length = 2 + 2 * t.pairs.length := by
 rw [nodeNs_leaf hl]; simp only [List.length_cons, flat2_len]; omega
theorem node_len {t : Tr} {ks : List Int} (hl : t.leaf = false) : (nodeNs t ks).length = 3 + ks.length + t.cuts.length + 3 * t.buf.length := by
 rw [nodeNs_node hl]; simp only [List.length_cons, List.length_append, flat3_len]; omega
theorem node_hd {t : Tr} {ks : List Int} (hl : t.leaf = false) : (nodeNs t ks).getD 0 0 = 0 ∧ (nodeNs t ks).getD 1 0 = ks.length := by
 rw [nodeNs_node hl]; exact ⟨rfl, rfl⟩
theorem leaf_hd {t : Tr} {ks : List Int} (hl : t.leaf = true) : (nodeNs t ks).getD 0 0 = 1 ∧ (nodeNs t ks).getD 1 0 = t.pairs.length := by
 rw [nodeNs_leaf hl]; exact ⟨rfl, rfl⟩
theorem getD_app {α : Type} (a l : List α) (i : Nat) (d : α) : (a ++ l).getD (a.length + i) d = l.getD i d := by
 rw [List.getD_eq_getElem?_getD, List.getD_eq_getElem?_getD, List.getElem?_append_right (by omega)]
 congr 2
 omega
theorem getD_app' {α : Type} (a l : List α) (i : Nat) (d d' : α) (h : i < a.length) : (a ++ l).getD i d = a.getD i d' := by
 rw [List.getD_eq_getElem?_getD, List.getD_eq_getElem?_getD, List.getElem?_append_left h, List.getElem?_eq_getElem h]; rfl
theorem leaf_get {t : Tr} {ks : List Int} (hl : t.leaf = true) {i : Nat} (hi : i < t.pairs.length) : (nodeNs t ks).getD (2 + 2 * i) 0 = (t.pairs.getD i (dflt .pr)).k ∧ (nodeNs t ks).getD (2 + 2 * i + 1) 0 = (t.pairs.getD i (dflt .pr)).v := by
 rw [nodeNs_leaf hl, show 2 + 2 * i + 1 = (2 * i + 1) + 1 + 1 by omega, show 2 + 2 * i = (2 * i) + 1 + 1 by omega]
 exact flat2_get t.pairs i hi
theorem node_kid {t : Tr} {ks : List Int} (hl : t.leaf = false) {i : Nat} (hi : i < ks.length) : (nodeNs t ks).getD (2 + i) 0 = ks.getD i 0 := by
 rw [nodeNs_node hl, show 2 + i = i + 1 + 1 by omega]
 exact getD_app' ks _ i 0 0 hi
theorem node_cut {t : Tr} {ks : List Int} (hl : t.leaf = false) {i : Nat} (hi : i < t.cuts.length) : (nodeNs t ks).getD (2 + ks.length + i) 0 = t.cuts.getD i 0 := by
 rw [nodeNs_node hl, show 2 + ks.length + i = (ks.length + i) + 1 + 1 by omega]
 refine (getD_app ks _ i 0).trans ?_
 exact getD_app' t.cuts _ i 0 0 hi
theorem node_cnt {t : Tr} {ks : List Int} (hl : t.leaf = false) : (nodeNs t ks).getD (2 + ks.length + t.cuts.length) 0 = t.buf.length := by
 rw [nodeNs_node hl, show 2 + ks.length + t.cuts.length = (ks.length + (t.cuts.length + 0)) + 1 + 1 by omega]
 refine (getD_app ks _ _ 0).trans ?_
 exact getD_app t.cuts _ 0 0
theorem node_msg {t : Tr} {ks : List Int} (hl : t.leaf = false) {i : Nat} (hi : i < t.buf.length) : (nodeNs t ks).getD (3 + ks.length + t.cuts.length + 3 * i) 0 = (t.buf.getD i (dflt .ms)).op ∧ (nodeNs t ks).getD (3 + ks.length + t.cuts.length + 3 * i + 1) 0 = (t.buf.getD i (dflt .ms)).k ∧ (nodeNs t ks).getD (3 + ks.length + t.cuts.length + 3 * i + 1 + 1) 0 = (t.buf.getD i (dflt .ms)).v := by
 have e : ∀ j, (nodeNs t ks).getD (3 + ks.length + t.cuts.length + j) 0 = (t.buf.flatMap fun p => [p.op, p.k, p.v]).getD j 0 := fun j => by
  rw [nodeNs_node hl, show 3 + ks.length + t.cuts.length + j = (ks.length + (t.cuts.length + (j + 1))) + 1 + 1 by omega]
  refine (getD_app ks _ _ 0).trans ?_
  exact getD_app t.cuts _ (j + 1) 0
 obtain ⟨h1, h2, h3⟩ := flat3_get t.buf i hi
 exact ⟨(e _).trans h1, (e (3 * i + 1)).trans h2, (e (3 * i + 2)).trans h3⟩
theorem take_more {α : Type} {xs : List α} {d : α} {i : Nat} (h : i < xs.length) : xs.take i ++ [xs.getD i d] = xs.take (i + 1) := by
 rw [List.take_add_one, List.getD_eq_getElem?_getD, List.getElem?_eq_getElem h]; rfl
def S1 (b : List UInt8) (x : Int) (p : RS) : Prop := ∀ t ks, decO b = some (t, ks) → At b t ks 1 p ∧ (x = 1 ↔ t.leaf = true)
def S2 (b : List UInt8) (lf : Bool) (n : Int) (p : RS) : Prop := ∀ t ks, decO b = some (t, ks) → At b t ks 2 p ∧ t.leaf = lf ∧ n = if lf then (t.pairs.length : Int) else (ks.length : Int)
def SP (b : List UInt8) (n : Int) (i : Nat) (ps : List Pr) (p : RS) : Prop := ∀ t ks, decO b = some (t, ks) → At b t ks (2 + 2 * i) p ∧ t.leaf = true ∧ n = t.pairs.length ∧ ps = t.pairs.take i
def SK (b : List UInt8) (n : Int) (i : Nat) (kd : List Int) (p : RS) : Prop := ∀ t ks, decO b = some (t, ks) → At b t ks (2 + i) p ∧ t.leaf = false ∧ n = ks.length ∧ kd = ks.take i
def SC (b : List UInt8) (n : Int) (kd : List Int) (i : Nat) (cs : List Int) (p : RS) : Prop := ∀ t ks, decO b = some (t, ks) → At b t ks (2 + ks.length + i) p ∧ t.leaf = false ∧ n = ks.length ∧ kd = ks ∧ t.cuts.length + 1 = ks.length ∧ cs = t.cuts.take i
def SB (b : List UInt8) (m n : Int) (kd cs : List Int) (i : Nat) (bf : List Ms) (p : RS) : Prop := ∀ t ks, decO b = some (t, ks) → At b t ks (3 + ks.length + t.cuts.length + 3 * i) p ∧ t.leaf = false ∧ n = ks.length ∧ kd = ks ∧ cs = t.cuts ∧ m = t.buf.length ∧ bf = t.buf.take i
def SE (b : List UInt8) (u : Tr) (kd : List Int) (p : RS) : Prop := ∀ t ks, decO b = some (t, ks) → p = (b.length, true) ∧ u = bare t ∧ kd = ks
theorem s1_of (hr : Rd b rd) : S1 b (rd (0, true)).1 (rd (0, true)).2 := fun t ks hd => by
 have hg := dec_some hd
 cases hl : t.leaf with
 | true =>
   obtain ⟨h1, h2⟩ := at_step hr hg (at_zero b t ks) (by rw [leaf_len hl]; omega)
   exact ⟨h2, by rw [h1, (leaf_hd hl).1]; simp⟩
 | false =>
   obtain ⟨h1, h2⟩ := at_step hr hg (at_zero b t ks) (by rw [node_len hl]; omega)
   exact ⟨h2, by rw [h1, (node_hd hl).1]; simp⟩
theorem s2_of (hr : Rd b rd) {x : Int} {p : RS} (h : S1 b x p) : S2 b (decide (x = 1)) (rd p).1 (rd p).2 := fun t ks hd => by
 have hg := dec_some hd
 obtain ⟨h1, h2⟩ := h t ks hd
 cases hl : t.leaf with
 | true =>
   obtain ⟨h3, h4⟩ := at_step hr hg h1 (by rw [leaf_len hl]; omega)
   rw [decide_eq_true (h2.2 hl)]
   exact ⟨h4, rfl, by rw [h3, (leaf_hd hl).2]; rfl⟩
 | false =>
   obtain ⟨h3, h4⟩ := at_step hr hg h1 (by rw [node_len hl]; omega)
   rw [decide_eq_false (fun h => by have := h2.1 h; rw [hl] at this; cases this)]
   exact ⟨h4, rfl, by rw [h3, (node_hd hl).2]; rfl⟩
theorem s2_rng {lf : Bool} {n : Int} {p : RS} (h : S2 b lf n p) {t : Tr} {ks : List Int} (hd : decO b = some (t, ks)) : 0 ≤ n ∧ n ≤ 4 ∧ p.2 = true := by
 obtain ⟨h1, h2, h3⟩ := h t ks hd
 have hg := (dec_some hd).1
 unfold At at h1
 subst h1
 cases lf with
 | true => rw [nodeB_leaf h2] at hg; rw [if_pos rfl] at h3; exact ⟨by omega, by omega, rfl⟩
 | false => rw [nodeB_node h2] at hg; rw [if_neg (by decide)] at h3; exact ⟨by omega, by omega, rfl⟩
theorem sp_zero {n : Int} {p : RS} (h : S2 b true n p) : SP b n 0 [] p := fun t ks hd => by
 obtain ⟨h1, h2, h3⟩ := h t ks hd
 exact ⟨h1, h2, h3, rfl⟩
theorem sp_step (hr : Rd b rd) {n : Int} {i : Nat} {ps : List Pr} {p : RS} (h : SP b n i ps p) (hi : (i : Int) < n) : SP b n (i + 1) (ps ++ [⟨(rd p).1, (rd (rd p).2).1⟩]) (rd (rd p).2).2 := fun t ks hd => by
 have hg := dec_some hd
 obtain ⟨h1, h2, h3, h4⟩ := h t ks hd
 have hi' : i < t.pairs.length := by omega
 obtain ⟨e1, h5⟩ := at_step hr hg h1 (by rw [leaf_len h2]; omega)
 obtain ⟨e2, h6⟩ := at_step hr hg h5 (by rw [leaf_len h2]; omega)
 obtain ⟨g1, g2⟩ := leaf_get (ks := ks) h2 hi'
 refine ⟨h6, h2, h3, ?_⟩
 rw [e1, e2, g1, g2, h4]
 exact take_more hi'
theorem sp_end {n : Int} {i : Nat} {ps : List Pr} {p : RS} (h : SP b n i ps p) (hi : n ≤ i) : SE b ⟨true, ps, [], [], []⟩ [] p := fun t ks hd => by
 have hg := dec_some hd
 obtain ⟨h1, h2, h3, h4⟩ := h t ks hd
 have hb := hg.1
 rw [nodeB_leaf h2] at hb
 obtain ⟨_, b1, b2, b3, b4⟩ := hb
 refine ⟨at_end hg h1 (by rw [leaf_len h2]; omega), ?_, (List.length_eq_zero_iff.1 b4).symm⟩
 rw [List.take_of_length_le (by omega)] at h4
 unfold bare
 rw [h4, h2, b1, List.length_eq_zero_iff.1 b2, List.length_eq_zero_iff.1 b3]
 rfl
theorem sk_zero {n : Int} {p : RS} (h : S2 b false n p) : SK b n 0 [] p := fun t ks hd => by
 obtain ⟨h1, h2, h3⟩ := h t ks hd
 exact ⟨h1, h2, h3, rfl⟩
theorem sk_step (hr : Rd b rd) {n : Int} {i : Nat} {kd : List Int} {p : RS} (h : SK b n i kd p) (hi : (i : Int) < n) : SK b n (i + 1) (kd ++ [(rd p).1]) (rd p).2 := fun t ks hd => by
 have hg := dec_some hd
 obtain ⟨h1, h2, h3, h4⟩ := h t ks hd
 have hi' : i < ks.length := by omega
 obtain ⟨e1, h5⟩ := at_step hr hg h1 (by rw [node_len h2]; omega)
 refine ⟨h5, h2, h3, ?_⟩
 rw [e1, node_kid h2 hi', h4]
 exact take_more hi'
theorem sc_zero {n : Int} {i : Nat} {kd : List Int} {p : RS} (h : SK b n i kd p) (hi : n ≤ i) (h0 : (i : Int) ≤ n) : SC b n kd 0 [] p := fun t ks hd => by
 have hg := dec_some hd
 obtain ⟨h1, h2, h3, h4⟩ := h t ks hd
 have hb := hg.1
 rw [nodeB_node h2] at hb
 rw [List.take_of_length_le (by omega)] at h4
 refine ⟨?_, h2, h3, h4, hb.2.2.1, rfl⟩
 have : 2 + i = 2 + ks.length + 0 := by omega
 rw [← this]; exact h1
theorem sc_step (hr : Rd b rd) {n : Int} {kd : List Int} {i : Nat} {cs : List Int} {p : RS} (h : SC b n kd i cs p) (hi : (i : Int) < n - 1) : SC b n kd (i + 1) (cs ++ [(rd p).1]) (rd p).2 := fun t ks hd => by
 have hg := dec_some hd
 obtain ⟨h1, h2, h3, h4, h5, h6⟩ := h t ks hd
 have hi' : i < t.cuts.length := by omega
 obtain ⟨e1, h7⟩ := at_step hr hg h1 (by rw [node_len h2]; omega)
 refine ⟨h7, h2, h3, h4, h5, ?_⟩
 rw [e1, node_cut h2 hi', h6]
 exact take_more hi'
theorem sb_zero (hr : Rd b rd) {n : Int} {kd : List Int} {i : Nat} {cs : List Int} {p : RS} (h : SC b n kd i cs p) (hi : n - 1 ≤ i) (h0 : i = 0 ∨ (i : Int) ≤ n - 1) : SB b (rd p).1 n kd cs 0 [] (rd p).2 := fun t ks hd => by
 have hg := dec_some hd
 obtain ⟨h1, h2, h3, h4, h5, h6⟩ := h t ks hd
 have hb := hg.1
 rw [nodeB_node h2] at hb
 have hi' : i = t.cuts.length := by omega
 subst hi'
 obtain ⟨e1, h7⟩ := at_step hr hg h1 (by rw [node_len h2]; omega)
 rw [List.take_of_length_le (Nat.le_refl _)] at h6
 refine ⟨?_, h2, h3, h4, h6, by rw [e1, node_cnt h2], rfl⟩
 have : 2 + ks.length + t.cuts.length + 1 = 3 + ks.length + t.cuts.length + 3 * 0 := by omega
 rw [← this]; exact h7
theorem sb_rng {m n : Int} {kd cs : List Int} {i : Nat} {bf : List Ms} {p : RS} (h : SB b m n kd cs i bf p) {t : Tr} {ks : List Int} (hd : decO b = some (t, ks)) : 0 ≤ m ∧ m ≤ 6 ∧ p.2 = true := by
 obtain ⟨h1, h2, _, _, _, h3, _⟩ := h t ks hd
 have hg := (dec_some hd).1
 unfold At at h1
 subst h1
 rw [nodeB_node h2] at hg
 exact ⟨by omega, by omega, rfl⟩
theorem sb_step (hr : Rd b rd) {m n : Int} {kd cs : List Int} {i : Nat} {bf : List Ms} {p : RS} (h : SB b m n kd cs i bf p) (hi : (i : Int) < m) : SB b m n kd cs (i + 1) (bf ++ [⟨(rd p).1, (rd (rd p).2).1, (rd (rd (rd p).2).2).1⟩]) (rd (rd (rd p).2).2).2 := fun t ks hd => by
 have hg := dec_some hd
 obtain ⟨h1, h2, h3, h4, h5, h6, h7⟩ := h t ks hd
 have hi' : i < t.buf.length := by omega
 obtain ⟨e1, a1⟩ := at_step hr hg h1 (by rw [node_len h2]; omega)
 obtain ⟨e2, a2⟩ := at_step hr hg a1 (by rw [node_len h2]; omega)
 obtain ⟨e3, a3⟩ := at_step hr hg a2 (by rw [node_len h2]; omega)
 obtain ⟨g1, g2, g3⟩ := node_msg (ks := ks) h2 hi'
 refine ⟨a3, h2, h3, h4, h5, h6, ?_⟩
 rw [e1, e2, e3, g1, g2, g3, h7]
 exact take_more hi'
theorem sb_end {m n : Int} {kd cs : List Int} {i : Nat} {bf : List Ms} {p : RS} (h : SB b m n kd cs i bf p) (hi : m ≤ i) : SE b ⟨false, [], cs, List.replicate n.toNat Tr0, bf⟩ kd p := fun t ks hd => by
 have hg := dec_some hd
 obtain ⟨h1, h2, h3, h4, h5, h6, h7⟩ := h t ks hd
 have hb := hg.1
 rw [nodeB_node h2] at hb
 obtain ⟨_, b1, b2, b3, b4⟩ := hb
 refine ⟨at_end hg h1 (by rw [node_len h2]; omega), ?_, h4⟩
 rw [List.take_of_length_le (by omega)] at h7
 unfold bare
 rw [h7, h2, b1, h5, h3, List.length_eq_zero_iff.1 b4]
 rfl
theorem se_yes {u : Tr} {kd : List Int} {p : RS} (h : SE b u kd p) (h1 : putNd u kd = (b, true)) : decF b = (u, kd, true) := by
 cases hd : decO b with
 | none => exact (dec_none hd u kd (good_put.2 h1)).elim
 | some q =>
   obtain ⟨t, ks⟩ := q
   obtain ⟨h2, h3, h4⟩ := h t ks hd
   rw [decF_some hd, h3, h4]
theorem se_no {u : Tr} {kd : List Int} {p : RS} (h : SE b u kd p) (h1 : ¬ (p.2 = true ∧ (putNd u kd).2 = true ∧ (putNd u kd).1 = b)) : decF b = (Tr0, [], false) := by
 cases hd : decO b with
 | none => exact decF_none hd
 | some q =>
   obtain ⟨t, ks⟩ := q
   obtain ⟨h2, h3, h4⟩ := h t ks hd
   have h5 := good_put.1 (dec_some hd)
   refine (h1 ⟨by rw [h2], ?_, ?_⟩).elim <;> rw [h3, h4, putNd_bare, h5]
theorem se_no' {u : Tr} {kd : List Int} {p : RS} (h : SE b u kd p) (h1 : ¬ (p.2 = true ∧ p.1 = b.length ∧ (putNd u kd).2 = true ∧ (putNd u kd).1 = b)) : decF b = (Tr0, [], false) := by
 cases hd : decO b with
 | none => exact decF_none hd
 | some q =>
   obtain ⟨t, ks⟩ := q
   obtain ⟨h2, h3, h4⟩ := h t ks hd
   have h5 := good_put.1 (dec_some hd)
   refine (h1 ⟨by rw [h2], by rw [h2], ?_, ?_⟩).elim <;> rw [h3, h4, putNd_bare, h5]
theorem none_of (h : ∀ t ks, decO b = some (t, ks) → False) : decO b = none := by
 cases hd : decO b with
 | none => rfl
 | some q => exact (h q.1 q.2 hd).elim
end
end Go.Proofs.YthbpdhppelaihaaGreat
/- Readers of numbers, on either side. Conditions: none. -/
namespace Go.Proofs.YthbpdhppelaihaaGreat
open Go.RowKit
attribute [local irreducible] Tri Weak
set_option maxRecDepth 4000
set_option maxHeartbeats 4000000
abbrev rsB (b : List UInt8) (p : RS) : Ob := .box [aL .u8 b, aI p.1, .c (.bool p.2)]
theorem r_num (b : List UInt8) (p : RS) (hb : b.length ≤ 1099511627776) : Ret Tryz.prog 242 [.pt 0 0] [(0, rsB b p)] (aI (rdI b p).1) [(0, rsB b (rdI b p).2)] := by
 have hg1 := r_implGetNum b p.1 hb
 unfold rdI
 generalize getN b p.1 = q at *
 obtain ⟨x, a, ok⟩ := q
 obtain ⟨p1, p2⟩ := p
 cases ok with
 | true =>
   dsimp only at hg1 ⊢
   rw [if_pos rfl]
   refine ret_vc hT hM Tryz.func242 rfl rfl (m := 1) (nx := 1) rfl (Nat.le_of_ble_eq_true rfl) ?_
   (repeat' ((conv => whnf); first | (apply nx; intro s) | (apply rg; intro s k) | ((first | refine cas (fun h => ?_) (fun h => ?_) | refine may (fun h => ?_) ?_) <;> (try simp [-List.getD_eq_getElem?_getD] at h)) | (refine giv fun hg => ?_; (try simp only [byE] at hg)) | refine need (by first | kernel_rfl | omega | (simp; done) | (simp; omega)) ?_ | (refine call_p (hg1) rfl (by (repeat' first | exact trivial | refine ⟨?_, ?_⟩ | exact rfl | exact oR | exact orB rfl | exact oL); (first | done | fail)) ?_) | ((first | refine fin_au rfl ?_ | apply WkF.au); (conv => whnf); ((repeat' first | exact trivial | refine ⟨?_, ?_⟩ | exact rfl | exact oR | exact orB rfl | exact oL) <;> (try conv => whnf) <;> (try first | apply cgB | apply cgI | apply cgS | apply cgR | apply cgD | refine cgL ?_) <;> (try (rw [wrap_i64 (by omega) (by omega)]; first | rfl | omega)))) | apply altl))
 | false =>
   dsimp only at hg1 ⊢
   rw [if_neg (by decide)]
   refine ret_vc hT hM Tryz.func242 rfl rfl (m := 1) (nx := 1) rfl (Nat.le_of_ble_eq_true rfl) ?_
   (repeat' ((conv => whnf); first | (apply nx; intro s) | (apply rg; intro s k) | ((first | refine cas (fun h => ?_) (fun h => ?_) | refine may (fun h => ?_) ?_) <;> (try simp [-List.getD_eq_getElem?_getD] at h)) | (refine giv fun hg => ?_; (try simp only [byE] at hg)) | refine need (by first | kernel_rfl | omega | (simp; done) | (simp; omega)) ?_ | (refine call_p (hg1) rfl (by (repeat' first | exact trivial | refine ⟨?_, ?_⟩ | exact rfl | exact oR | exact orB rfl | exact oL); (first | done | fail)) ?_) | ((first | refine fin_au rfl ?_ | apply WkF.au); (conv => whnf); ((repeat' first | exact trivial | refine ⟨?_, ?_⟩ | exact rfl | exact oR | exact orB rfl | exact oL) <;> (try conv => whnf) <;> (try first | apply cgB | apply cgI | apply cgS | apply cgR | apply cgD | refine cgL ?_) <;> (try (rw [wrap_i64 (by omega) (by omega)]; first | rfl | omega)))) | apply altl))
theorem r_l5Num (b : List UInt8) (p : RS) (hb : b.length ≤ 1099511627776) : Ret Tryz.prog 267 [.pt 0 0] [(0, rsB b p)] (aI (rdS b p).1) [(0, rsB b (rdS b p).2)] := by
 have hg1 := r_specGetNum b p.1 hb
 unfold rdS
 generalize getN b p.1 = q at *
 obtain ⟨x, a, ok⟩ := q
 obtain ⟨p1, p2⟩ := p
 cases ok with
 | true =>
   cases p2 with
   | true =>
     dsimp only at hg1 ⊢
     rw [if_pos (by rfl : (true && true) = true)]
     refine ret_vc hT hM Tryz.func267 rfl rfl (m := 1) (nx := 1) rfl (Nat.le_of_ble_eq_true rfl) ?_
     (repeat' ((conv => whnf); first | (apply nx; intro s) | (apply rg; intro s k) | ((first | refine cas (fun h => ?_) (fun h => ?_) | refine may (fun h => ?_) ?_) <;> (try simp [-List.getD_eq_getElem?_getD] at h)) | (refine giv fun hg => ?_; (try simp only [byE] at hg)) | refine need (by first | kernel_rfl | omega | (simp; done) | (simp; omega)) ?_ | (refine call_p (hg1) rfl (by (repeat' first | exact trivial | refine ⟨?_, ?_⟩ | exact rfl | exact oR | exact orB rfl | exact oL); (first | done | fail)) ?_) | ((first | refine fin_au rfl ?_ | apply WkF.au); (conv => whnf); ((repeat' first | exact trivial | refine ⟨?_, ?_⟩ | exact rfl | exact oR | exact orB rfl | exact oL) <;> (try conv => whnf) <;> (try first | apply cgB | apply cgI | apply cgS | apply cgR | apply cgD | refine cgL ?_) <;> (try (rw [wrap_i64 (by omega) (by omega)]; first | rfl | omega)))) | apply altl))
   | false =>
     dsimp only at hg1 ⊢
     rw [if_neg (by decide : ¬ (true && false) = true)]
     refine ret_vc hT hM Tryz.func267 rfl rfl (m := 1) (nx := 1) rfl (Nat.le_of_ble_eq_true rfl) ?_
     (repeat' ((conv => whnf); first | (apply nx; intro s) | (apply rg; intro s k) | ((first | refine cas (fun h => ?_) (fun h => ?_) | refine may (fun h => ?_) ?_) <;> (try simp [-List.getD_eq_getElem?_getD] at h)) | (refine giv fun hg => ?_; (try simp only [byE] at hg)) | refine need (by first | kernel_rfl | omega | (simp; done) | (simp; omega)) ?_ | (refine call_p (hg1) rfl (by (repeat' first | exact trivial | refine ⟨?_, ?_⟩ | exact rfl | exact oR | exact orB rfl | exact oL); (first | done | fail)) ?_) | ((first | refine fin_au rfl ?_ | apply WkF.au); (conv => whnf); ((repeat' first | exact trivial | refine ⟨?_, ?_⟩ | exact rfl | exact oR | exact orB rfl | exact oL) <;> (try conv => whnf) <;> (try first | apply cgB | apply cgI | apply cgS | apply cgR | apply cgD | refine cgL ?_) <;> (try (rw [wrap_i64 (by omega) (by omega)]; first | rfl | omega)))) | apply altl))
 | false =>
   dsimp only at hg1 ⊢
   rw [if_neg (by simp : ¬ (false && p2) = true)]
   refine ret_vc hT hM Tryz.func267 rfl rfl (m := 1) (nx := 1) rfl (Nat.le_of_ble_eq_true rfl) ?_
   (repeat' ((conv => whnf); first | (apply nx; intro s) | (apply rg; intro s k) | ((first | refine cas (fun h => ?_) (fun h => ?_) | refine may (fun h => ?_) ?_) <;> (try simp [-List.getD_eq_getElem?_getD] at h)) | (refine giv fun hg => ?_; (try simp only [byE] at hg)) | refine need (by first | kernel_rfl | omega | (simp; done) | (simp; omega)) ?_ | (refine call_p (hg1) rfl (by (repeat' first | exact trivial | refine ⟨?_, ?_⟩ | exact rfl | exact oR | exact orB rfl | exact oL); (first | done | fail)) ?_) | ((first | refine fin_au rfl ?_ | apply WkF.au); (conv => whnf); ((repeat' first | exact trivial | refine ⟨?_, ?_⟩ | exact rfl | exact oR | exact orB rfl | exact oL) <;> (try conv => whnf) <;> (try first | apply cgB | apply cgI | apply cgS | apply cgR | apply cgD | refine cgL ?_) <;> (try (rw [wrap_i64 (by omega) (by omega)]; first | rfl | omega)))) | apply altl))
theorem r_num0 (b : List UInt8) (hb : b.length ≤ 1099511627776) : Ret Tryz.prog 242 [.pt 0 0] [(0, .box [aL .u8 b, aI 0, .kb true])] (aI (rdI b (0, true)).1) [(0, rsB b (rdI b (0, true)).2)] := by
 have hg1 := r_implGetNum b 0 hb
 unfold rdI
 generalize getN b (0, true).1 = q at *
 obtain ⟨x, a, ok⟩ := q
 cases ok with
 | true =>
   dsimp only at hg1 ⊢
   rw [if_pos rfl]
   refine ret_vc hT hM Tryz.func242 rfl rfl (m := 1) (nx := 1) rfl (Nat.le_of_ble_eq_true rfl) ?_
   (repeat' ((conv => whnf); first | (apply nx; intro s) | (apply rg; intro s k) | ((first | refine cas (fun h => ?_) (fun h => ?_) | refine may (fun h => ?_) ?_) <;> (try simp [-List.getD_eq_getElem?_getD] at h)) | (refine giv fun hg => ?_; (try simp only [byE] at hg)) | refine need (by first | kernel_rfl | omega | (simp; done) | (simp; omega)) ?_ | (refine call_p (hg1) rfl (by (repeat' first | exact trivial | refine ⟨?_, ?_⟩ | exact rfl | exact oR | exact orB rfl | exact oL); (first | done | fail)) ?_) | ((first | refine fin_au rfl ?_ | apply WkF.au); (conv => whnf); ((repeat' first | exact trivial | refine ⟨?_, ?_⟩ | exact rfl | exact oR | exact orB rfl | exact oL) <;> (try conv => whnf) <;> (try first | apply cgB | apply cgI | apply cgS | apply cgR | apply cgD | refine cgL ?_) <;> (try (rw [wrap_i64 (by omega) (by omega)]; first | rfl | omega)))) | apply altl))
 | false =>
   dsimp only at hg1 ⊢
   rw [if_neg (by decide)]
   refine ret_vc hT hM Tryz.func242 rfl rfl (m := 1) (nx := 1) rfl (Nat.le_of_ble_eq_true rfl) ?_
   (repeat' ((conv => whnf); first | (apply nx; intro s) | (apply rg; intro s k) | ((first | refine cas (fun h => ?_) (fun h => ?_) | refine may (fun h => ?_) ?_) <;> (try simp [-List.getD_eq_getElem?_getD] at h)) | (refine giv fun hg => ?_; (try simp only [byE] at hg)) | refine need (by first | kernel_rfl | omega | (simp; done) | (simp; omega)) ?_ | (refine call_p (hg1) rfl (by (repeat' first | exact trivial | refine ⟨?_, ?_⟩ | exact rfl | exact oR | exact orB rfl | exact oL); (first | done | fail)) ?_) | ((first | refine fin_au rfl ?_ | apply WkF.au); (conv => whnf); ((repeat' first | exact trivial | refine ⟨?_, ?_⟩ | exact rfl | exact oR | exact orB rfl | exact oL) <;> (try conv => whnf) <;> (try first | apply cgB | apply cgI | apply cgS | apply cgR | apply cgD | refine cgL ?_) <;> (try (rw [wrap_i64 (by omega) (by omega)]; first | rfl | omega)))) | apply altl))
theorem r_l5Num0 (b : List UInt8) (hb : b.length ≤ 1099511627776) : Ret Tryz.prog 267 [.pt 0 0] [(0, .box [aL .u8 b, aI 0, .kb true])] (aI (rdS b (0, true)).1) [(0, rsB b (rdS b (0, true)).2)] := by
 have hg1 := r_specGetNum b 0 hb
 unfold rdS
 generalize getN b (0, true).1 = q at *
 obtain ⟨x, a, ok⟩ := q
 cases ok with
 | true =>
   dsimp only at hg1 ⊢
   rw [if_pos (by rfl : (true && true) = true)]
   refine ret_vc hT hM Tryz.func267 rfl rfl (m := 1) (nx := 1) rfl (Nat.le_of_ble_eq_true rfl) ?_
   (repeat' ((conv => whnf); first | (apply nx; intro s) | (apply rg; intro s k) | ((first | refine cas (fun h => ?_) (fun h => ?_) | refine may (fun h => ?_) ?_) <;> (try simp [-List.getD_eq_getElem?_getD] at h)) | (refine giv fun hg => ?_; (try simp only [byE] at hg)) | refine need (by first | kernel_rfl | omega | (simp; done) | (simp; omega)) ?_ | (refine call_p (hg1) rfl (by (repeat' first | exact trivial | refine ⟨?_, ?_⟩ | exact rfl | exact oR | exact orB rfl | exact oL); (first | done | fail)) ?_) | ((first | refine fin_au rfl ?_ | apply WkF.au); (conv => whnf); ((repeat' first | exact trivial | refine ⟨?_, ?_⟩ | exact rfl | exact oR | exact orB rfl | exact oL) <;> (try conv => whnf) <;> (try first | apply cgB | apply cgI | apply cgS | apply cgR | apply cgD | refine cgL ?_) <;> (try (rw [wrap_i64 (by omega) (by omega)]; first | rfl | omega)))) | apply altl))
 | false =>
   dsimp only at hg1 ⊢
   rw [if_neg (by decide : ¬ (false && true) = true)]
   refine ret_vc hT hM Tryz.func267 rfl rfl (m := 1) (nx := 1) rfl (Nat.le_of_ble_eq_true rfl) ?_
   (repeat' ((conv => whnf); first | (apply nx; intro s) | (apply rg; intro s k) | ((first | refine cas (fun h => ?_) (fun h => ?_) | refine may (fun h => ?_) ?_) <;> (try simp [-List.getD_eq_getElem?_getD] at h)) | (refine giv fun hg => ?_; (try simp only [byE] at hg)) | refine need (by first | kernel_rfl | omega | (simp; done) | (simp; omega)) ?_ | (refine call_p (hg1) rfl (by (repeat' first | exact trivial | refine ⟨?_, ?_⟩ | exact rfl | exact oR | exact orB rfl | exact oL); (first | done | fail)) ?_) | ((first | refine fin_au rfl ?_ | apply WkF.au); (conv => whnf); ((repeat' first | exact trivial | refine ⟨?_, ?_⟩ | exact rfl | exact oR | exact orB rfl | exact oL) <;> (try conv => whnf) <;> (try first | apply cgB | apply cgI | apply cgS | apply cgR | apply cgD | refine cgL ?_) <;> (try (rw [wrap_i64 (by omega) (by omega)]; first | rfl | omega)))) | apply altl))
def many (b : List UInt8) (m : Int) (p : RS) : Int × RS := if inB (rdI b p).1 0 m then rdI b p else (0, ((rdI b p).2.1, false))
theorem many_rng (b : List UInt8) {m : Int} (hm : 0 ≤ m) (p : RS) : 0 ≤ (many b m p).1 ∧ (many b m p).1 ≤ m := by
 unfold many
 split
 · rename_i h; exact inB_iff.1 h
 · exact ⟨Int.le_refl _, hm⟩
theorem r_many (b : List UInt8) (m : Int) (p : RS) (hb : b.length ≤ 1099511627776) : Ret Tryz.prog 243 [.pt 0 0, aI m] [(0, rsB b p)] (aI (many b m p).1) [(0, rsB b (many b m p).2)] := by
 have hg1 := r_num b p hb
 unfold many
 generalize rdI b p = q at *
 obtain ⟨x, a, ok⟩ := q
 obtain ⟨p1, p2⟩ := p
 cases hi : inB x 0 m with
 | true =>
   dsimp only at hi hg1 ⊢
   rw [if_pos rfl]
   refine ret_vc hT hM Tryz.func243 rfl rfl (m := 1) (nx := 1) rfl (Nat.le_of_ble_eq_true rfl) ?_
   (repeat' ((conv => whnf); first | (apply nx; intro s) | (apply rg; intro s k) | ((first | refine cas (fun h => ?_) (fun h => ?_) | refine may (fun h => ?_) ?_) <;> (try simp [-List.getD_eq_getElem?_getD, hi] at h)) | (refine giv fun hg => ?_; (try simp only [byE] at hg)) | refine need (by first | kernel_rfl | omega | (simp; done) | (simp; omega)) ?_ | (refine call_g [0] (hg1) rfl rfl rfl ?_ ?_ ?_ ?_ ?_; iterate 4 (focus (repeat' first | exact trivial | refine ⟨?_, ?_⟩ | exact rfl | exact oR | exact orB rfl | exact oL); (first | done | fail))) | (refine call_p (r_within x 0 m) rfl (by (repeat' first | exact trivial | refine ⟨?_, ?_⟩ | exact rfl | exact oR | exact orB rfl | exact oL); (first | done | fail)) ?_) | ((first | refine fin_au rfl ?_ | apply WkF.au); (conv => whnf); ((repeat' first | exact trivial | refine ⟨?_, ?_⟩ | exact rfl | exact oR | exact orB rfl | exact oL) <;> (try conv => whnf) <;> (try first | apply cgB | apply cgI | apply cgS | apply cgR | apply cgD | refine cgL ?_) <;> (try (rw [wrap_i64 (by omega) (by omega)]; first | rfl | omega)))) | apply altl))
 | false =>
   dsimp only at hi hg1 ⊢
   rw [if_neg (by decide)]
   refine ret_vc hT hM Tryz.func243 rfl rfl (m := 1) (nx := 1) rfl (Nat.le_of_ble_eq_true rfl) ?_
   (repeat' ((conv => whnf); first | (apply nx; intro s) | (apply rg; intro s k) | ((first | refine cas (fun h => ?_) (fun h => ?_) | refine may (fun h => ?_) ?_) <;> (try simp [-List.getD_eq_getElem?_getD, hi] at h)) | (refine giv fun hg => ?_; (try simp only [byE] at hg)) | refine need (by first | kernel_rfl | omega | (simp; done) | (simp; omega)) ?_ | (refine call_g [0] (hg1) rfl rfl rfl ?_ ?_ ?_ ?_ ?_; iterate 4 (focus (repeat' first | exact trivial | refine ⟨?_, ?_⟩ | exact rfl | exact oR | exact orB rfl | exact oL); (first | done | fail))) | (refine call_p (r_within x 0 m) rfl (by (repeat' first | exact trivial | refine ⟨?_, ?_⟩ | exact rfl | exact oR | exact orB rfl | exact oL); (first | done | fail)) ?_) | ((first | refine fin_au rfl ?_ | apply WkF.au); (conv => whnf); ((repeat' first | exact trivial | refine ⟨?_, ?_⟩ | exact rfl | exact oR | exact orB rfl | exact oL) <;> (try conv => whnf) <;> (try first | apply cgB | apply cgI | apply cgS | apply cgR | apply cgD | refine cgL ?_) <;> (try (rw [wrap_i64 (by omega) (by omega)]; first | rfl | omega)))) | apply altl))
end Go.Proofs.YthbpdhppelaihaaGreat
/- A node read from bytes: the program. Conditions: none. -/
namespace Go.Proofs.YthbpdhppelaihaaGreat
open Go.RowKit
attribute [local irreducible] Tri Weak
set_option maxRecDepth 4000
set_option maxHeartbeats 4000000
theorem list_extU {xs ys : List UInt8} (hl : xs.length = ys.length) (h : ∀ j, j < xs.length → xs.getD j (dflt .u8) = ys.getD j (dflt .u8)) : xs = ys := by
 apply List.ext_getElem hl
 intro i h1 h2
 have := h i h1
 rw [List.getD_eq_getElem?_getD, List.getD_eq_getElem?_getD, List.getElem?_eq_getElem h1, List.getElem?_eq_getElem h2] at this
 exact this
theorem r_equalU8 (xs ys : List UInt8) : Ret Tryz.prog 244 [aL .u8 xs, aL .u8 ys] [] (.c (.bool (eqB xs ys))) [] := by
 refine ret_vc hT hM Tryz.func244 rfl rfl (m := 0) (nx := 0) rfl (Nat.le_of_ble_eq_true rfl) ?_
 (repeat' ((conv => whnf); first | (apply nx; intro s) | (apply rg; intro s k) | ((first | refine cas (fun h => ?_) (fun h => ?_) | refine may (fun h => ?_) ?_) <;> (try simp [-List.getD_eq_getElem?_getD] at h)) | (refine giv fun hg => ?_; (try simp only [byE] at hg)) | refine need (by first | kernel_rfl | omega | (simp; done) | (simp; omega)) ?_ | ((first | refine fin_au rfl ?_ | apply WkF.au); (conv => whnf); ((repeat' first | exact trivial | refine ⟨?_, ?_⟩ | exact rfl | exact oR | exact orB rfl | exact oL) <;> (try conv => whnf) <;> (try first | apply cgB | apply cgI | apply cgS | apply cgR | apply cgD | refine cgL ?_) <;> (try (rw [wrap_i64 (by omega) (by omega)]; first | rfl | omega)))) | apply altl))
 · exact (eqB_no fun e => h (by rw [e])).symm
 refine Tri.loop (fun i : Nat => ⟨[(0, aL .u8 xs), (1, aL .u8 ys), (12, aI xs.length), (13, aI i)], [], 0⟩) (fun i => i ≤ xs.length ∧ ∀ j, j < i → xs.getD j (dflt .u8) = ys.getD j (dflt .u8)) (fun i => xs.length - i) 0 ⟨by omega, fun j hj => by omega⟩ ?_ ?_
 · (apply WkF.au; (conv => whnf); ((repeat' first | exact trivial | refine ⟨?_, ?_⟩ | exact rfl | exact oR | exact orB rfl | exact oL) <;> (try conv => whnf) <;> (try first | apply cgB | apply cgI | apply cgS | apply cgR | apply cgD | refine cgL ?_) <;> (try (rw [wrap_i64 (by omega) (by omega)]; first | rfl | omega))))
 · intro i ⟨hi, hpre⟩
   have hle : xs.length = ys.length := by omega
   refine vc_sound hT hM _ _ _ ?_
   (repeat' ((conv => whnf); first | (apply nx; intro s) | (apply rg; intro s k) | ((first | refine cas (fun h => ?_) (fun h => ?_) | refine may (fun h => ?_) ?_) <;> (try simp [-List.getD_eq_getElem?_getD] at h)) | (refine giv fun hg => ?_; (try simp only [byE] at hg)) | refine need (by first | kernel_rfl | omega | (simp; done) | (simp; omega)) ?_ | (refine ⟨(i + 1 : Nat), ?_, ?_, ?_⟩) | ((first | refine fin_au rfl ?_ | apply WkF.au); (conv => whnf); ((repeat' first | exact trivial | refine ⟨?_, ?_⟩ | exact rfl | exact oR | exact orB rfl | exact oL) <;> (try conv => whnf) <;> (try first | apply cgB | apply cgI | apply cgS | apply cgR | apply cgD | refine cgL ?_) <;> (try (rw [wrap_i64 (by omega) (by omega)]; first | rfl | omega)))) | apply altl))
   all_goals first
    | omega
    | (exact (eqB_yes (list_extU hle fun j hj => hpre j (by omega))).symm)
    | (rw [wrap_i64 (by omega) (by omega)]; omega)
    | exact (eqB_no fun e => by subst e; simp at h).symm
    | exact ⟨by omega, fun j hj => (Nat.lt_succ_iff_lt_or_eq.1 hj).elim (hpre j) fun e => by subst e; exact UInt8.toNat_inj.1 (Int.ofNat_inj.1 (by simpa [-List.getD_eq_getElem?_getD] using h))⟩
theorem many_in {b : List UInt8} {m : Int} {p : RS} (h : 0 ≤ (rdI b p).1 ∧ (rdI b p).1 ≤ m) : many b m p = rdI b p := by unfold many; rw [if_pos (inB_iff.2 h)]
theorem s2_many {b : List UInt8} {lf : Bool} {p : RS} (h : S2 b lf (rdI b p).1 (rdI b p).2) : S2 b lf (many b 4 p).1 (many b 4 p).2 := fun t ks hd => by
 obtain ⟨h1, h2, _⟩ := s2_rng h hd
 rw [many_in ⟨h1, h2⟩]
 exact h t ks hd
theorem sb_many {b : List UInt8} {n : Int} {kd cs : List Int} {p : RS} (h : SB b (rdI b p).1 n kd cs 0 [] (rdI b p).2) : SB b (many b 6 p).1 n kd cs 0 [] (many b 6 p).2 := fun t ks hd => by
 obtain ⟨h1, h2, _⟩ := sb_rng h hd
 rw [many_in ⟨h1, h2⟩]
 exact h t ks hd
abbrev gnA (q : Tr × List Int × Bool) : A := .tp [.ag [.c (.bool q.1.leaf), .rw 0, .rw 1, .rw 2, .rw 3], .rw 4, .c (.bool q.2.2)]
abbrev gnH (q : Tr × List Int × Bool) : Hp := [(0, .row .pr q.1.pairs), (1, .row .int q.1.cuts), (2, .row .tr q.1.kids), (3, .row .ms q.1.buf), (4, .row .int q.2.1)]
theorem eqB_is {α : Type} {x y : α} (h : eqB x y = true) : x = y := by unfold eqB at h; simpa using h
theorem repl_snoc (i : Nat) : List.replicate i Tr0 ++ [Tr0] = List.replicate (i + 1) Tr0 := by
 rw [List.replicate_succ', List.append_cancel_left_eq]
theorem se_fin {b : List UInt8} {u : Tr} {kd : List Int} {p1 : Nat} {p2 : Bool} {pq : List UInt8 × Bool} (h : SE b u kd (p1, p2)) (hq : putNd u kd = pq) : (p2 = true ∧ pq.2 = true ∧ eqB pq.1 b = true → decF b = (u, kd, true)) ∧ (¬ (p2 = true ∧ pq.2 = true ∧ eqB pq.1 b = true) → decF b = (Tr0, [], false)) := by
 subst hq
 refine ⟨fun h1 => se_yes h (Prod.ext (eqB_is h1.2.2) h1.2.1), fun h1 => se_no h fun h2 => h1 ⟨h2.1, h2.2.1, eqB_yes h2.2.2⟩⟩
theorem r_implGetNode (b : List UInt8) (hb : b.length ≤ 1099511627776) : Ret Tryz.prog 202 [aL .u8 b] [] (gnA (decF b)) (gnH (decF b)) := by
 have hs1 := s1_of (rd_I b)
 have hs2 := s2_many (s2_of (rd_I b) hs1)
 have hr2 := many_rng b (m := 4) (by omega) (rdI b (0, true)).2
 have hn1 := r_num0 b hb
 have hn2 := r_many b 4 (rdI b (0, true)).2 hb
 generalize rdI b (0, true) = q1 at *
 generalize many b 4 q1.2 = q2 at *
 by_cases hx : q1.1 = 1
 · rw [decide_eq_true hx] at hs2
   have hp0 := sp_zero hs2
   obtain ⟨n, p0⟩ := q2
   refine ret_vc hT hM Tryz.func202 rfl rfl (m := 0) (nx := 0) rfl (Nat.le_of_ble_eq_true rfl) ?_
   (repeat' ((conv => whnf); first | (apply nx; intro s) | (apply rg; intro s k) | ((first | refine cas (fun h => ?_) (fun h => ?_) | refine may (fun h => ?_) ?_) <;> (try simp [-List.getD_eq_getElem?_getD] at h)) | (refine giv fun hg => ?_; (try simp only [byE] at hg)) | refine need (by first | kernel_rfl | omega | (simp; done) | (simp; omega)) ?_ | (exfalso; omega) | (refine call_g [1] (hn1) rfl rfl rfl ?_ ?_ ?_ ?_ ?_; iterate 4 (focus (repeat' first | exact trivial | refine ⟨?_, ?_⟩ | exact rfl | exact oR | exact orB rfl | exact oL); (first | done | fail))) | (refine call_g [1] (hn2) rfl rfl rfl ?_ ?_ ?_ ?_ ?_; iterate 4 (focus (repeat' first | exact trivial | refine ⟨?_, ?_⟩ | exact rfl | exact oR | exact orB rfl | exact oL); (first | done | fail))) | ((first | refine fin_au rfl ?_ | apply WkF.au); (conv => whnf); ((repeat' first | exact trivial | refine ⟨?_, ?_⟩ | exact rfl | exact oR | exact orB rfl | exact oL) <;> (try conv => whnf) <;> (try first | apply cgB | apply cgI | apply cgS | apply cgR | apply cgD | refine cgL ?_) <;> (try (rw [wrap_i64 (by omega) (by omega)]; first | rfl | omega)))) | apply altl))
   (repeat ((conv => whnf); first | (apply nx; intro s) | (apply rg; intro s k))); (conv => whnf)
   refine Tri.loop (fun q : Nat × List Pr × RS => ⟨[(0, aL .u8 b), (2, .pt 0 0), (5, .pt 1 0), (6, .pt 2 0), (7, .rw 3), (28, aI n), (29, aI q.1)], [(0, .box [.kb false, .nl, .nl, .nl, .nl]), (1, rsB b q.2.2), (2, .box [.c (.bool true), .rw 4, .nl, .nl, .nl]), (3, .row .int []), (4, .row .pr q.2.1)], 5⟩) (fun q => SP b n q.1 q.2.1 q.2.2 ∧ (q.1 : Int) ≤ n ∧ q.2.1.length = q.1) (fun q => n.toNat - q.1) (0, [], p0) ⟨hp0, hr2.1, rfl⟩ ?_ ?_
   · (apply WkF.au; (conv => whnf); ((repeat' first | exact trivial | refine ⟨?_, ?_⟩ | exact rfl | exact oR | exact orB rfl | exact oL) <;> (try conv => whnf) <;> (try first | apply cgB | apply cgI | apply cgS | apply cgR | apply cgD | refine cgL ?_) <;> (try (rw [wrap_i64 (by omega) (by omega)]; first | rfl | omega))))
   · intro ⟨i, ps, p1, p2⟩ ⟨hI, h1, h2⟩
     dsimp only at hI h1 h2 hr2
     refine vc_sound hT hM _ _ _ ?_
     try dsimp only
     by_cases hi : (i : Int) < n
     · have hst := sp_step (rd_I b) hI hi
       have hc1 := r_num b (p1, p2) hb
       have hc2 := r_num b (rdI b (p1, p2)).2 hb
       (try dsimp only at hc1 hc2 hst)
       generalize rdI b (p1, p2) = q3 at *
       generalize rdI b q3.2 = q4 at *
       (repeat' ((conv => whnf); first | (apply nx; intro s) | (apply rg; intro s k) | ((first | refine cas (fun h => ?_) (fun h => ?_) | refine may (fun h => ?_) ?_) <;> (try simp [-List.getD_eq_getElem?_getD] at h)) | (refine giv fun hg => ?_; (try simp only [byE] at hg)) | refine need (by first | kernel_rfl | omega | (simp; done) | (simp; omega)) ?_ | (exfalso; omega) | (refine call_g [1] (hc1) rfl rfl rfl ?_ ?_ ?_ ?_ ?_; iterate 4 (focus (repeat' first | exact trivial | refine ⟨?_, ?_⟩ | exact rfl | exact oR | exact orB rfl | exact oL); (first | done | fail))) | (refine call_g [1] (hc2) rfl rfl rfl ?_ ?_ ?_ ?_ ?_; iterate 4 (focus (repeat' first | exact trivial | refine ⟨?_, ?_⟩ | exact rfl | exact oR | exact orB rfl | exact oL); (first | done | fail))) | (refine need (by simp only [byE, chunk, List.length_append, List.length_cons, List.length_nil]; omega) ?_) | (refine ⟨(i + 1, ps ++ [⟨q3.1, q4.1⟩], q4.2), ⟨hst, by dsimp only; omega, by simp [h2]⟩, by dsimp only; omega, ?_⟩) | ((first | refine fin_au rfl ?_ | apply WkF.au); (conv => whnf); ((repeat' first | exact trivial | refine ⟨?_, ?_⟩ | exact rfl | exact oR | exact orB rfl | exact oL) <;> (try conv => whnf) <;> (try first | apply cgB | apply cgI | apply cgS | apply cgR | apply cgD | refine cgL ?_) <;> (try (rw [wrap_i64 (by omega) (by omega)]; first | rfl | omega)))) | apply altl))
     · have hse := sp_end hI (by omega)
       have hpn := r_implPutNode ⟨true, ps, [], [], []⟩ []
       have hfin := se_fin hse rfl
       generalize putNd ⟨true, ps, [], [], []⟩ [] = pq at *
       have heq := r_equalU8 pq.1 b
       obtain ⟨w, ok⟩ := pq
       dsimp only at hpn hfin heq
       by_cases hok : p2 = true ∧ ok = true ∧ eqB w b = true
       · rw [hfin.1 hok]
         obtain ⟨hk1, hk2, hk3⟩ := hok
         (repeat' ((conv => whnf); first | (apply nx; intro s) | (apply rg; intro s k) | ((first | refine cas (fun h => ?_) (fun h => ?_) | refine may (fun h => ?_) ?_) <;> (try simp [-List.getD_eq_getElem?_getD, hk1, hk2, hk3] at h)) | (refine giv fun hg => ?_; (try simp only [byE] at hg)) | refine need (by first | kernel_rfl | omega | (simp; done) | (simp; omega)) ?_ | (exfalso; omega) | (refine call_b (hpn) ?_ ?_ ?_ ?_ ?_ ?_; iterate 5 (focus (repeat' first | exact trivial | refine ⟨?_, ?_⟩ | exact rfl | exact oR | exact orB rfl | exact oL); (first | done | fail))) | (refine call_b (heq) ?_ ?_ ?_ ?_ ?_ ?_; iterate 5 (focus (repeat' first | exact trivial | refine ⟨?_, ?_⟩ | exact rfl | exact oR | exact orB rfl | exact oL); (first | done | fail))) | ((first | refine fin_au rfl ?_ | apply WkF.au); (conv => whnf); ((repeat' first | exact trivial | refine ⟨?_, ?_⟩ | exact rfl | exact oR | exact orB rfl | exact oL) <;> (try conv => whnf) <;> (try first | apply cgB | apply cgI | apply cgS | apply cgR | apply cgD | refine cgL ?_) <;> (try (rw [wrap_i64 (by omega) (by omega)]; first | rfl | omega)))) | apply altl))
       · rw [hfin.2 hok]
         (repeat' ((conv => whnf); first | (apply nx; intro s) | (apply rg; intro s k) | ((first | refine cas (fun h => ?_) (fun h => ?_) | refine may (fun h => ?_) ?_) <;> (try simp [-List.getD_eq_getElem?_getD] at h)) | (refine giv fun hg => ?_; (try simp only [byE] at hg)) | refine need (by first | kernel_rfl | omega | (simp; done) | (simp; omega)) ?_ | (exfalso; omega) | (refine call_b (hpn) ?_ ?_ ?_ ?_ ?_ ?_; iterate 5 (focus (repeat' first | exact trivial | refine ⟨?_, ?_⟩ | exact rfl | exact oR | exact orB rfl | exact oL); (first | done | fail))) | (refine call_b (heq) ?_ ?_ ?_ ?_ ?_ ?_; iterate 5 (focus (repeat' first | exact trivial | refine ⟨?_, ?_⟩ | exact rfl | exact oR | exact orB rfl | exact oL); (first | done | fail))) | ((exfalso; apply hok; refine ⟨?_, ?_, ?_⟩ <;> assumption)) | ((first | refine fin_au rfl ?_ | apply WkF.au); (conv => whnf); ((repeat' first | exact trivial | refine ⟨?_, ?_⟩ | exact rfl | exact oR | exact orB rfl | exact oL) <;> (try conv => whnf) <;> (try first | apply cgB | apply cgI | apply cgS | apply cgR | apply cgD | refine cgL ?_) <;> (try (rw [wrap_i64 (by omega) (by omega)]; first | rfl | omega)))) | apply altl))
 · rw [decide_eq_false hx] at hs2
   have hk0 := sk_zero hs2
   obtain ⟨n, p0⟩ := q2
   dsimp only at hr2 hk0 hn2
   refine ret_vc hT hM Tryz.func202 rfl rfl (m := 0) (nx := 0) rfl (Nat.le_of_ble_eq_true rfl) ?_
   (repeat' ((conv => whnf); first | (apply nx; intro s) | (apply rg; intro s k) | ((first | refine cas (fun h => ?_) (fun h => ?_) | refine may (fun h => ?_) ?_) <;> (try simp [-List.getD_eq_getElem?_getD] at h)) | (refine giv fun hg => ?_; (try simp only [byE] at hg)) | refine need (by first | kernel_rfl | omega | (simp; done) | (simp; omega)) ?_ | (exfalso; omega) | (refine call_g [1] (hn1) rfl rfl rfl ?_ ?_ ?_ ?_ ?_; iterate 4 (focus (repeat' first | exact trivial | refine ⟨?_, ?_⟩ | exact rfl | exact oR | exact orB rfl | exact oL); (first | done | fail))) | (refine call_g [1] (hn2) rfl rfl rfl ?_ ?_ ?_ ?_ ?_; iterate 4 (focus (repeat' first | exact trivial | refine ⟨?_, ?_⟩ | exact rfl | exact oR | exact orB rfl | exact oL); (first | done | fail))) | ((first | refine fin_au rfl ?_ | apply WkF.au); (conv => whnf); ((repeat' first | exact trivial | refine ⟨?_, ?_⟩ | exact rfl | exact oR | exact orB rfl | exact oL) <;> (try conv => whnf) <;> (try first | apply cgB | apply cgI | apply cgS | apply cgR | apply cgD | refine cgL ?_) <;> (try (rw [wrap_i64 (by omega) (by omega)]; first | rfl | omega)))) | apply altl))
   (repeat ((conv => whnf); first | (apply nx; intro s) | (apply rg; intro s k))); (conv => whnf)
   refine Tri.loop (fun q : Nat × List Int × RS => ⟨[(0, aL .u8 b), (2, .pt 0 0), (5, .pt 1 0), (6, .pt 2 0), (7, .rw 3), (10, aI n), (46, aI n), (47, aI q.1)], [(0, .box [.kb false, .nl, .nl, .nl, .nl]), (1, rsB b q.2.2), (2, .box [.kb false, .nl, .nl, .rw 4, .nl]), (3, .row .int q.2.1), (4, .row .tr (List.replicate q.1 Tr0))], 5⟩) (fun q => SK b n q.1 q.2.1 q.2.2 ∧ (q.1 : Int) ≤ n ∧ q.2.1.length = q.1) (fun q => n.toNat - q.1) (0, [], p0) ⟨hk0, hr2.1, rfl⟩ ?_ ?_
   · (apply WkF.au; (conv => whnf); ((repeat' first | exact trivial | refine ⟨?_, ?_⟩ | exact rfl | exact oR | exact orB rfl | exact oL) <;> (try conv => whnf) <;> (try first | apply cgB | apply cgI | apply cgS | apply cgR | apply cgD | refine cgL ?_) <;> (try (rw [wrap_i64 (by omega) (by omega)]; first | rfl | omega))))
   · intro ⟨i, kd, p1, p2⟩ ⟨hI, h1, h2⟩
     dsimp only at hI h1 h2
     refine vc_sound hT hM _ _ _ ?_
     try dsimp only
     by_cases hi : (i : Int) < n
     · have hst := sk_step (rd_I b) hI hi
       have hc1 := r_num b (p1, p2) hb
       (try dsimp only at hc1 hst)
       generalize rdI b (p1, p2) = q3 at *
       (repeat' ((conv => whnf); first | (apply nx; intro s) | (apply rg; intro s k) | ((first | refine cas (fun h => ?_) (fun h => ?_) | refine may (fun h => ?_) ?_) <;> (try simp [-List.getD_eq_getElem?_getD] at h)) | (refine giv fun hg => ?_; (try simp only [byE] at hg)) | refine need (by first | kernel_rfl | omega | (simp; done) | (simp; omega)) ?_ | (exfalso; omega) | (refine call_g [1] (hc1) rfl rfl rfl ?_ ?_ ?_ ?_ ?_; iterate 4 (focus (repeat' first | exact trivial | refine ⟨?_, ?_⟩ | exact rfl | exact oR | exact orB rfl | exact oL); (first | done | fail))) | (refine need (by simp only [byE, chunk, List.length_append, List.length_cons, List.length_nil, List.length_replicate]; omega) ?_) | (refine ⟨(i + 1, kd ++ [q3.1], q3.2), ⟨hst, by dsimp only; omega, by simp [h2]⟩, by dsimp only; omega, ?_⟩) | ((first | refine fin_au rfl ?_ | apply WkF.au); (conv => whnf); ((repeat' first | exact trivial | refine ⟨?_, ?_⟩ | exact rfl | exact oR | exact orB rfl | exact oL) <;> (try conv => whnf) <;> (try first | apply cgB | apply cgI | apply cgS | apply cgR | apply cgD | refine cgL ?_) <;> (try (rw [wrap_i64 (by omega) (by omega)]; first | rfl | omega)))) | apply altl))
       all_goals exact repl_snoc i
     · have hc0 := sc_zero hI (by omega) h1
       have hin : (i : Int) = n := by omega
       (repeat' ((conv => whnf); first | (apply nx; intro s) | (apply rg; intro s k) | ((first | refine cas (fun h => ?_) (fun h => ?_) | refine may (fun h => ?_) ?_) <;> (try simp [-List.getD_eq_getElem?_getD] at h)) | (refine giv fun hg => ?_; (try simp only [byE] at hg)) | refine need (by first | kernel_rfl | omega | (simp; done) | (simp; omega)) ?_ | (exfalso; omega) | ((first | refine fin_au rfl ?_ | apply WkF.au); (conv => whnf); ((repeat' first | exact trivial | refine ⟨?_, ?_⟩ | exact rfl | exact oR | exact orB rfl | exact oL) <;> (try conv => whnf) <;> (try first | apply cgB | apply cgI | apply cgS | apply cgR | apply cgD | refine cgL ?_) <;> (try (rw [wrap_i64 (by omega) (by omega)]; first | rfl | omega)))) | apply altl))
       (repeat ((conv => whnf); first | (apply nx; intro s) | (apply rg; intro s k))); (conv => whnf)
       have hm : ((n - 1).toNat : Int) = max 0 (n - 1) := by omega
       generalize (n - 1).toNat = m at *
       refine Tri.loop (fun q : Nat × List Int × RS => ⟨[(0, aL .u8 b), (2, .pt 0 0), (5, .pt 1 0), (6, .pt 2 0), (7, .rw 3), (64, aI m), (65, aI q.1)], [(0, .box [.kb false, .nl, .nl, .nl, .nl]), (1, rsB b q.2.2), (2, .box [.kb false, .nl, .rw 5, .rw 4, .nl]), (3, .row .int kd), (4, .row .tr (List.replicate i Tr0)), (5, .row .int q.2.1)], 6⟩) (fun q => SC b n kd q.1 q.2.1 q.2.2 ∧ q.1 ≤ m ∧ q.2.1.length = q.1) (fun q => m - q.1) (0, [], (p1, p2)) ⟨hc0, Nat.zero_le _, rfl⟩ ?_ ?_
       · (apply WkF.au; (conv => whnf); ((repeat' first | exact trivial | refine ⟨?_, ?_⟩ | exact rfl | exact oR | exact orB rfl | exact oL) <;> (try conv => whnf) <;> (try first | apply cgB | apply cgI | apply cgS | apply cgR | apply cgD | refine cgL ?_) <;> (try (rw [wrap_i64 (by omega) (by omega)]; first | rfl | omega))))
         all_goals (rw [wrap_i64 (by omega) (by omega)]; omega)
       · clear hI h1 h2 hc0
         intro ⟨j, cs, p1, p2⟩ ⟨hI, h1, h2⟩
         dsimp only at hI h1 h2
         refine vc_sound hT hM _ _ _ ?_
         try dsimp only
         by_cases hj : j < m
         · have hst := sc_step (rd_I b) hI (by omega)
           have hc1 := r_num b (p1, p2) hb
           (try dsimp only at hc1 hst)
           generalize rdI b (p1, p2) = q3 at *
           (repeat' ((conv => whnf); first | (apply nx; intro s) | (apply rg; intro s k) | ((first | refine cas (fun h => ?_) (fun h => ?_) | refine may (fun h => ?_) ?_) <;> (try simp [-List.getD_eq_getElem?_getD] at h)) | (refine giv fun hg => ?_; (try simp only [byE] at hg)) | refine need (by first | kernel_rfl | omega | (simp; done) | (simp; omega)) ?_ | (exfalso; omega) | (refine call_g [1] (hc1) rfl rfl rfl ?_ ?_ ?_ ?_ ?_; iterate 4 (focus (repeat' first | exact trivial | refine ⟨?_, ?_⟩ | exact rfl | exact oR | exact orB rfl | exact oL); (first | done | fail))) | (refine need (by simp only [byE, chunk, List.length_append, List.length_cons, List.length_nil, List.length_replicate]; omega) ?_) | (refine ⟨(j + 1, cs ++ [q3.1], q3.2), ⟨hst, by dsimp only; omega, by simp [h2]⟩, by dsimp only; omega, ?_⟩) | ((first | refine fin_au rfl ?_ | apply WkF.au); (conv => whnf); ((repeat' first | exact trivial | refine ⟨?_, ?_⟩ | exact rfl | exact oR | exact orB rfl | exact oL) <;> (try conv => whnf) <;> (try first | apply cgB | apply cgI | apply cgS | apply cgR | apply cgD | refine cgL ?_) <;> (try (rw [wrap_i64 (by omega) (by omega)]; first | rfl | omega)))) | apply altl))
         · have hb0 := sb_many (sb_zero (rd_I b) hI (by omega) (by omega))
           have hr6 := many_rng b (m := 6) (by omega) (p1, p2)
           have hc6 := r_many b 6 (p1, p2) hb
           generalize many b 6 (p1, p2) = q6 at *
           obtain ⟨k6, p6⟩ := q6
           dsimp only at hb0 hr6 hc6
           (repeat' ((conv => whnf); first | (apply nx; intro s) | (apply rg; intro s k) | ((first | refine cas (fun h => ?_) (fun h => ?_) | refine may (fun h => ?_) ?_) <;> (try simp [-List.getD_eq_getElem?_getD] at h)) | (refine giv fun hg => ?_; (try simp only [byE] at hg)) | refine need (by first | kernel_rfl | omega | (simp; done) | (simp; omega)) ?_ | (exfalso; omega) | (refine call_g [1] (hc6) rfl rfl rfl ?_ ?_ ?_ ?_ ?_; iterate 4 (focus (repeat' first | exact trivial | refine ⟨?_, ?_⟩ | exact rfl | exact oR | exact orB rfl | exact oL); (first | done | fail))) | ((first | refine fin_au rfl ?_ | apply WkF.au); (conv => whnf); ((repeat' first | exact trivial | refine ⟨?_, ?_⟩ | exact rfl | exact oR | exact orB rfl | exact oL) <;> (try conv => whnf) <;> (try first | apply cgB | apply cgI | apply cgS | apply cgR | apply cgD | refine cgL ?_) <;> (try (rw [wrap_i64 (by omega) (by omega)]; first | rfl | omega)))) | apply altl))
           (repeat ((conv => whnf); first | (apply nx; intro s) | (apply rg; intro s k))); (conv => whnf)
           refine Tri.loop (fun q : Nat × List Ms × RS => ⟨[(0, aL .u8 b), (2, .pt 0 0), (5, .pt 1 0), (6, .pt 2 0), (7, .rw 3), (77, aI k6), (78, aI q.1)], [(0, .box [.kb false, .nl, .nl, .nl, .nl]), (1, rsB b q.2.2), (2, .box [.kb false, .nl, .rw 5, .rw 4, .rw 6]), (3, .row .int kd), (4, .row .tr (List.replicate i Tr0)), (5, .row .int cs), (6, .row .ms q.2.1)], 7⟩) (fun q => SB b k6 n kd cs q.1 q.2.1 q.2.2 ∧ (q.1 : Int) ≤ k6 ∧ q.2.1.length = q.1) (fun q => k6.toNat - q.1) (0, [], p6) ⟨hb0, hr6.1, rfl⟩ ?_ ?_
           · (apply WkF.au; (conv => whnf); ((repeat' first | exact trivial | refine ⟨?_, ?_⟩ | exact rfl | exact oR | exact orB rfl | exact oL) <;> (try conv => whnf) <;> (try first | apply cgB | apply cgI | apply cgS | apply cgR | apply cgD | refine cgL ?_) <;> (try (rw [wrap_i64 (by omega) (by omega)]; first | rfl | omega))))
           · clear hI h1 h2 hb0
             intro ⟨l, bf, p1, p2⟩ ⟨hI, h1, h2⟩
             dsimp only at hI h1 h2
             refine vc_sound hT hM _ _ _ ?_
             try dsimp only
             by_cases hl : (l : Int) < k6
             · have hst := sb_step (rd_I b) hI hl
               have hc1 := r_num b (p1, p2) hb
               have hc2 := r_num b (rdI b (p1, p2)).2 hb
               have hc3 := r_num b (rdI b (rdI b (p1, p2)).2).2 hb
               (try dsimp only at hc1 hc2 hc3 hst)
               generalize rdI b (p1, p2) = q3 at *
               generalize rdI b q3.2 = q4 at *
               generalize rdI b q4.2 = q5 at *
               (repeat' ((conv => whnf); first | (apply nx; intro s) | (apply rg; intro s k) | ((first | refine cas (fun h => ?_) (fun h => ?_) | refine may (fun h => ?_) ?_) <;> (try simp [-List.getD_eq_getElem?_getD] at h)) | (refine giv fun hg => ?_; (try simp only [byE] at hg)) | refine need (by first | kernel_rfl | omega | (simp; done) | (simp; omega)) ?_ | (exfalso; omega) | (refine call_g [1] (hc1) rfl rfl rfl ?_ ?_ ?_ ?_ ?_; iterate 4 (focus (repeat' first | exact trivial | refine ⟨?_, ?_⟩ | exact rfl | exact oR | exact orB rfl | exact oL); (first | done | fail))) | (refine call_g [1] (hc2) rfl rfl rfl ?_ ?_ ?_ ?_ ?_; iterate 4 (focus (repeat' first | exact trivial | refine ⟨?_, ?_⟩ | exact rfl | exact oR | exact orB rfl | exact oL); (first | done | fail))) | (refine call_g [1] (hc3) rfl rfl rfl ?_ ?_ ?_ ?_ ?_; iterate 4 (focus (repeat' first | exact trivial | refine ⟨?_, ?_⟩ | exact rfl | exact oR | exact orB rfl | exact oL); (first | done | fail))) | (refine need (by simp only [byE, chunk, List.length_append, List.length_cons, List.length_nil]; omega) ?_) | (refine ⟨(l + 1, bf ++ [⟨q3.1, q4.1, q5.1⟩], q5.2), ⟨hst, by dsimp only; omega, by simp [h2]⟩, by dsimp only; omega, ?_⟩) | ((first | refine fin_au rfl ?_ | apply WkF.au); (conv => whnf); ((repeat' first | exact trivial | refine ⟨?_, ?_⟩ | exact rfl | exact oR | exact orB rfl | exact oL) <;> (try conv => whnf) <;> (try first | apply cgB | apply cgI | apply cgS | apply cgR | apply cgD | refine cgL ?_) <;> (try (rw [wrap_i64 (by omega) (by omega)]; first | rfl | omega)))) | apply altl))
             · have hse := sb_end hI (by omega)
               rw [show n.toNat = i by omega] at hse
               have hpn := r_implPutNode ⟨false, [], cs, List.replicate i Tr0, bf⟩ kd
               have hfin := se_fin hse rfl
               generalize putNd ⟨false, [], cs, List.replicate i Tr0, bf⟩ kd = pq at *
               have heq := r_equalU8 pq.1 b
               obtain ⟨w, ok⟩ := pq
               dsimp only at hpn hfin heq
               by_cases hok : p2 = true ∧ ok = true ∧ eqB w b = true
               · rw [hfin.1 hok]
                 obtain ⟨hk1, hk2, hk3⟩ := hok
                 (repeat' ((conv => whnf); first | (apply nx; intro s) | (apply rg; intro s k) | ((first | refine cas (fun h => ?_) (fun h => ?_) | refine may (fun h => ?_) ?_) <;> (try simp [-List.getD_eq_getElem?_getD, hk1, hk2, hk3] at h)) | (refine giv fun hg => ?_; (try simp only [byE] at hg)) | refine need (by first | kernel_rfl | omega | (simp; done) | (simp; omega)) ?_ | (exfalso; omega) | (refine call_b (hpn) ?_ ?_ ?_ ?_ ?_ ?_; iterate 5 (focus (repeat' first | exact trivial | refine ⟨?_, ?_⟩ | exact rfl | exact oR | exact orB rfl | exact oL); (first | done | fail))) | (refine call_b (heq) ?_ ?_ ?_ ?_ ?_ ?_; iterate 5 (focus (repeat' first | exact trivial | refine ⟨?_, ?_⟩ | exact rfl | exact oR | exact orB rfl | exact oL); (first | done | fail))) | ((first | refine fin_au rfl ?_ | apply WkF.au); (conv => whnf); ((repeat' first | exact trivial | refine ⟨?_, ?_⟩ | exact rfl | exact oR | exact orB rfl | exact oL) <;> (try conv => whnf) <;> (try first | apply cgB | apply cgI | apply cgS | apply cgR | apply cgD | refine cgL ?_) <;> (try (rw [wrap_i64 (by omega) (by omega)]; first | rfl | omega)))) | apply altl))
               · rw [hfin.2 hok]
                 (repeat' ((conv => whnf); first | (apply nx; intro s) | (apply rg; intro s k) | ((first | refine cas (fun h => ?_) (fun h => ?_) | refine may (fun h => ?_) ?_) <;> (try simp [-List.getD_eq_getElem?_getD] at h)) | (refine giv fun hg => ?_; (try simp only [byE] at hg)) | refine need (by first | kernel_rfl | omega | (simp; done) | (simp; omega)) ?_ | (exfalso; omega) | (refine call_b (hpn) ?_ ?_ ?_ ?_ ?_ ?_; iterate 5 (focus (repeat' first | exact trivial | refine ⟨?_, ?_⟩ | exact rfl | exact oR | exact orB rfl | exact oL); (first | done | fail))) | (refine call_b (heq) ?_ ?_ ?_ ?_ ?_ ?_; iterate 5 (focus (repeat' first | exact trivial | refine ⟨?_, ?_⟩ | exact rfl | exact oR | exact orB rfl | exact oL); (first | done | fail))) | ((exfalso; apply hok; refine ⟨?_, ?_, ?_⟩ <;> assumption)) | ((first | refine fin_au rfl ?_ | apply WkF.au); (conv => whnf); ((repeat' first | exact trivial | refine ⟨?_, ?_⟩ | exact rfl | exact oR | exact orB rfl | exact oL) <;> (try conv => whnf) <;> (try first | apply cgB | apply cgI | apply cgS | apply cgR | apply cgD | refine cgL ?_) <;> (try (rw [wrap_i64 (by omega) (by omega)]; first | rfl | omega)))) | apply altl))
end Go.Proofs.YthbpdhppelaihaaGreat