/- The map that a tree stands for: plain laws. Conditions: none. -/
import Derived.Test.YthbpdhppelaihaaGreatZQ
set_option linter.unusedVariables false
set_option linter.unusedSimpArgs false
namespace Go.Proofs.YthbpdhppelaihaaGreat
def mapT : Nat → Tr → List Pr
  | 0, t => t.pairs
  | d + 1, t => allF (t.kids.flatMap (mapT d)) t.buf
theorem map_app {a b : List Pr} {c : Int} (h1 : MapP a) (h2 : MapP b) (h3 : ∀ x ∈ a, x.k < c) (h4 : ∀ x ∈ b, c ≤ x.k) : MapP (a ++ b) :=
  ⟨List.pairwise_append.2 ⟨h1.1, h2.1, fun x hx y hy => by have := h3 x hx; have := h4 y hy; omega⟩, fun x hx => (List.mem_append.1 hx).elim (h1.2 x) (h2.2 x)⟩
def MapK (d : Nat) : Prop := ∀ lo hi t, Inv d lo hi t → MapP (mapT d t) ∧ (∀ x ∈ mapT d t, lo ≤ x.k ∧ x.k < hi) ∧ (mapT d t).length ≤ phi t
theorem map_row {d : Nat} (hd : MapK d) : ∀ {ks : List Tr} {cs : List Int} {lo hi : Int}, RowI (Inv d) lo hi ks cs → MapP (ks.flatMap (mapT d)) ∧ (∀ x ∈ ks.flatMap (mapT d), lo ≤ x.k ∧ x.k < hi) ∧ (ks.flatMap (mapT d)).length ≤ phiL ks
  | k :: ks, c :: cs, lo, hi, h => by
    simp only [RowI] at h
    obtain ⟨h1, h2, h3⟩ := hd _ _ _ h.2.2.1
    obtain ⟨h4, h5, h6⟩ := map_row hd h.2.2.2
    rw [List.flatMap_cons]
    refine ⟨map_app h1 h4 (fun x hx => (h2 x hx).2) (fun x hx => (h5 x hx).1), fun x hx => ?_, by rw [List.length_append]; simp only [phiL]; omega⟩
    rcases List.mem_append.1 hx with hx | hx
    · have := h2 x hx; omega
    · have := h5 x hx; omega
  | [k], [], lo, hi, h => by
    simp only [RowI] at h
    obtain ⟨h1, h2, h3⟩ := hd _ _ _ h
    rw [List.flatMap_cons, List.flatMap_nil, List.append_nil]
    exact ⟨h1, h2, by simp only [phiL]; omega⟩
  | k :: k' :: ks, [], lo, hi, h => by simp only [RowI] at h
  | [], c :: cs, lo, hi, h => by simp only [RowI] at h
  | [], [], lo, hi, h => by simp only [RowI] at h
theorem map_ok : ∀ d, MapK d
  | 0 => fun lo hi t ⟨h1, h2, h3, h4, h5, h6, h7⟩ => ⟨h2, h3, by rw [phi_leaf h1]; show t.pairs.length ≤ _; omega⟩
  | d + 1 => fun lo hi t ⟨h1, h2, h3, h4⟩ => by
    obtain ⟨h5, h6, h7⟩ := map_row (map_ok d) h3
    refine ⟨all_map h5, fun x hx => ?_, ?_⟩
    · rcases all_mem hx with ⟨m, hm1, hm2⟩ | hx
      · have := (h4 m hm1).2; omega
      · exact h6 x hx
    · have := all_len t.buf (t.kids.flatMap (mapT d))
      rw [phi_node h1]
      show (allF _ _).length ≤ _
      omega
theorem mapT_take (f : Tr → List Pr) {ks : List Tr} {i : Nat} (h : i < ks.length) : (ks.take (i + 1)).flatMap f = (ks.take i).flatMap f ++ f (ks.getD i (dflt .tr)) := by
  rw [List.take_add_one, List.getD_eq_getElem?_getD, List.getElem?_eq_getElem h, List.flatMap_append]
  simp
theorem mapT_le (f : Tr → List Pr) (ks : List Tr) (i : Nat) : ((ks.take i).flatMap f).length ≤ (ks.flatMap f).length := by
  conv => rhs; rw [← List.take_append_drop i ks, List.flatMap_append, List.length_append]
  omega
end Go.Proofs.YthbpdhppelaihaaGreat
