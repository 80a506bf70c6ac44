/- A row that is one's own all the way down may be taken for one whose elements are only read. Conditions: none. -/
import Derived.Test.YthbpdhppelaihaaGreatBS
set_option linter.unusedVariables false
set_option linter.unusedSimpArgs false
namespace Go.Proofs.YthbpdhppelaihaaGreat
open Go.RowKit
theorem ret_part {P : Program} {f : Nat} {az : List A} {hin : Hp} {r : A} {hout hout' : Hp} (h : Ret P f az hin r hout) (k : Nat) {e : Ty} {xs : List (El e)} (hg : get hout k = some (.dp e xs)) (hk : get hout' k = some (.row e xs)) (hsame : ∀ j, j ≠ k → get hout' j = get hout j) : Ret P f az hin r hout' := by
 refine ⟨h.1, fun F V B w args h1 h2 h3 h4 h5 => (h.2 F V B w args h1 h2 h3 h4 h5).mono fun en w' => ?_⟩
 rintro ⟨v, F', V', B', hv, hr, hri, hH, hV1, hkeep, hFF, hFn, hFlt, hown, hfr⟩
 have hdef : ∀ j, Def hout j → Def hout' j := fun j hj => by
  unfold Def at *
  by_cases hjk : j = k
  · rw [hjk, hk]; rfl
  · rw [hsame j hjk]; exact hj
 have hob := hH.ob k _ hg
 cases hob with
 | dp _ _ hd =>
   obtain ⟨us, b0, hb, ho, hrr, hn, hB⟩ := hd.inv
   have ho1 : ∀ b, owns hout V' B' k b ↔ b ∈ bkl (V' k) ++ b0 := fun b => by unfold owns; rw [hg]; dsimp only; rw [hB]
   have ho2 : ∀ b, owns hout' V' B' k b ↔ b ∈ bkl (V' k) := fun b => by unfold owns; rw [hk]; exact bkl_mem.symm
   have ho3 : ∀ j b, owns hout' V' B' j b → owns hout V' B' j b := fun j b hj => by
    by_cases hjk : j = k
    · subst hjk; exact (ho1 b).2 (List.mem_append_left _ ((ho2 b).1 hj))
    · unfold owns at hj ⊢; rw [hsame j hjk] at hj; exact hj
   refine ⟨v, fun b => F' b ∨ b ∈ b0, V', B', hv, hr.move (fun b hb => .inl hb) (fun _ _ => rfl) (A.all_mono (fun _ _ => rfl) hri), A.all_mono hdef hri, ?_, hV1, fun j hj => ⟨(hkeep j hj).1, hdef j (hkeep j hj).2⟩, fun b hb => .inl (hFF b hb), ?_, ?_, fun j b hj => hown j b (ho3 j b hj), hfr⟩
   · refine hH.step hFlt (fun j => j = k) (fun _ _ _ => rfl) (Nat.le_refl _) (fun _ _ => rfl) (fun _ _ _ => rfl) (fun b hb => .inl hb) (fun b hb => ?_) (fun j hj => hsame j hj) hdef (fun j o hj hj' => ?_) (fun j b hj hj' => ?_) (fun j j' b hj hj' _ _ => hj.trans hj'.symm)
     · rcases hb with hb | hb
       · exact .inl hb
       · exact .inr (.inr ⟨k, rfl, (ho1 b).2 (List.mem_append_right _ hb)⟩)
     · subst hj
       rw [hk] at hj'
       cases hj'
       exact ⟨.row e xs us ho (hrr.rep fun b hb => .inr hb) hb, trivial⟩
     · subst hj
       have e1 := (ho2 b).1 hj'
       have e2 := (ho1 b).2 (List.mem_append_left _ e1)
       refine ⟨hH.lt _ b e2, ?_, .inr ⟨_, rfl, e2⟩⟩
       rintro (e3 | e3)
       · exact hH.nF _ b e2 e3
       · exact (List.nodup_append.1 hn).2.2 b e1 b e3 rfl
   · intro b hb
     rcases hb with hb | hb
     · exact hFn b hb
     · exact .inr (hown k b ((ho1 b).2 (List.mem_append_right _ hb)))
   · intro b hb
     rcases hb with hb | hb
     · exact hFlt b hb
     · exact hH.lt k b ((ho1 b).2 (List.mem_append_right _ hb))
abbrev trA (t : Tr) : A := .ag [.c (.bool t.leaf), .rw 0, .rw 1, .rw 2, .rw 3]
abbrev trH (t : Tr) : Hp := [(0, .row .pr t.pairs), (1, .row .int t.cuts), (2, .row .tr t.kids), (3, .row .ms t.buf)]
theorem ret_tree {P : Program} {f : Nat} {az : List A} {t : Tr} (h : Ret P f az [] (ownA .tr t) (ownH .tr t)) : Ret P f az [] (trA t) (trH t) := by
 refine ret_part (e := .tr) (xs := t.kids) h 2 rfl rfl fun j hj => ?_
 show get [(0, Ob.row .pr t.pairs), (1, .row .int t.cuts), (2, .row .tr t.kids), (3, .row .ms t.buf)] j = get [(0, Ob.row .pr t.pairs), (1, .row .int t.cuts), (2, .dp .tr t.kids), (3, .row .ms t.buf)] j
 simp only [get_cons]
 simp only [if_neg (show ¬ 2 = j from fun e => hj e.symm)]
end Go.Proofs.YthbpdhppelaihaaGreat