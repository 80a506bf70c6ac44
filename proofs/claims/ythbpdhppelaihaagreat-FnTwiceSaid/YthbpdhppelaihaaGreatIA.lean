/- slices.Insert of one pair, walked below the framework. Conditions: none. -/
import Derived.Test.YthbpdhppelaihaaGreatQA
import Derived.Shelf.Spec.SlicesInsert
import Derived.Lib.AppendZerosOnto
import Derived.Lib.Overlaps
import Derived.Lib.SliceRun
import Derived.WalkKit
import Derived.Laws.CopyRow
import Derived.Laws.Externs
import Derived.Laws.NewBlocks
set_option linter.unusedVariables false
set_option linter.unusedSimpArgs false
namespace Go.Proofs.YthbpdhppelaihaaGreat
open Go.RowKit
set_option maxRecDepth 100000
set_option maxHeartbeats 4000000
def InsQ (bk : Option Nat) (n : Nat) (us : List Value) (w : World) (e : Ending) (w' : World) : Prop :=
 ∃ v', e = .returned v' ∧ rowR w' .pr v' n us ∧ w'.os = w.os ∧ w'.tape = w.tape ∧ w'.output = w.output ∧ w.heap.size ≤ w'.heap.size ∧ (∀ b, b < w.heap.size → bk ≠ some b → w'.heap[b]? = w.heap[b]?) ∧ ∀ b, blk v' = some b → bk = some b ∨ w.heap.size ≤ b
theorem ins_end (w : World) (v : Value) (n : Nat) (us us1 : List Value) (hr : rowR w .pr v n us) (g1 c1 : Nat) (hc : CellsAt w ⟨g1, 0, none⟩ us1) (hl : us1.length = 2) (h1 : ∀ u ∈ us1, u.oneCell' = true) (hb : (n + 1) * 16 ≤ 140737488355328) :
 Calls Tryz.prog 252 #[v, .int .i64 n, .slice (some ⟨g1, 0, none⟩) 1 c1] w (InsQ (blk v) (n + 1) (us ++ us1) w) := by
 obtain ⟨v', w', h2, h3, h4, h5, h6, h7, h8, h9⟩ := run_append_R (P := Tryz.prog) (w := w) (t := 24) (ty := 24) (e := .pr) Tryz.underlying24 (hT 115 _ rfl) rfl rfl hr (A0 := some ⟨g1, 0, none⟩) (m := 1) (c := c1) (news := us1) (by simpa using hl) (fun _ => ⟨_, rfl, hc⟩) h1 hb
 have key : ∃ a c, v = .slice a n c ∧ n ≤ c ∧ (a = none → c = 0) := by
  rcases hr.2 with ⟨a, h, h0⟩ | ⟨g, cap, cur, h, _, h0, _⟩
  · subst h0; exact ⟨a, 0, h, Nat.le_refl _, fun _ => rfl⟩
  · exact ⟨_, _, h, h0, fun e => by cases e⟩
 obtain ⟨bk, hbk⟩ : ∃ bk, bk = blk v := ⟨_, rfl⟩
 rw [← hbk] at h8 h9 ⊢
 clear hbk
 obtain ⟨a, c, rfl, hnc, hac⟩ := key
 go_enter Tryz.func252, Tryz.ntmps252
 go_wp2_with (at_builtin; refine Lib.wpList_append_run _ rfl _ _ _ _ rfl _ _ rfl rfl _ _ h2 ?_)
 all_goals
  go_ret
  exact ⟨v', rfl, h3, h4, h5, h6, h7, h8, fun b hb => (h9 b hb).imp id (fun e => by omega)⟩
theorem run_copyK {P : Program} (w : World) (dT sT ty elem : TypeId) (z g o dLen dCap : Nat) (a : Addr) (sLen sCap : Nat) (cur : Array Value) (t : TypeId) (cs : List Value)
 (hu : P.underlying dT = some (.slice elem)) (hs : (P.info? elem).map (·.size) = some z) (hg : w.heap[g]? = some (.cells cur t (0, 0))) (hn : cs.length = Nat.min sLen dLen * z)
 (hsrc : CellsAt w a cs) (hfit : o + cs.length ≤ cur.size) (h1 : ∀ v ∈ cs, v.oneCell' = true) :
 (Builtin.copy_ #[dT, sT] ty #[.slice (some ⟨g, o, none⟩) dLen dCap, .slice (some a) sLen sCap]).run P w =
   .ok (goInt (Nat.min sLen dLen)) (w.setRow g (cur.toList.take o ++ cs ++ cur.toList.drop (o + cs.length)).toArray) := by
 have hl := run_loadCells_list (P := P) w a cs hsrc
 have hst := run_storeCells_at P g o t cs 0 cur w hg (by simpa using hfit) h1
 cases hq : P.info? elem with
 | none => simp [hq] at hs
 | some i =>
   have hi : i.size = z := by simpa [hq] using hs
   simp [Builtin.copy_, run_underlying hu, Builtin.lenOf, Builtin.firstCells, sizeOf, typeInfo, hq, hi, ← hn, hl, hst]
theorem ins_shift (w : World) (g n c i g1 c1 : Nat) (cur cur1 : Array Value) (us us1 : List Value) (hi : i < n) (hcap : c ≤ 9223372036854775807) (hroom : n + 1 ≤ c) (hgg : g1 ≠ g)
 (hg : w.heap[g]? = some (.cells cur 115 (0, 0))) (hg1 : w.heap[g1]? = some (.cells cur1 115 (0, 0))) (hsz : cur.size = c * 2) (hus : cur.toList.take (n * 2) = us) (hc1 : CellsAt w ⟨g1, 0, none⟩ us1) (hl1 : us1.length = 2) (h0 : ∀ u ∈ us, u.oneCell' = true) (h1 : ∀ u ∈ us1, u.oneCell' = true) :
 Calls Tryz.prog 252 #[.slice (some ⟨g, 0, none⟩) n c, .int .i64 i, .slice (some ⟨g1, 0, none⟩) 1 c1] w (InsQ (some g) (n + 1) (us.take (i * 2) ++ (us1 ++ us.drop (i * 2))) w) := by
 have hlc : cur.toList.length = c * 2 := by simpa using hsz
 have hlu : us.length = n * 2 := by rw [← hus, List.length_take, hlc]; omega
 have hov : ∀ lb cb, (callFunc 268 #[.slice (some ⟨g1, 0, none⟩) 1 c1, .slice (some ⟨g, (i + 1) * 2, none⟩) lb cb]).run Tryz.prog w = .ok (.value (.bool false)) w := fun lb cb => by
  rw [run_callFunc_extern Tryz.func268 (by kernel_rfl) (by kernel_rfl) (by kernel_rfl) (e := Extern.SlicesOverlaps.overlaps #[24, 24] #[4]) (by kernel_rfl),
   Lib.run_overlaps_apart w 24 4 115 Tryz.underlying24 2 Tryz.sizeOf115 ⟨g1, 0, none⟩ ⟨g, (i + 1) * 2, none⟩ 1 c1 lb cb hgg 115 115 cur1.size cur.size (by simp [World.shape?, hg1]) (by simp [World.shape?, hg]) (by omega) (by simp [World.frozen?, hg1]) (by simp [World.frozen?, hg1])]
  rfl
 have hz2 : ¬ ((i : Int) = (n : Int)) := by omega
 have hz3 : ¬ ((c : Int) < (n : Int) + 1) := by omega
 have hb1 : (0 : Int) ≤ (i : Int) + 1 := by omega
 have hw1 : IntKind.i64.wrap ((i : Int) + 1) = (i : Int) + 1 := by rw [IntKind.wrap_i64]; omega
 have hw2 : IntKind.i64.wrap ((n : Int) + 1) = (n : Int) + 1 := by rw [IntKind.wrap_i64]; omega
 have hin : i ≤ n := by omega
 have htn : ((i : Int) + 1).toNat = i + 1 := by omega
 have htn2 : ((n : Int) + 1).toNat = n + 1 := by omega
 have hb2 : ¬ (c = i + 1) := by omega
 have hb3 : (i : Int) ≤ (n : Int) + 1 := by omega
 have hb4 : ¬ (c = i) := by omega
 have hb5 : (n : Int) + 1 ≤ (c : Int) := by omega
 have hb6 : (i : Int) + 1 ≤ (n : Int) + 1 := by omega
 have hdl : (us.drop (i * 2)).length = (n - i) * 2 := by rw [List.length_drop, hlu]; omega
 obtain ⟨cur2, hcur2⟩ : ∃ cur2 : Array Value, cur2 = (cur.toList.take ((i + 1) * 2) ++ us.drop (i * 2) ++ cur.toList.drop ((i + 1) * 2 + (us.drop (i * 2)).length)).toArray := ⟨_, rfl⟩
 have hcat : CellsAt w ⟨g, 0, none⟩ cur.toList := fun j u hj => by
  have ha : (⟨g, 0, none⟩ : Addr).add j = ⟨g, j, none⟩ := by unfold Addr.add; split <;> simp_all
  rw [ha]
  simp [World.cell?, hg]
  simpa using hj
 have hcs : CellsAt w.drew ⟨g, i * 2, none⟩ (us.drop (i * 2)) := fun j u hj => by
  have h2 : cur.toList[i * 2 + j]? = some u := by
   rw [← hus, List.getElem?_drop, List.getElem?_take] at hj
   split at hj
   · exact hj
   · cases hj
  have h3 := hcat _ _ h2
  have ha : (⟨g, 0, none⟩ : Addr).add (i * 2 + j) = (⟨g, i * 2, none⟩ : Addr).add j := by
   rw [← addr_add]
   congr 1
   unfold Addr.add; split <;> simp_all
  rw [← ha]
  exact h3
 have hcp1 : ∀ ty dc sc, (Builtin.copy_ #[24, 24] ty #[.slice (some ⟨g, (i + 1) * 2, none⟩) (n - i) dc, .slice (some ⟨g, i * 2, none⟩) (n + 1 - i) sc]).run Tryz.prog w.drew = .ok (goInt (Nat.min (n + 1 - i) (n - i))) (w.drew.setRow g cur2) := fun ty dc sc => by
  rw [hcur2]
  exact run_copyK w.drew 24 24 ty 115 2 g ((i + 1) * 2) (n - i) dc ⟨g, i * 2, none⟩ (n + 1 - i) sc cur 115 (us.drop (i * 2)) Tryz.underlying24 (by kernel_rfl) hg
   (by rw [hdl, show Nat.min (n + 1 - i) (n - i) = n - i by simp only [Nat.min_def]; split <;> omega]) hcs (by rw [hdl, hsz]; omega) (fun v hv => h0 v (List.mem_of_mem_drop hv))
 obtain ⟨cur3, hcur3⟩ : ∃ cur3 : Array Value, cur3 = (cur2.toList.take (i * 2) ++ us1 ++ cur2.toList.drop (i * 2 + us1.length)).toArray := ⟨_, rfl⟩
 have hl2 : cur2.size = c * 2 := by
  rw [hcur2]; simp only [List.size_toArray, List.length_append, List.length_take, List.length_drop, hlc, hlu]; omega
 have hs3 : cur3.size = c * 2 := by
  have : cur2.toList.length = c * 2 := by simpa using hl2
  rw [hcur3]; simp only [List.size_toArray, List.length_append, List.length_take, List.length_drop, this, hl1]; omega
 have hcp2 : ∀ (W : World), W.heap = (w.drew.setRow g cur2).heap → ∀ ty dc, (Builtin.copy_ #[24, 24] ty #[.slice (some ⟨g, i * 2, none⟩) (n + 1 - i) dc, .slice (some ⟨g1, 0, none⟩) 1 c1]).run Tryz.prog W = .ok (goInt (Nat.min 1 (n + 1 - i))) (W.setRow g cur3) := fun W hW ty dc => by
  rw [hcur3]
  have hWg : W.heap[g]? = some (.cells cur2 115 (0, 0)) := by rw [hW]; exact setRow_heap w.drew g cur cur2 115 (0, 0) hg
  refine run_copyK W 24 24 ty 115 2 g (i * 2) (n + 1 - i) dc ⟨g1, 0, none⟩ 1 c1 cur2 115 us1 Tryz.underlying24 (by kernel_rfl) hWg
   (by rw [hl1, show Nat.min 1 (n + 1 - i) = 1 by simp only [Nat.min_def]; split <;> omega]) (fun j u hj => ?_) (by rw [hl1, hl2]; omega) h1
  have h2 := hc1 j u hj
  have hb : ((⟨g1, 0, none⟩ : Addr).add j).block = g1 := addr_block _ _
  rw [World.cell?_of_block (w := w)]
  · exact h2
  · rw [hb, hW]
    exact setRow_other w.drew g g1 cur2 hgg
 have hX : (us.take (i * 2) ++ (us1 ++ us.drop (i * 2))).length = (n + 1) * 2 := by
  simp only [List.length_append, List.length_take, List.length_drop, hl1, hlu]; omega
 have hc3 : cur3.toList = (us.take (i * 2) ++ (us1 ++ us.drop (i * 2))) ++ cur.toList.drop ((n + 1) * 2) := by
  have e1 : cur2.toList.take (i * 2) = us.take (i * 2) := by
   rw [hcur2, ← hus]
   simp only [List.append_assoc]
   rw [List.take_append_of_le_length (by rw [List.length_take, hlc]; omega), List.take_take, List.take_take]
   congr 1; omega
  have e2 : cur2.toList.drop (i * 2 + 2) = us.drop (i * 2) ++ cur.toList.drop ((n + 1) * 2) := by
   rw [hcur2]
   simp only [List.append_assoc]
   rw [List.drop_append_of_le_length (by rw [List.length_take, hlc]; omega), List.drop_eq_nil_of_le (by rw [List.length_take]; omega), List.nil_append, hdl]
   congr 2; omega
  rw [hcur3, hl1]
  simp only
  rw [e1, e2]
  simp only [List.append_assoc]
 clear hcur2 hcur3
 go_enter Tryz.func252, Tryz.ntmps252
 go_wp2_with (simp only [hov])
 have mixed := hM
 go_region_law_o (refine step_copy_runI rfl _ _ 24 24 rfl _ _ (by simp [Act.eval, Act.put]) (by simp [Act.eval, Act.put]) (hcp1 _ _ _) ?_)
 go_wp2_with (at_builtin; refine wpList_copy_runI _ rfl _ _ 24 24 rfl _ _ rfl rfl (hcp2 _ rfl _ _) ?_)
 go_ret
 refine ⟨.slice (some ⟨g, 0, none⟩) (n + 1) c, rfl, ⟨hX, .inr ⟨g, c - 1, cur3, by rw [Nat.sub_add_cancel (by omega)], ?_, by omega, by simp only [maxLen]; omega, by rw [Nat.sub_add_cancel (by omega)]; exact hs3, ?_⟩⟩, rfl, rfl, rfl, ?_, fun b hb hne => ?_, fun b hb => .inl (by rw [blk_sl hb])⟩
 · exact setRow_heap (w.drew.setRow g cur2) g cur2 cur3 (etOf .pr) (0, 0) (setRow_heap w.drew g cur cur2 115 (0, 0) hg)
 · rw [hc3]
   exact List.take_left' hX
 · have e1 : ∀ (W : World) (c : Array Value), (W.setRow g c).heap.size = W.heap.size := fun W c => by simp [World.setRow]
   rw [e1, e1]; exact Nat.le_refl _
 · have hne : b ≠ g := fun e => hne (by rw [e])
   exact (setRow_other _ g b cur3 hne).trans (setRow_other w.drew g b cur2 hne)
theorem cat_cells {w : World} {g : Nat} {cur : Array Value} {t : TypeId} (hg : w.heap[g]? = some (.cells cur t (0, 0))) : CellsAt w ⟨g, 0, none⟩ cur.toList := fun j u hj => by
 have ha : (⟨g, 0, none⟩ : Addr).add j = ⟨g, j, none⟩ := by unfold Addr.add; split <;> simp_all
 rw [ha]
 simp [World.cell?, hg]
 simpa using hj
theorem at_off (g o : Nat) : (⟨g, o, none⟩ : Addr) = (⟨g, 0, none⟩ : Addr).add o := by unfold Addr.add; split <;> simp_all
theorem cat_drop {w : World} {g : Nat} {l : List Value} (h : CellsAt w ⟨g, 0, none⟩ l) (o : Nat) : CellsAt w ⟨g, o, none⟩ (l.drop o) := by
 rw [at_off g o]; exact h.drop o
theorem ins_grow (w : World) (g n c i g1 c1 : Nat) (cur cur1 : Array Value) (us us1 : List Value) (hi : i < n) (hcap : c ≤ 9223372036854775807) (hnc : n ≤ c) (hroom : c < n + 1) (hbig : (n + 1) * 16 ≤ 140737488355328)
 (hg : w.heap[g]? = some (.cells cur 115 (0, 0))) (hg1 : w.heap[g1]? = some (.cells cur1 115 (0, 0))) (hsz : cur.size = c * 2) (hus : cur.toList.take (n * 2) = us) (hc1 : CellsAt w ⟨g1, 0, none⟩ us1) (hl1 : us1.length = 2) (h0 : ∀ u ∈ us, u.oneCell' = true) (h1 : ∀ u ∈ us1, u.oneCell' = true) :
 Calls Tryz.prog 252 #[.slice (some ⟨g, 0, none⟩) n c, .int .i64 i, .slice (some ⟨g1, 0, none⟩) 1 c1] w (InsQ (some g) (n + 1) (us.take (i * 2) ++ (us1 ++ us.drop (i * 2))) w) := by
 have hlc : cur.toList.length = c * 2 := by simpa using hsz
 have hlu : us.length = n * 2 := by rw [← hus, List.length_take, hlc]; omega
 have hgw : g < w.heap.size := (Array.getElem?_eq_some_iff.1 hg).1
 have hgw1 : g1 < w.heap.size := (Array.getElem?_eq_some_iff.1 hg1).1
 have hcu : CellsAt w ⟨g, 0, none⟩ us := by rw [← hus]; exact (cat_cells hg).take _
 obtain ⟨y, z, hy, hys, hyb, hyz, _, hzs⟩ := (hT 115 _ rfl : TOk Tryz.prog 115 _).inf
 have hys2 : y.size = 2 := hys
 have hyb2 : y.bytes = 16 := hyb
 have hzs2 : z.cells.size = 2 := hzs
 have hik : i + (n + 1 - i) = n + 1 := by omega
 have hlt : (us.take (i * 2)).length = i * 2 := by rw [List.length_take, hlu]; omega
 have hold : (Builtin.firstCells y.size i (.slice (some ⟨g, 0, none⟩) i c)).run Tryz.prog w.drew = .ok (us.take (i * 2)).toArray w.drew :=
  run_firstCells_some w.drew y.size i ⟨g, 0, none⟩ i c (us.take (i * 2)) (by rw [hlt, hys2]) (fun j v hj => hcu j v (by
   rw [List.getElem?_take] at hj
   split at hj
   · exact hj
   · cases hj))
 obtain ⟨G, hG⟩ : ∃ G, G = grownCap w (n + 1) c 115 := ⟨_, rfl⟩
 obtain ⟨ROW, hROW⟩ : ∃ ROW : Array Value, ROW = (us.take (i * 2)).toArray ++ Builtin.zeroCells z.cells (n + 1 - i) ++ Builtin.zeroCells z.cells (G - (n + 1)) := ⟨_, rfl⟩
 have hrz : ∀ ty, (Builtin.append_ #[24, 3] ty #[.slice (some ⟨g, 0, none⟩) i c, .int .i64 ((n : Int) + 1 - (i : Int))]).run Tryz.prog w =
  .ok (.slice (some ⟨w.heap.size, 0, none⟩) (n + 1) G) (w.drew.alloc (.cells ROW 115)) := fun ty => by
  have h := Lib.run_append_grow_zeros w 24 3 ty 115 y z .i64 .i64 Tryz.underlying24 Tryz.underlying3 hy hyz (some ⟨g, 0, none⟩) i c (us.take (i * 2)) hold (n + 1 - i) (by omega) (by omega) (by omega) (by omega) (by rw [hyb2]; omega) (by rw [hyb2, hik]; exact growslice_fits hroom hbig)
  rw [hik, ← hG, ← hROW] at h
  rw [show (n : Int) + 1 - (i : Int) = ((n + 1 - i : Nat) : Int) by omega]
  exact h
 have hGn : n + 1 ≤ G := by rw [hG]; exact grownCap_ge w _ _ _
 have hGm : G ≤ maxLen := by rw [hG]; exact grownCap_le_maxLen w (n + 1) c 115 (by simp only [maxLen]; omega)
 have hRs : ROW.size = G * 2 := by
  rw [hROW]; simp only [Array.size_append, List.size_toArray, size_zeroCells, hzs2, hlt]; omega
 have hRt : ROW.toList.take (i * 2) = us.take (i * 2) := by
  rw [hROW]
  simp only [Array.toList_append, List.append_assoc]
  exact List.take_left' hlt
 clear hROW hG hold
 have hRl : ROW.toList.length = G * 2 := by simpa using hRs
 obtain ⟨N, hN⟩ : ∃ N, N = w.heap.size := ⟨_, rfl⟩
 have hNew : (w.drew.alloc (.cells ROW 115)).heap[N]? = some (.cells ROW 115 (0, 0)) := by rw [hN]; exact heap_alloc_new w.drew _
 have hOld : ∀ b, b < N → (w.drew.alloc (.cells ROW 115)).heap[b]? = w.heap[b]? := fun b hb => alloc_old w.drew _ b (by rw [hN] at hb; exact hb)
 have hAs : (w.drew.alloc (.cells ROW 115)).heap.size = N + 1 := by rw [hN]; simp [World.alloc]
 rw [← hN] at hrz hgw hgw1
 obtain ⟨row2, hrow2⟩ : ∃ row2 : Array Value, row2 = (ROW.toList.take (i * 2) ++ us1 ++ ROW.toList.drop (i * 2 + us1.length)).toArray := ⟨_, rfl⟩
 have hs2 : row2.size = G * 2 := by
  rw [hrow2]; simp only [List.size_toArray, List.length_append, List.length_take, List.length_drop, hRl, hl1]; omega
 have hdl : (us.drop (i * 2)).length = (n - i) * 2 := by rw [List.length_drop, hlu]; omega
 obtain ⟨row3, hrow3⟩ : ∃ row3 : Array Value, row3 = (row2.toList.take ((i + 1) * 2) ++ us.drop (i * 2) ++ row2.toList.drop ((i + 1) * 2 + (us.drop (i * 2)).length)).toArray := ⟨_, rfl⟩
 have hl2 : row2.toList.length = G * 2 := by simpa using hs2
 have hs3 : row3.size = G * 2 := by
  rw [hrow3]; simp only [List.size_toArray, List.length_append, List.length_take, List.length_drop, hl2, hlu]; omega
 have hcpA : ∀ (W : World), W.heap = (w.drew.alloc (.cells ROW 115)).heap → ∀ ty dc, (Builtin.copy_ #[24, 24] ty #[.slice (some ⟨N, i * 2, none⟩) (n + 1 - i) dc, .slice (some ⟨g1, 0, none⟩) 1 c1]).run Tryz.prog W = .ok (goInt (Nat.min 1 (n + 1 - i))) (W.setRow N row2) := fun W hW ty dc => by
  rw [hrow2]
  refine run_copyK W 24 24 ty 115 2 N (i * 2) (n + 1 - i) dc ⟨g1, 0, none⟩ 1 c1 ROW 115 us1 Tryz.underlying24 (by kernel_rfl) (by rw [hW]; exact hNew)
   (by rw [hl1, show Nat.min 1 (n + 1 - i) = 1 by simp only [Nat.min_def]; split <;> omega]) (hc1.move (F := fun b => b = g1) (fun b hb => by rw [hW, hb]; exact hOld g1 hgw1) rfl) (by rw [hl1, hRs]; omega) h1
 have hcpB : ∀ (W : World), W.heap = ((w.drew.alloc (.cells ROW 115)).setRow N row2).heap → ∀ ty dc sc, (Builtin.copy_ #[24, 24] ty #[.slice (some ⟨N, (i + 1) * 2, none⟩) (n - i) dc, .slice (some ⟨g, i * 2, none⟩) (n - i) sc]).run Tryz.prog W = .ok (goInt (Nat.min (n - i) (n - i))) (W.setRow N row3) := fun W hW ty dc sc => by
  rw [hrow3]
  refine run_copyK W 24 24 ty 115 2 N ((i + 1) * 2) (n - i) dc ⟨g, i * 2, none⟩ (n - i) sc row2 115 (us.drop (i * 2)) Tryz.underlying24 (by kernel_rfl) (by rw [hW]; exact setRow_heap _ N ROW row2 115 (0, 0) hNew)
   (by rw [hdl, show Nat.min (n - i) (n - i) = n - i by simp only [Nat.min_def]; split <;> omega]) ((cat_drop hcu (i * 2)).move (F := fun b => b = g) (fun b hb => by rw [hW, hb]; exact (setRow_other _ N g row2 (by omega)).trans (hOld g hgw)) rfl) (by rw [hdl, hs2]; omega) (fun v hv => h0 v (List.mem_of_mem_drop hv))
 have hX : (us.take (i * 2) ++ (us1 ++ us.drop (i * 2))).length = (n + 1) * 2 := by
  simp only [List.length_append, List.length_take, List.length_drop, hl1, hlu]; omega
 have hc3 : ∃ r, row3.toList = (us.take (i * 2) ++ (us1 ++ us.drop (i * 2))) ++ r := by
  have e1 : row2.toList.take ((i + 1) * 2) = us.take (i * 2) ++ us1 := by
   rw [hrow2, hRt]
   simp only
   exact List.take_left' (by rw [List.length_append, hlt, hl1]; omega)
  refine ⟨row2.toList.drop ((i + 1) * 2 + (us.drop (i * 2)).length), ?_⟩
  rw [hrow3]
  simp only
  rw [e1]
  simp only [List.append_assoc]
 have hz2 : ¬ ((i : Int) = (n : Int)) := by omega
 have hz3 : (c : Int) < (n : Int) + 1 := by omega
 have hb1 : (0 : Int) ≤ (i : Int) + 1 := by omega
 have hw1 : IntKind.i64.wrap ((i : Int) + 1) = (i : Int) + 1 := by rw [IntKind.wrap_i64]; omega
 have hw2 : IntKind.i64.wrap ((n : Int) + 1) = (n : Int) + 1 := by rw [IntKind.wrap_i64]; omega
 have hw3 : IntKind.i64.wrap ((n : Int) + 1 - (i : Int)) = (n : Int) + 1 - (i : Int) := by rw [IntKind.wrap_i64]; omega
 have hin : i ≤ n := by omega
 have htn : ((i : Int) + 1).toNat = i + 1 := by omega
 have hG63 : G ≤ 9223372036854775807 := by simp only [maxLen] at hGm; omega
 have hb2 : ¬ (G = i + 1) := by omega
 have hb3 : (i : Int) ≤ (n : Int) + 1 := by omega
 have hb4 : ¬ (c = i) := by omega
 have hb5 : ¬ (G = i) := by omega
 have hb6 : (i : Int) + 1 ≤ (n : Int) + 1 := by omega
 have hb7 : (i : Int) ≤ (n : Int) := by omega
 have mixed := hM
 have hE1 : ((w.alloc (.cells ROW 115)).drew).heap = (w.drew.alloc (.cells ROW 115)).heap := rfl
 have hE2 : (((w.alloc (.cells ROW 115)).drew.setRow N row2).drew).heap = ((w.drew.alloc (.cells ROW 115)).setRow N row2).heap := rfl
 have hN1 : w.heap.size ≤ N := by omega
 have hN2 : N ≤ w.heap.size := by omega
 clear hrow2 hrow3 hik hN
 go_enter Tryz.func252, Tryz.ntmps252
 go_wp2_with (first
  | (at_builtin; refine Lib.wpList_append_run _ rfl _ _ _ _ rfl _ _ rfl rfl _ _ (hrz _) ?_)
  | (at_builtin; refine wpList_copy_runI _ rfl _ _ 24 24 rfl _ _ rfl rfl (hcpA _ hE1 _ _) ?_))
 go_region_law_o (refine step_copy_runI rfl _ _ 24 24 rfl (.slice (some ⟨N, (i + 1) * 2, none⟩) (n - i) (G - (i + 1))) (.slice (some ⟨g, i * 2, none⟩) (n - i) (c - i)) (by simp [Act.eval, Act.put]) (by simp [Act.eval, Act.put]) (hcpB _ hE2 3 (G - (i + 1)) (c - i)) ?_)
 go_wp2
 go_ret
 obtain ⟨r, hc3⟩ := hc3
 refine ⟨.slice (some ⟨N, 0, none⟩) (n + 1) G, rfl, ⟨hX, .inr ⟨N, G - 1, row3, by rw [Nat.sub_add_cancel (by omega)], ?_, by omega, by omega, by rw [Nat.sub_add_cancel (by omega)]; exact hs3, ?_⟩⟩, rfl, rfl, rfl, ?_, fun b hb hne => ?_, fun b hb => .inr ?_⟩
 · exact setRow_heap ((w.alloc (.cells ROW 115)).drew.setRow N row2).drew N row2 row3 115 (0, 0) (setRow_heap (w.drew.alloc (.cells ROW 115)) N ROW row2 115 (0, 0) hNew)
 · rw [hc3]
   exact List.take_left' hX
 · have e1 : ∀ (W : World) (c : Array Value), (W.setRow N c).heap.size = W.heap.size := fun W c => by simp [World.setRow]
   rw [e1]
   show w.heap.size ≤ ((w.drew.alloc (.cells ROW 115)).setRow N row2).heap.size
   rw [e1, hAs]
   omega
 · have hne : b ≠ N := by omega
   exact (setRow_other _ N b row3 hne).trans ((setRow_other (w.drew.alloc (.cells ROW 115)) N b row2 hne).trans (hOld b (by omega)))
 · rw [blk_sl hb]; show w.heap.size ≤ N; omega
end Go.Proofs.YthbpdhppelaihaaGreat