/- Maps behind messages, on either side. Conditions: none. -/
import Derived.Test.YthbpdhppelaihaaGreatIA
set_option linter.unusedVariables false
set_option linter.unusedSimpArgs false
namespace Go.Proofs.YthbpdhppelaihaaGreat
open Go.RowKit
attribute [local irreducible] Tri Weak
set_option maxRecDepth 4000
set_option maxHeartbeats 4000000
theorem take_snoc' {α : Type} (xs : List α) (d : α) {i : Nat} (h : i < xs.length) : xs.take i ++ [xs.getD i d] = xs.take (i + 1) := by
 rw [List.take_add_one, List.getD_eq_getElem?_getD, List.getElem?_eq_getElem h]; rfl
theorem snoc_c (e : Ty) (l : List (El e)) (x : El e) {cs : List C} (h : cs = cells e x) : l ++ chunk e 1 cs = l ++ [x] := by
 subst h
 show _ ++ [mkE e ((cells e x).take (szE e))] = _
 rw [List.take_of_length_le (l := cells e x) (by rw [cells_len]; exact Nat.le_refl _), mkE_cells]
theorem r_insertPr (xs : List Pr) (x : Pr) (i : Nat) (hi : i ≤ xs.length) (hb : (xs.length + 1) * 16 ≤ 140737488355328) :
 Ret Tryz.prog 252 [.rw 0, aI i, .rw 1] [(0, .row .pr xs), (1, .row .pr [x])] (.rw 2) [(0, .gone), (1, .gone), (2, .row .pr (xs.take i ++ x :: xs.drop i))] := by
 refine ⟨⟨_, Tryz.func252, rfl, rfl⟩, fun F V B w args hF hV1 hH hr hi' => ?_⟩
 have hob0 := hH.ob 0 _ rfl
 have hob1 := hH.ob 1 _ rfl
 cases hr with | cons hr0 hr =>
 cases hr with | cons hr1 hr =>
 cases hr with | cons hr2 hr =>
 cases hr
 cases hr0
 cases hr2
 cases hr1 with | c hr1 =>
 cases hr1
 have ow0 : ∀ b, blk (V 0) = some b → owns [(0, .row .pr xs), (1, .row .pr [x])] V B 0 b := fun b h => h
 have ow1 : ∀ b, blk (V 1) = some b → owns [(0, .row .pr xs), (1, .row .pr [x])] V B 1 b := fun b h => h
 generalize hv0 : V 0 = v at *
 generalize hv1 : V 1 = vv at *
 cases hob0 with | row _ _ us ho hrr hbb =>
 cases hob1 with | row _ _ us1 ho1 hrr1 hbb1 =>
 rw [hv0] at ho
 rw [hv1] at ho1
 have hl1 : us1.length = 2 := by have := ho1.1; simpa using this
 have hone := hrr.one
 have hone1 := hrr1.one
 have hQ : Calls Tryz.prog 252 #[v, .int .i64 i, vv] w (InsQ (blk v) (xs.length + 1) (us.take (i * 2) ++ (us1 ++ us.drop (i * 2))) w) := by
  rcases ho1.2 with ⟨a, _, h⟩ | ⟨g1, c1, cur1, rfl, hg1, _, _, hs1, ht1⟩
  · simp at h
  have hc1 : CellsAt w ⟨g1, 0, none⟩ us1 := by rw [← ht1]; exact (cat_cells hg1).take _
  rcases Nat.lt_or_ge i xs.length with hlt | hge
  · rcases ho.2 with ⟨a, _, h⟩ | ⟨g, cap, cur, rfl, hg, hn, hcm, hsz, ht⟩
    · omega
    · have hgg : g1 ≠ g := fun e => by
       subst e
       have := hH.apart 0 1 g1 (ow0 _ rfl) (ow1 _ rfl)
       cases this
      simp only [maxLen] at hcm
      rcases Nat.lt_or_ge (cap + 1) (xs.length + 1) with hr | hr
      · exact ins_grow w g xs.length (cap + 1) i g1 _ cur cur1 us us1 hlt (by omega) hn hr hb hg hg1 hsz ht hc1 hl1 hone hone1
      · exact ins_shift w g xs.length (cap + 1) i g1 _ cur cur1 us us1 hlt (by omega) hr hgg hg hg1 hsz ht hc1 hl1 hone hone1
  · obtain rfl : i = xs.length := by omega
    have hul : us.length = xs.length * 2 := ho.1
    rw [List.take_of_length_le (by omega), List.drop_eq_nil_of_le (by omega), List.append_nil]
    exact ins_end w v xs.length us us1 ho g1 _ hc1 hl1 hone1 hb
 refine hQ.mono fun e w' ⟨v', he, hrow, hos, htp, hout, hsz, hold, hblk⟩ => ?_
 have hFm : ∀ b, F b → w'.heap[b]? = w.heap[b]? := fun b hFb => hold b (hF b hFb) fun h => hH.nF 0 b (ow0 b h) hFb
 have hv' : v'.oneCell' = true := by
  rcases hrow.2 with ⟨a, rfl, _⟩ | ⟨g, cap, cur, rfl, _⟩ <;> rfl
 have h2 : ∀ id b, owns [(0, .gone), (1, .gone), (2, .row .pr (xs.take i ++ x :: xs.drop i))] (updV V 2 v') B id b → id = 2 ∧ blk v' = some b := fun id b h => by
  match id, h with
  | 0, h => exact h.elim
  | 1, h => exact h.elim
  | 2, h => exact ⟨rfl, h⟩
  | n + 3, h => exact h.elim
 have hlen : (xs.take i ++ x :: xs.drop i).length = xs.length + 1 := by simp; omega
 have hcells : RepL F w' (us.take (i * 2) ++ (us1 ++ us.drop (i * 2))) ((xs.take i ++ x :: xs.drop i).flatMap (cells .pr)) := by
  rw [List.flatMap_append, List.flatMap_cons, list_take_flat .pr, list_drop_flat .pr]
  have e1 : RepL F w us1 (cells .pr x) := by
   have := hrr1
   rw [List.flatMap_cons] at this
   simpa using this
  exact ((hrr.take (i * 2)).append (e1.append (hrr.drop (i * 2)))).move (fun _ h => h) hFm
 refine ⟨v', F, updV V 2 v', B, he, ?_, by simp [A.all, Def, get], ⟨fun id o hg => ?_, fun id o hg => ?_, fun id b h => ?_, fun id b h => ?_, fun id id' b h h' => ?_⟩, fun id => ?_, fun id hid => ?_, fun _ h => h, fun b h => .inl h, fun b h => Nat.lt_of_lt_of_le (hF b h) hsz, fun id b h => ?_, ⟨hos, htp, hout, hsz, fun b hb hn => hold b hb fun h => hn ⟨0, ow0 b h⟩⟩⟩
 · have := RepA.rw (F := F) (V := updV V 2 v') (w := w') 2
   simpa [updV] using this
 · match id, hg with
   | 0, hg => cases hg; exact .gone
   | 1, hg => cases hg; exact .gone
   | 2, hg =>
     cases hg
     exact .row .pr _ _ (by rw [hlen]; simpa [updV] using hrow) hcells (by rw [hlen]; exact hb)
   | n + 3, hg => cases hg
 · match id, hg with
   | 0, hg => cases hg; trivial
   | 1, hg => cases hg; trivial
   | 2, hg => cases hg; trivial
   | n + 3, hg => cases hg
 · obtain ⟨_, hbl⟩ := h2 id b h
   rcases hblk b hbl with h | h
   · exact Nat.lt_of_lt_of_le (hH.lt 0 b (ow0 b h)) hsz
   · obtain ⟨j, hj⟩ : ∃ j, w'.heap[b]? = some j := by
      rcases hrow.2 with ⟨a, rfl, hn⟩ | ⟨g, cap, cur, rfl, hg, _⟩
      · omega
      · rw [blk_sl hbl]; exact ⟨_, hg⟩
     exact (Array.getElem?_eq_some_iff.1 hj).1
 · obtain ⟨_, h⟩ := h2 id b h
   intro hFb
   rcases hblk b h with h | h
   · exact hH.nF 0 b (ow0 b h) hFb
   · have := hF b hFb; omega
 · exact ((h2 id b h).1).trans (h2 id' b h').1.symm
 · unfold updV; split
   · exact hv'
   · exact hV1 id
 · match id, hid with
   | 0, _ => exact ⟨rfl, rfl⟩
   | 1, _ => exact ⟨rfl, rfl⟩
   | n + 2, h => cases h
 · obtain ⟨_, h⟩ := h2 id b h
   rcases hblk b h with h | h
   · exact .inr ⟨0, ow0 b h⟩
   · exact .inl h
theorem r_changed (xs : List Pr) (m : Ms) (hx : MapP xs) (hm : msgOk m = true) (hb : xs.length ≤ 1099511627776) : Ret Tryz.prog 210 [.rw 0, agE .ms m] [(0, .row .pr xs)] (.rw 1) [(0, .gone), (1, .row .pr (doF xs m))] := by
 obtain ⟨hop, hk, hv⟩ := msg_rng hm
 obtain ⟨r, hr⟩ : ∃ r, r = posF m.k xs := ⟨_, rfl⟩
 have hpos := pos_ok (key := m.k) hx.1
 have hF := fun h1 h2 => pos_found (key := m.k) (v := m.v) hx.1 h1 h2
 have hF3 := fun h1 h2 => pos_found (key := m.k) (v := lim (getV m.k xs + m.v)) hx.1 h1 h2
 have hN := pos_none (key := m.k) (v := m.v) hx.1
 have hN3 := pos_none (key := m.k) (v := lim (getV m.k xs + m.v)) hx.1
 rw [← hr] at hpos hF hF3 hN hN3
 clear hr
 have hrl := hpos.1
 have hS := r_search xs m.k (srt_inc hx.1) (fun i hi => (hx.2 _ (getD_mem (dflt .pr) hi)).1) hk r hpos
 have hw : IntKind.i64.wrap ((r : Int) + 1) = ((r + 1 : Nat) : Int) := by rw [wrap_i64 (by omega) (by omega)]; omega
 have hD : r < xs.length → Ret Tryz.prog 251 [.rw 0, aI r, aI (IntKind.i64.wrap ((r : Int) + 1))] [(0, .row .pr xs)] (.rw 1) [(0, .gone), (1, .row .pr (xs.take r ++ xs.drop (r + 1)))] := fun h => by rw [hw]; exact r_deletePr xs r h
 have hvr : r < xs.length → -1000000000 ≤ (xs.getD r (dflt .pr)).v ∧ (xs.getD r (dflt .pr)).v ≤ 1000000000 := fun h => (hx.2 _ (getD_mem (dflt .pr) h)).2
 have d4 : m.op = 4 → doF xs m = xs := fun h => by unfold doF; rw [if_neg (by omega), if_neg (by omega), if_neg (by omega)]
 have d2 : m.op = 2 → doF xs m = delF m.k xs := fun h => by unfold doF; rw [if_neg (by omega), if_pos (by omega)]
 have d3 : m.op = 3 → doF xs m = insF m.k (lim (getV m.k xs + m.v)) xs := fun h => by unfold doF; rw [if_neg (by omega), if_neg (by omega), if_pos (by omega)]
 have d1 : m.op = 1 → doF xs m = insF m.k m.v xs := fun h => by unfold doF; rw [if_pos (by omega)]
 refine ret_vc hT hM Tryz.func210 rfl rfl (m := 1) (nx := 1) rfl (Nat.le_of_ble_eq_true rfl) ?_
 (repeat' ((conv => whnf); first | (apply nx; intro s) | (apply rg; intro s k) | ((first | refine cas (fun h => ?_) (fun h => ?_) | refine may (fun h => ?_) ?_) <;> (try simp [-List.getD_eq_getElem?_getD] at h)) | (refine giv fun hg => ?_; (try simp only [byE] at hg)) | refine need (by first | kernel_rfl | omega | (simp; done) | (simp; omega)) ?_ | (refine call_b (hS) ?_ ?_ ?_ ?_ ?_ ?_; iterate 5 (focus (repeat' first | exact trivial | refine ⟨?_, ?_⟩ | exact rfl | exact oR | exact orB rfl | exact oL); (first | done | fail))) | (refine call_g [0] (hD (by omega)) rfl rfl rfl ?_ ?_ ?_ ?_ ?_; iterate 4 (focus (repeat' first | exact trivial | refine ⟨?_, ?_⟩ | exact rfl | exact oR | exact orB rfl | exact oL); (first | done | fail))) | (refine call_p (r_limited _) rfl (by (repeat' first | exact trivial | refine ⟨?_, ?_⟩ | exact rfl | exact oR | exact orB rfl | exact oL); (first | done | fail)) ?_) | (refine need (by simp [chunk]; omega) ?_) | (refine call_g [0,2] (r_insertPr xs ⟨m.k, m.v⟩ r hrl (by omega)) rfl rfl rfl ?_ ?_ ?_ ?_ ?_; iterate 4 (focus (repeat' first | exact trivial | refine ⟨?_, ?_⟩ | exact rfl | exact oR | exact orB rfl | exact oL); (first | done | fail))) | (exfalso; omega) | ((first | refine fin_au rfl ?_ | apply WkF.au); (conv => whnf); ((repeat' first | exact trivial | refine ⟨?_, ?_⟩ | exact rfl | exact oR | exact orB rfl | exact oL) <;> (try conv => whnf) <;> (try first | apply cgB | apply cgI | apply cgS | apply cgR | apply cgD | refine cgL ?_) <;> (try (rw [wrap_i64 (by omega) (by omega)]; first | rfl | omega)))) | apply altl))
 · exact (d4 (by omega)).symm
 · rw [d2 (by omega), (hF (by omega) (by omega)).2.1]
 · rw [d2 (by omega), (hN (by omega)).2.1]
 · have h1 := hF3 (by omega) (by omega)
   have h2 := hvr (by omega)
   rw [d3 (by omega), h1.1, h1.2.2]
   show xs.set r ⟨(xs.getD r (dflt .pr)).k, lim (IntKind.i64.wrap ((xs.getD r (dflt .pr)).v + m.v))⟩ = _
   rw [wrap_i64 (by omega) (by omega), h.2]
 · have h1 := hN3 (by omega)
   rw [d3 (by omega), h1.1, h1.2.2, Int.zero_add, lim_id hv]
 · have h1 := hF (by omega) (by omega)
   rw [d1 (by omega), h1.1]
   show xs.set r ⟨(xs.getD r (dflt .pr)).k, m.v⟩ = _
   rw [h.2]
 · rw [d1 (by omega), (hN (by omega)).1]
theorem r_specMapGet (xs : List Pr) (key : Int) : Ret Tryz.prog 254 [aL .pr xs, aI key] [] (.tp [aI (getV key xs), .c (.bool (xs.any (fun x => decide (x.k = key))))]) [] := by
 refine ret_vc hT hM Tryz.func254 rfl rfl (m := 0) (nx := 0) rfl (Nat.le_of_ble_eq_true rfl) ?_
 (repeat ((conv => whnf); first | (apply nx; intro s) | (apply rg; intro s k))); (conv => whnf)
 refine Tri.loop (fun i : Nat => ⟨[(0, aL .pr xs), (1, aI key), (6, aI i)], [], 0⟩) (fun i => i ≤ xs.length ∧ getV key xs = getV key (xs.drop i) ∧ xs.any (fun x => decide (x.k = key)) = (xs.drop i).any (fun x => decide (x.k = key))) (fun i => xs.length - i) 0 ⟨Nat.zero_le _, rfl, rfl⟩ ?_ ?_
 · (apply WkF.au; (conv => whnf); ((repeat' first | exact trivial | refine ⟨?_, ?_⟩ | exact rfl | exact oR | exact orB rfl | exact oL) <;> (try conv => whnf) <;> (try first | apply cgB | apply cgI | apply cgS | apply cgR | apply cgD | refine cgL ?_) <;> (try (rw [wrap_i64 (by omega) (by omega)]; first | rfl | omega))))
 · intro i ⟨hi, h1, h2⟩
   have hst : i < xs.length → xs.drop i = xs.getD i (dflt .pr) :: xs.drop (i + 1) := fun h => drop_getD h (dflt .pr)
   have hen : xs.length ≤ i → xs.drop i = [] := fun h => List.drop_eq_nil_of_le h
   have hg1 : i < xs.length → getV key (xs.drop i) = if (xs.getD i (dflt .pr)).k = key then (xs.getD i (dflt .pr)).v else getV key (xs.drop (i + 1)) := fun h => by rw [hst h]; rfl
   have hg2 : i < xs.length → (xs.drop i).any (fun x => decide (x.k = key)) = (decide ((xs.getD i (dflt .pr)).k = key) || (xs.drop (i + 1)).any (fun x => decide (x.k = key))) := fun h => by rw [hst h]; rfl
   refine vc_sound hT hM _ _ _ ?_
   (repeat' ((conv => whnf); first | (apply nx; intro s) | (apply rg; intro s k) | ((first | refine cas (fun h => ?_) (fun h => ?_) | refine may (fun h => ?_) ?_) <;> (try simp [-List.getD_eq_getElem?_getD] at h)) | (refine giv fun hg => ?_; (try simp only [byE] at hg)) | refine need (by first | kernel_rfl | omega | (simp; done) | (simp; omega)) ?_ | (refine ⟨(i + 1 : Nat), ?_, ?_, ?_⟩) | (exfalso; omega) | ((first | refine fin_au rfl ?_ | apply WkF.au); (conv => whnf); ((repeat' first | exact trivial | refine ⟨?_, ?_⟩ | exact rfl | exact oR | exact orB rfl | exact oL) <;> (try conv => whnf) <;> (try first | apply cgB | apply cgI | apply cgS | apply cgR | apply cgD | refine cgL ?_) <;> (try (rw [wrap_i64 (by omega) (by omega)]; first | rfl | omega)))) | apply altl))
   all_goals first
    | omega
    | (rw [h1, hg1 (by omega), if_pos (by omega)]; rfl)
    | (rw [h2, hg2 (by omega), decide_eq_true (by omega)]; rfl)
    | (rw [h1, hen (by omega)]; rfl)
    | (rw [h2, hen (by omega)]; rfl)
    | (refine ⟨by omega, ?_, ?_⟩
       · rw [h1, hg1 (by omega), if_neg (by omega)]
       · rw [h2, hg2 (by omega), decide_eq_false (by omega)]; rfl)
theorem put_step (key v : Int) (put : Bool) (x : Pr) (out rest total : List Pr) (i : Nat) (h2 : out.length ≤ i + (if put then 1 else 0))
 (h3 : out ++ ((if !put && decide (key ≤ x.k) then ([⟨key, v⟩] : List Pr) else []) ++ ((if x.k = key then [] else [x]) ++ putG key v (put || decide (key ≤ x.k)) rest)) = total) :
 (out ++ ((if !put && decide (key ≤ x.k) then ([⟨key, v⟩] : List Pr) else []) ++ (if x.k = key then [] else [x]))).length ≤ i + 1 + (if put || decide (key ≤ x.k) then 1 else 0) ∧
 (out ++ ((if !put && decide (key ≤ x.k) then ([⟨key, v⟩] : List Pr) else []) ++ (if x.k = key then [] else [x]))) ++ putG key v (put || decide (key ≤ x.k)) rest = total := by
 refine ⟨?_, by rw [← h3]; simp only [List.append_assoc]⟩
 by_cases h1 : x.k = key <;> by_cases h4 : key ≤ x.k <;> cases put <;> simp [h1, h4] at h2 ⊢ <;> (try split) <;> (try simp) <;> omega
theorem r_l1Put (xs : List Pr) (key v : Int) (hx : Srt xs) (hb : xs.length ≤ 1099511627776) : Ret Tryz.prog 255 [aL .pr xs, aI key, aI v] [] (.rw 0) [(0, .row .pr (insF key v xs))] := by
 rw [← put_ins key v hx]
 refine ret_vc hT hM Tryz.func255 rfl rfl (m := 0) (nx := 0) rfl (Nat.le_of_ble_eq_true rfl) ?_
 (repeat' ((conv => whnf); first | (apply nx; intro s) | (apply rg; intro s k) | ((first | refine cas (fun h => ?_) (fun h => ?_) | refine may (fun h => ?_) ?_) <;> (try simp [-List.getD_eq_getElem?_getD] at h)) | (refine giv fun hg => ?_; (try simp only [byE] at hg)) | refine need (by first | kernel_rfl | omega | (simp; done) | (simp; omega)) ?_ | ((first | refine fin_au rfl ?_ | apply WkF.au); (conv => whnf); ((repeat' first | exact trivial | refine ⟨?_, ?_⟩ | exact rfl | exact oR | exact orB rfl | exact oL) <;> (try conv => whnf) <;> (try first | apply cgB | apply cgI | apply cgS | apply cgR | apply cgD | refine cgL ?_) <;> (try (rw [wrap_i64 (by omega) (by omega)]; first | rfl | omega)))) | apply altl))
 (repeat ((conv => whnf); first | (apply nx; intro s) | (apply rg; intro s k))); (conv => whnf)
 refine Tri.loop (fun q : Nat × Bool × List Pr => ⟨[(0, aL .pr xs), (1, aI key), (2, aI v), (7, .rw 0), (8, .c (.bool q.2.1)), (9, aI q.1)], [(0, .row .pr q.2.2)], 1⟩) (fun q => q.1 ≤ xs.length ∧ q.2.2.length ≤ q.1 + (if q.2.1 then 1 else 0) ∧ q.2.2 ++ putG key v q.2.1 (xs.drop q.1) = putG key v false xs) (fun q => xs.length - q.1) (0, false, []) ⟨Nat.zero_le _, by simp, rfl⟩ ?_ ?_
 · (apply WkF.au; (conv => whnf); ((repeat' first | exact trivial | refine ⟨?_, ?_⟩ | exact rfl | exact oR | exact orB rfl | exact oL) <;> (try conv => whnf) <;> (try first | apply cgB | apply cgI | apply cgS | apply cgR | apply cgD | refine cgL ?_) <;> (try (rw [wrap_i64 (by omega) (by omega)]; first | rfl | omega))))
 · intro ⟨i, put, out⟩ ⟨h1, h2, h3⟩
   dsimp only at h1 h2 h3
   have h2' : out.length ≤ i + 1 := by split at h2 <;> omega
   have hst : i < xs.length → putG key v put (xs.drop i) = (if !put && decide (key ≤ (xs.getD i (dflt .pr)).k) then [⟨key, v⟩] else []) ++ ((if (xs.getD i (dflt .pr)).k = key then [] else [xs.getD i (dflt .pr)]) ++ putG key v (put || decide (key ≤ (xs.getD i (dflt .pr)).k)) (xs.drop (i + 1))) := fun h => by rw [drop_getD h (dflt .pr)]; rfl
   refine vc_sound hT hM _ _ _ ?_
   (repeat' ((conv => whnf); first | (apply nx; intro s) | (apply rg; intro s k) | ((first | refine cas (fun h => ?_) (fun h => ?_) | refine may (fun h => ?_) ?_) <;> (try simp [-List.getD_eq_getElem?_getD] at h)) | (refine giv fun hg => ?_; (try simp only [byE] at hg)) | refine need (by first | kernel_rfl | omega | (simp; done) | (simp; omega)) ?_ | (refine need (by simp [byE, chunk]; omega) ?_) | (refine ⟨(i + 1, put || decide (key ≤ (xs.getD i (dflt .pr)).k), out ++ ((if !put && decide (key ≤ (xs.getD i (dflt .pr)).k) then [⟨key, v⟩] else []) ++ (if (xs.getD i (dflt .pr)).k = key then [] else [xs.getD i (dflt .pr)]))), ?_, ?_, ?_⟩) | ((first | refine fin_au rfl ?_ | apply WkF.au); (conv => whnf); ((repeat' first | exact trivial | refine ⟨?_, ?_⟩ | exact rfl | exact oR | exact orB rfl | exact oL) <;> (try conv => whnf) <;> (try first | apply cgB | apply cgI | apply cgS | apply cgR | apply cgD | refine cgL ?_) <;> (try (rw [wrap_i64 (by omega) (by omega)]; first | rfl | omega)))) | apply altl))
   all_goals (try dsimp only)
   all_goals first
    | omega
    | exact ⟨by omega, put_step key v put _ out _ _ i h2 (by rw [← hst (by omega)]; exact h3)⟩
    | (simp_all [-List.getD_eq_getElem?_getD, chunk, mkE, C.n, szE]; done)
    | (rw [← h3, List.drop_eq_nil_of_le (by omega)]; simp_all [putG, chunk, mkE, C.n, szE]; done)
theorem r_l1Without (xs : List Pr) (key : Int) (hb : xs.length ≤ 1099511627776) : Ret Tryz.prog 256 [aL .pr xs, aI key] [] (.rw 0) [(0, .row .pr (delF key xs))] := by
 refine ret_vc hT hM Tryz.func256 rfl rfl (m := 0) (nx := 0) rfl (Nat.le_of_ble_eq_true rfl) ?_
 (repeat' ((conv => whnf); first | (apply nx; intro s) | (apply rg; intro s k) | ((first | refine cas (fun h => ?_) (fun h => ?_) | refine may (fun h => ?_) ?_) <;> (try simp [-List.getD_eq_getElem?_getD] at h)) | (refine giv fun hg => ?_; (try simp only [byE] at hg)) | refine need (by first | kernel_rfl | omega | (simp; done) | (simp; omega)) ?_ | ((first | refine fin_au rfl ?_ | apply WkF.au); (conv => whnf); ((repeat' first | exact trivial | refine ⟨?_, ?_⟩ | exact rfl | exact oR | exact orB rfl | exact oL) <;> (try conv => whnf) <;> (try first | apply cgB | apply cgI | apply cgS | apply cgR | apply cgD | refine cgL ?_) <;> (try (rw [wrap_i64 (by omega) (by omega)]; first | rfl | omega)))) | apply altl))
 (repeat ((conv => whnf); first | (apply nx; intro s) | (apply rg; intro s k))); (conv => whnf)
 refine Tri.loop (fun i : Nat => ⟨[(0, aL .pr xs), (1, aI key), (5, .rw 0), (6, aI i)], [(0, .row .pr (delF key (xs.take i)))], 1⟩) (fun i => i ≤ xs.length) (fun i => xs.length - i) 0 (Nat.zero_le _) ?_ ?_
 · (apply WkF.au; (conv => whnf); ((repeat' first | exact trivial | refine ⟨?_, ?_⟩ | exact rfl | exact oR | exact orB rfl | exact oL) <;> (try conv => whnf) <;> (try first | apply cgB | apply cgI | apply cgS | apply cgR | apply cgD | refine cgL ?_) <;> (try (rw [wrap_i64 (by omega) (by omega)]; first | rfl | omega))))
 · intro i hi
   have hl : (delF key (xs.take i)).length ≤ i := Nat.le_trans (List.length_filter_le _ _) (by rw [List.length_take]; omega)
   have hst : i < xs.length → delF key (xs.take (i + 1)) = delF key (xs.take i) ++ (if (xs.getD i (dflt .pr)).k = key then [] else [xs.getD i (dflt .pr)]) := fun h => by
    rw [← take_snoc' xs (dflt .pr) h]
    unfold delF
    rw [List.filter_append]
    congr 1
    by_cases h : (xs.getD i (dflt .pr)).k = key <;> simp [-List.getD_eq_getElem?_getD, h]
   refine vc_sound hT hM _ _ _ ?_
   (repeat' ((conv => whnf); first | (apply nx; intro s) | (apply rg; intro s k) | ((first | refine cas (fun h => ?_) (fun h => ?_) | refine may (fun h => ?_) ?_) <;> (try simp [-List.getD_eq_getElem?_getD] at h)) | (refine giv fun hg => ?_; (try simp only [byE] at hg)) | refine need (by first | kernel_rfl | omega | (simp; done) | (simp; omega)) ?_ | (refine need (by simp [byE, chunk]; omega) ?_) | (refine ⟨(i + 1 : Nat), ?_, ?_, ?_⟩) | ((first | refine fin_au rfl ?_ | apply WkF.au); (conv => whnf); ((repeat' first | exact trivial | refine ⟨?_, ?_⟩ | exact rfl | exact oR | exact orB rfl | exact oL) <;> (try conv => whnf) <;> (try first | apply cgB | apply cgI | apply cgS | apply cgR | apply cgD | refine cgL ?_) <;> (try (rw [wrap_i64 (by omega) (by omega)]; first | rfl | omega)))) | apply altl))
   all_goals first
    | omega
    | (rw [hst (by omega), if_pos (by omega)]; simp; done)
    | (rw [hst (by omega), if_neg (by omega)]; exact snoc_c .pr _ _ rfl)
    | (rw [List.take_of_length_le (by omega)])
theorem getV_rng {xs : List Pr} (h : MapP xs) (key : Int) : -1000000000 ≤ getV key xs ∧ getV key xs ≤ 1000000000 := by
 have h2 := h.2
 clear h
 induction xs with
 | nil => simp [getV]
 | cons x xs ih =>
   simp only [getV]
   split
   · exact (h2 x (List.mem_cons_self ..)).2
   · exact ih fun y hy => h2 y (List.mem_cons_of_mem _ hy)
theorem r_specMapDo (xs : List Pr) (m : Ms) (hx : MapP xs) (hb : xs.length ≤ 1099511627776) : Ret Tryz.prog 212 [aL .pr xs, agE .ms m] [] (.rw 0) [(0, .row .pr (if msgOk m then doF xs m else xs))] := by
 have hmo : mapOk xs = true := (mapOk_iff xs).2 hx
 have d4 : ¬ m.op = 1 ∧ ¬ m.op = 2 ∧ ¬ m.op = 3 → doF xs m = xs := fun h => by unfold doF; rw [if_neg (by omega), if_neg (by omega), if_neg (by omega)]
 have d2 : m.op = 2 → doF xs m = delF m.k xs := fun h => by unfold doF; rw [if_neg (by omega), if_pos (by omega)]
 have d3 : m.op = 3 → doF xs m = insF m.k (lim (getV m.k xs + m.v)) xs := fun h => by unfold doF; rw [if_neg (by omega), if_neg (by omega), if_pos (by omega)]
 have d1 : m.op = 1 → doF xs m = insF m.k m.v xs := fun h => by unfold doF; rw [if_pos (by omega)]
 have hmr := fun h => msg_rng (m := m) h
 refine ret_vc hT hM Tryz.func212 rfl rfl (m := 0) (nx := 0) rfl (Nat.le_of_ble_eq_true rfl) ?_
 (repeat' ((conv => whnf); first | (apply nx; intro s) | (apply rg; intro s k) | ((first | refine cas (fun h => ?_) (fun h => ?_) | refine may (fun h => ?_) ?_) <;> (try simp [-List.getD_eq_getElem?_getD, hmo] at h)) | (refine giv fun hg => ?_; (try simp only [byE] at hg)) | refine need (by first | kernel_rfl | omega | (simp; done) | (simp; omega)) ?_ | (refine call_p (r_specMapOk xs) rfl (by (repeat' first | exact trivial | refine ⟨?_, ?_⟩ | exact rfl | exact oR | exact orB rfl | exact oL); (first | done | fail)) ?_) | (refine call_p (r_specMsgOk m) rfl (by (repeat' first | exact trivial | refine ⟨?_, ?_⟩ | exact rfl | exact oR | exact orB rfl | exact oL); (first | done | fail)) ?_) | (refine call_p (r_specMapGet xs m.k) rfl (by (repeat' first | exact trivial | refine ⟨?_, ?_⟩ | exact rfl | exact oR | exact orB rfl | exact oL); (first | done | fail)) ?_) | (refine call_n (r_l1Put xs m.k m.v hx.1 hb) rfl ?_ ?_ ?_; iterate 2 (focus (repeat' first | exact trivial | refine ⟨?_, ?_⟩ | exact rfl | exact oR | exact orB rfl | exact oL); (first | done | fail))) | (refine call_p (r_clamp _) rfl (by (repeat' first | exact trivial | refine ⟨?_, ?_⟩ | exact rfl | exact oR | exact orB rfl | exact oL); (first | done | fail)) ?_) | (refine call_n (r_l1Put xs m.k _ hx.1 hb) rfl (by (repeat' first | exact trivial | refine ⟨?_, ?_⟩ | exact rfl | exact oR | exact orB rfl | exact oL); (first | done | fail)) (by (repeat' first | exact trivial | refine ⟨?_, ?_⟩ | exact rfl | exact oR | exact orB rfl | exact oL); (first | done | fail)) ?_) | (refine call_n (r_l1Without xs m.k hb) rfl ?_ ?_ ?_; iterate 2 (focus (repeat' first | exact trivial | refine ⟨?_, ?_⟩ | exact rfl | exact oR | exact orB rfl | exact oL); (first | done | fail))) | (refine need (by simp [byE, chunk]; omega) ?_) | (exfalso; omega) | ((first | refine fin_au rfl ?_ | apply WkF.au); (conv => whnf); ((repeat' first | exact trivial | refine ⟨?_, ?_⟩ | exact rfl | exact oR | exact orB rfl | exact oL) <;> (try conv => whnf) <;> (try first | apply cgB | apply cgI | apply cgS | apply cgR | apply cgD | refine cgL ?_) <;> (try (rw [wrap_i64 (by omega) (by omega)]; first | rfl | omega)))) | apply altl))
 · rw [if_neg (by simp [h])]; rfl
 · rw [if_pos (by assumption), d1 (by omega)]
 · rw [if_pos (by assumption), d2 (by omega)]
 · have := getV_rng hx m.k
   have := hmr (by assumption)
   rw [if_pos (by assumption), d3 (by omega), wrap_i64 (by omega) (by omega)]
 · rw [if_pos (by assumption), d4 (by omega)]; rfl
theorem step_len (cur : List Pr) (m : Ms) : (if msgOk m then doF cur m else cur).length ≤ cur.length + 1 := by
 split
 · exact do_len _ _
 · omega
theorem step_map {cur : List Pr} (h : MapP cur) (m : Ms) : MapP (if msgOk m then doF cur m else cur) := by
 split
 · exact do_map h (by assumption)
 · exact h
theorem r_specMapAll (xs : List Pr) (ms : List Ms) (hx : MapP xs) (hb : xs.length + ms.length ≤ 1099511627776) : Ret Tryz.prog 155 [aL .pr xs, aL .ms ms] [] (.rw 0) [(0, .row .pr (allF xs ms))] := by
 refine ret_vc hT hM Tryz.func155 rfl rfl (m := 0) (nx := 0) rfl (Nat.le_of_ble_eq_true rfl) ?_
 (repeat' ((conv => whnf); first | (apply nx; intro s) | (apply rg; intro s k) | ((first | refine cas (fun h => ?_) (fun h => ?_) | refine may (fun h => ?_) ?_) <;> (try simp [-List.getD_eq_getElem?_getD] at h)) | (refine giv fun hg => ?_; (try simp only [byE] at hg)) | refine need (by first | kernel_rfl | omega | (simp; done) | (simp; omega)) ?_ | (refine need (by simp [byE, chunk]; omega) ?_) | ((first | refine fin_au rfl ?_ | apply WkF.au); (conv => whnf); ((repeat' first | exact trivial | refine ⟨?_, ?_⟩ | exact rfl | exact oR | exact orB rfl | exact oL) <;> (try conv => whnf) <;> (try first | apply cgB | apply cgI | apply cgS | apply cgR | apply cgD | refine cgL ?_) <;> (try (rw [wrap_i64 (by omega) (by omega)]; first | rfl | omega)))) | apply altl))
 (repeat ((conv => whnf); first | (apply nx; intro s) | (apply rg; intro s k))); (conv => whnf)
 refine Tri.loop (fun q : Nat × List Pr => ⟨[(1, aL .ms ms), (5, .rw 0), (6, aI q.1)], [(0, .row .pr q.2)], 1⟩) (fun q => q.1 ≤ ms.length ∧ q.2.length ≤ xs.length + q.1 ∧ MapP q.2 ∧ allF q.2 (ms.drop q.1) = allF xs ms) (fun q => ms.length - q.1) (0, xs) ⟨Nat.zero_le _, Nat.le_refl _, hx, rfl⟩ ?_ ?_
 · (apply WkF.au; (conv => whnf); ((repeat' first | exact trivial | refine ⟨?_, ?_⟩ | exact rfl | exact oR | exact orB rfl | exact oL) <;> (try conv => whnf) <;> (try first | apply cgB | apply cgI | apply cgS | apply cgR | apply cgD | refine cgL ?_) <;> (try (rw [wrap_i64 (by omega) (by omega)]; first | rfl | omega))))
 · intro ⟨i, cur⟩ ⟨h1, h2, h3, h4⟩
   dsimp only at h1 h2 h3 h4
   have hst : i < ms.length → ms.drop i = ms.getD i (dflt .ms) :: ms.drop (i + 1) := fun h => drop_getD h (dflt .ms)
   refine vc_sound hT hM _ _ _ ?_
   (repeat' ((conv => whnf); first | (apply nx; intro s) | (apply rg; intro s k) | ((first | refine cas (fun h => ?_) (fun h => ?_) | refine may (fun h => ?_) ?_) <;> (try simp [-List.getD_eq_getElem?_getD] at h)) | (refine giv fun hg => ?_; (try simp only [byE] at hg)) | refine need (by first | kernel_rfl | omega | (simp; done) | (simp; omega)) ?_ | (refine call_b (r_specMapDo cur (ms.getD i (dflt .ms)) h3 (by omega)) ?_ ?_ ?_ ?_ ?_ ?_; iterate 5 (focus (repeat' first | exact trivial | refine ⟨?_, ?_⟩ | exact rfl | exact oR | exact orB rfl | exact oL); (first | done | fail))) | (refine ⟨(i + 1, if msgOk (ms.getD i (dflt .ms)) then doF cur (ms.getD i (dflt .ms)) else cur), ?_, ?_, ?_⟩) | ((first | refine fin_au rfl ?_ | apply WkF.au); (conv => whnf); ((repeat' first | exact trivial | refine ⟨?_, ?_⟩ | exact rfl | exact oR | exact orB rfl | exact oL) <;> (try conv => whnf) <;> (try first | apply cgB | apply cgI | apply cgS | apply cgR | apply cgD | refine cgL ?_) <;> (try (rw [wrap_i64 (by omega) (by omega)]; first | rfl | omega)))) | apply altl))
   all_goals (try dsimp only)
   all_goals first
    | exact ⟨by omega, Nat.le_trans (step_len cur _) (by omega), step_map h3 _, by rw [← h4, hst (by omega)]; rfl⟩
    | omega
    | (rw [List.drop_eq_nil_of_le (by omega)] at h4; exact h4)
theorem r_implMapAll (xs : List Pr) (ms : List Ms) (hx : MapP xs) (hb : xs.length + ms.length ≤ 1099511627776) : Ret Tryz.prog 150 [aL .pr xs, aL .ms ms] [] (.rw 0) [(0, .row .pr (allF xs ms))] := by
 have hmo : mapOk xs = true := (mapOk_iff xs).2 hx
 refine ret_vc hT hM Tryz.func150 rfl rfl (m := 0) (nx := 0) rfl (Nat.le_of_ble_eq_true rfl) ?_
 (repeat' ((conv => whnf); first | (apply nx; intro s) | (apply rg; intro s k) | ((first | refine cas (fun h => ?_) (fun h => ?_) | refine may (fun h => ?_) ?_) <;> (try simp [-List.getD_eq_getElem?_getD, hmo] at h)) | (refine giv fun hg => ?_; (try simp only [byE] at hg)) | refine need (by first | kernel_rfl | omega | (simp; done) | (simp; omega)) ?_ | (refine call_n (r_clonePr xs) rfl ?_ ?_ ?_; iterate 2 (focus (repeat' first | exact trivial | refine ⟨?_, ?_⟩ | exact rfl | exact oR | exact orB rfl | exact oL); (first | done | fail))) | (refine call_p (r_implMapOk xs) rfl (by (repeat' first | exact trivial | refine ⟨?_, ?_⟩ | exact rfl | exact oR | exact orB rfl | exact oL); (first | done | fail)) ?_) | (exfalso; omega) | ((first | refine fin_au rfl ?_ | apply WkF.au); (conv => whnf); ((repeat' first | exact trivial | refine ⟨?_, ?_⟩ | exact rfl | exact oR | exact orB rfl | exact oL) <;> (try conv => whnf) <;> (try first | apply cgB | apply cgI | apply cgS | apply cgR | apply cgD | refine cgL ?_) <;> (try (rw [wrap_i64 (by omega) (by omega)]; first | rfl | omega)))) | apply altl))
 (repeat ((conv => whnf); first | (apply nx; intro s) | (apply rg; intro s k))); (conv => whnf)
 refine Tri.loop (fun q : Nat × List Pr => ⟨[(5, .rw 0), (14, aL .ms ms), (15, aI ms.length), (16, aI q.1)], [(0, .row .pr q.2)], 1⟩) (fun q => q.1 ≤ ms.length ∧ q.2.length ≤ xs.length + q.1 ∧ MapP q.2 ∧ allF q.2 (ms.drop q.1) = allF xs ms) (fun q => ms.length - q.1) (0, xs) ⟨Nat.zero_le _, Nat.le_refl _, hx, rfl⟩ ?_ ?_
 · (apply WkF.au; (conv => whnf); ((repeat' first | exact trivial | refine ⟨?_, ?_⟩ | exact rfl | exact oR | exact orB rfl | exact oL) <;> (try conv => whnf) <;> (try first | apply cgB | apply cgI | apply cgS | apply cgR | apply cgD | refine cgL ?_) <;> (try (rw [wrap_i64 (by omega) (by omega)]; first | rfl | omega))))
 · intro ⟨i, cur⟩ ⟨h1, h2, h3, h4⟩
   dsimp only at h1 h2 h3 h4
   have hst : i < ms.length → ms.drop i = ms.getD i (dflt .ms) :: ms.drop (i + 1) := fun h => drop_getD h (dflt .ms)
   refine vc_sound hT hM _ _ _ ?_
   (repeat' ((conv => whnf); first | (apply nx; intro s) | (apply rg; intro s k) | ((first | refine cas (fun h => ?_) (fun h => ?_) | refine may (fun h => ?_) ?_) <;> (try simp [-List.getD_eq_getElem?_getD] at h)) | (refine giv fun hg => ?_; (try simp only [byE] at hg)) | refine need (by first | kernel_rfl | omega | (simp; done) | (simp; omega)) ?_ | (refine call_p (r_implMsgOk (ms.getD i (dflt .ms))) rfl (by (repeat' first | exact trivial | refine ⟨?_, ?_⟩ | exact rfl | exact oR | exact orB rfl | exact oL); (first | done | fail)) ?_) | (refine call_g [0] (r_changed cur (ms.getD i (dflt .ms)) h3 (by assumption) (by omega)) rfl rfl rfl ?_ ?_ ?_ ?_ ?_; iterate 4 (focus (repeat' first | exact trivial | refine ⟨?_, ?_⟩ | exact rfl | exact oR | exact orB rfl | exact oL); (first | done | fail))) | (refine ⟨(i + 1, if msgOk (ms.getD i (dflt .ms)) then doF cur (ms.getD i (dflt .ms)) else cur), ?_, ?_, ?_⟩) | ((first | refine fin_au rfl ?_ | apply WkF.au); (conv => whnf); ((repeat' first | exact trivial | refine ⟨?_, ?_⟩ | exact rfl | exact oR | exact orB rfl | exact oL) <;> (try conv => whnf) <;> (try first | apply cgB | apply cgI | apply cgS | apply cgR | apply cgD | refine cgL ?_) <;> (try (rw [wrap_i64 (by omega) (by omega)]; first | rfl | omega)))) | apply altl))
   all_goals (try dsimp only)
   all_goals first
    | exact ⟨by omega, Nat.le_trans (step_len cur _) (by omega), step_map h3 _, by rw [← h4, hst (by omega)]; rfl⟩
    | omega
    | (rw [List.drop_eq_nil_of_le (by omega)] at h4; exact h4)
    | (rw [if_pos (by assumption)])
    | (rw [if_neg (fun e => by rw [e] at h; cases h)])
end Go.Proofs.YthbpdhppelaihaaGreat