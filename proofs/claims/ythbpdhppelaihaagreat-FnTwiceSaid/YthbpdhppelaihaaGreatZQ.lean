/- Joined: QB QC QD QE QF. -/
import Derived.Test.YthbpdhppelaihaaGreatQA
/- Messages, shrunk: plain laws. Conditions: none. -/
set_option linter.unusedVariables false
set_option linter.unusedSimpArgs false
namespace Go.Proofs.YthbpdhppelaihaaGreat
def okM (m : Ms) : Bool := msgOk m && decide (m.op ≠ 4)
def setsB (m : Ms) : Bool := decide (m.op = 1) || decide (m.op = 2)
def sameK (m : Ms) (x : Ms) : Bool := decide (x.k = m.k)
def overF (rest : List Ms) (m : Ms) : Bool := rest.any (fun x => sameK m x && setsB x)
def addTo (m x : Ms) : Ms := ⟨x.op, x.k, lim (x.v + m.v)⟩
def joins (out : List Ms) (m : Ms) : Bool := decide (m.op = 3) && (decide (0 ≤ ixF (sameK m) out) && decide ((out.getD (ixF (sameK m) out).toNat (dflt .ms)).op = 1))
def shrStep (out : List Ms) (m : Ms) : List Ms := if joins out m then out.set (ixF (sameK m) out).toNat (addTo m (out.getD (ixF (sameK m) out).toNat (dflt .ms))) else out ++ [m]
def shrG : List Ms → List Ms → List Ms
 | [], out => out
 | m :: rest, out => shrG rest (if overF rest m then out else shrStep out m)
def shrinkF (ms : List Ms) : List Ms := shrG (ms.filter okM) []
theorem ixF_lt {α : Type} {p : α → Bool} {xs : List α} (h : 0 ≤ ixF p xs) : (ixF p xs).toNat < xs.length := by
 unfold ixF at *
 cases hx : xs.findIdx? p with
 | none => rw [hx] at h; simp at h
 | some i =>
   rw [List.findIdx?_eq_some_iff_getElem] at hx
   obtain ⟨h1, _⟩ := hx
   simpa using h1
theorem shs_len (out : List Ms) (m : Ms) : (shrStep out m).length ≤ out.length + 1 := by
 unfold shrStep; split <;> simp
theorem shr_len : ∀ (ms out : List Ms), (shrG ms out).length ≤ out.length + ms.length
 | [], out => by simp [shrG]
 | m :: ms, out => by
   simp only [shrG, List.length_cons]
   split
   · have := shr_len ms out; omega
   · have := shr_len ms (shrStep out m)
     have := shs_len out m
     omega
theorem shrink_len (ms : List Ms) : (shrinkF ms).length ≤ ms.length := by
 have h1 := shr_len (ms.filter okM) []
 have h2 := List.length_filter_le okM ms
 unfold shrinkF
 simp at h1
 omega
def MsP (lo hi : Int) (m : Ms) : Prop := okM m = true ∧ lo ≤ m.k ∧ m.k < hi
theorem okM_rng {m : Ms} (h : okM m = true) : (1 ≤ m.op ∧ m.op ≤ 3) ∧ (0 ≤ m.k ∧ m.k ≤ 999) ∧ (-1000000000 ≤ m.v ∧ m.v ≤ 1000000000) := by
 unfold okM at h
 simp only [Bool.and_eq_true, decide_eq_true_eq] at h
 have := msg_rng h.1
 omega
theorem addTo_ok {lo hi : Int} {m x : Ms} (hx : MsP lo hi x) (hp : x.op = 1) : MsP lo hi (addTo m x) := by
 have h1 := okM_rng hx.1
 have h2 := lim_rng (x.v + m.v)
 refine ⟨?_, hx.2⟩
 simp [okM, msgOk, inB, addTo, hp]
 omega
theorem step_ok {lo hi : Int} {out : List Ms} {m : Ms} (ho : ∀ x ∈ out, MsP lo hi x) (hm : MsP lo hi m) : ∀ x ∈ shrStep out m, MsP lo hi x := by
 intro x hx
 unfold shrStep at hx
 split at hx
 · rename_i h
   simp only [joins, Bool.and_eq_true, decide_eq_true_eq] at h
   rcases List.mem_or_eq_of_mem_set hx with hx | rfl
   · exact ho x hx
   · exact addTo_ok (ho _ (getD_mem (dflt .ms) (ixF_lt h.2.1))) h.2.2
 · rcases List.mem_append.1 hx with hx | hx
   · exact ho x hx
   · rw [List.mem_singleton.1 hx]; exact hm
theorem shr_ok {lo hi : Int} : ∀ {ms out : List Ms}, (∀ x ∈ out, MsP lo hi x) → (∀ x ∈ ms, MsP lo hi x) → ∀ x ∈ shrG ms out, MsP lo hi x
 | [], out, ho, _ => ho
 | m :: ms, out, ho, hm => by
   simp only [shrG]
   split
   · exact shr_ok ho fun x hx => hm x (List.mem_cons_of_mem _ hx)
   · exact shr_ok (step_ok ho (hm m (List.mem_cons_self ..))) fun x hx => hm x (List.mem_cons_of_mem _ hx)
theorem shrink_ok {lo hi : Int} {ms : List Ms} (hm : ∀ x ∈ ms, MsP lo hi x) : ∀ x ∈ shrinkF ms, MsP lo hi x :=
 shr_ok (fun x hx => by simp at hx) fun x hx => hm x (List.mem_filter.1 hx).1
end Go.Proofs.YthbpdhppelaihaaGreat
/- Rows of trees with cuts between: plain definitions and laws of what is given to a tree. Conditions: none. -/
namespace Go.Proofs.YthbpdhppelaihaaGreat
abbrev Rw := List Tr × List Int
def kidF (cuts : List Int) (k : Int) : Nat := (cuts.filter (fun c => decide (c ≤ k))).length
def isKid (cuts : List Int) (i : Nat) (m : Ms) : Bool := decide (kidF cuts m.k = i)
def ofKidF (cuts : List Int) (ms : List Ms) (i : Nat) : List Ms := ms.filter (isKid cuts i)
def restF (cuts : List Int) (ms : List Ms) (i : Nat) : List Ms := ms.filter (fun m => !isKid cuts i m)
def fullN (cuts : List Int) (ms : List Ms) : Nat → Nat × Int
 | 0 => (0, -1)
 | i + 1 => if (fullN cuts ms i).2 < ((ofKidF cuts ms i).length : Int) then (i, ((ofKidF cuts ms i).length : Int)) else fullN cuts ms i
def fullF (n : Nat) (cuts : List Int) (ms : List Ms) : Nat := (fullN cuts ms n).1
def putF (r : Rw) (i : Nat) (x : Rw) : Rw := (r.1.take i ++ (x.1 ++ r.1.drop (i + 1)), r.2.take i ++ (x.2 ++ r.2.drop i))
def nd (ks : List Tr) (cs : List Int) : Tr := ⟨false, [], cs, ks, []⟩
def lf (ps : List Pr) : Tr := ⟨true, ps, [], [], []⟩
def packG : List Tr → List Int → Rw
 | a :: b :: c :: d :: ks, x :: y :: cs => (nd [a, b] [x] :: (packG (c :: d :: ks) cs).1, y :: (packG (c :: d :: ks) cs).2)
 | ks, cs => ([nd ks cs], [])
def packF (r : Rw) : Rw := packG r.1 r.2
def leafG : List Pr → Rw
 | a :: b :: c :: d :: ps => (lf [a, b] :: (leafG (c :: d :: ps)).1, c.k :: (leafG (c :: d :: ps)).2)
 | ps => ([lf ps], [])
def leavesF (ps : List Pr) : Rw := if ps.length ≤ 4 then ([lf ps], []) else leafG ps
def kidX (g : Tr → List Ms → Rw) (l : List Ms) (k : Tr) : Rw := if l = [] then ([k], []) else g k l
def downG (g : Tr → List Ms → Rw) (cuts0 : List Int) (ms : List Ms) : Nat → List Tr → List Int → Rw
 | i, k :: ks, c :: cs => ((kidX g (ofKidF cuts0 ms i) k).1 ++ (downG g cuts0 ms (i + 1) ks cs).1, (kidX g (ofKidF cuts0 ms i) k).2 ++ c :: (downG g cuts0 ms (i + 1) ks cs).2)
 | i, k :: _, [] => kidX g (ofKidF cuts0 ms i) k
 | _, [], _ => ([], [])
def downF (g : Tr → List Ms → Rw) (r : Rw) (ms : List Ms) : Rw := downG g r.2 ms 0 r.1 r.2
def flushF (g : Tr → List Ms → Rw) : Nat → Rw × List Ms → Rw × List Ms
 | 0, s => s
 | f + 1, s => if s.2.length ≤ 6 then s else
   flushF g f (putF s.1 (fullF s.1.1.length s.1.2 s.2) (g (s.1.1.getD (fullF s.1.1.length s.1.2 s.2) (dflt .tr)) (ofKidF s.1.2 s.2 (fullF s.1.1.length s.1.2 s.2))), restF s.1.2 s.2 (fullF s.1.1.length s.1.2 s.2))
def flush (g : Tr → List Ms → Rw) (s : Rw × List Ms) : Rw × List Ms := flushF g s.2.length s
def wrapUp (g : Tr → List Ms → Rw) (s : Rw × List Ms) : Rw := if 4 < s.1.1.length then packF (downF g s.1 s.2) else ([⟨false, [], s.1.2, s.1.1, s.2⟩], [])
def giveF : Nat → Tr → List Ms → Rw
 | 0, t, ms => leavesF (allF t.pairs ms)
 | d + 1, t, ms => wrapUp (giveF d) (flush (giveF d) ((t.kids, t.cuts), shrinkF (t.buf ++ ms)))
def joinG (g : Tr → Rw) : List Tr → List Int → Rw
 | k :: ks, c :: cs => ((g k).1 ++ (joinG g ks cs).1, (g k).2 ++ c :: (joinG g ks cs).2)
 | k :: _, [] => g k
 | [], _ => ([], [])
def shut (r : Rw) : Rw := if 4 < r.1.length then packF r else ([nd r.1 r.2], [])
def drainF : Nat → Tr → Rw
 | 0, t => ([t], [])
 | d + 1, t => shut (joinG (drainF d) (downF (giveF d) (t.kids, t.cuts) t.buf).1 (downF (giveF d) (t.kids, t.cuts) t.buf).2)
def rootG : Nat → Rw → Rw
 | 0, r => r
 | f + 1, r => if 4 < r.1.length then rootG f (packF r) else r
def rootF (r : Rw) : Tr := if (rootG r.1.length r).1.length = 1 then (rootG r.1.length r).1.getD 0 (dflt .tr) else nd (rootG r.1.length r).1 (rootG r.1.length r).2
/-! Which kid -/
theorem kid_cons (c : Int) (cs : List Int) (k : Int) : kidF (c :: cs) k = (if c ≤ k then 1 else 0) + kidF cs k := by
 unfold kidF
 rw [List.filter_cons]
 by_cases h : c ≤ k <;> simp [h]; omega
theorem kid_le (cuts : List Int) (k : Int) : kidF cuts k ≤ cuts.length := List.length_filter_le _ _
theorem kid_zero {cuts : List Int} {k : Int} (h : ∀ c ∈ cuts, k < c) : kidF cuts k = 0 := by
 unfold kidF
 rw [List.filter_eq_nil_iff.2 fun c hc => by have := h c hc; simp; omega]
 rfl
/-! Rows -/
def RowI (P : Int → Int → Tr → Prop) : Int → Int → List Tr → List Int → Prop
 | lo, hi, k :: ks, c :: cs => lo < c ∧ c < hi ∧ P lo c k ∧ RowI P c hi ks cs
 | lo, hi, [k], [] => P lo hi k
 | _, _, _, _ => False
theorem row_len {P : Int → Int → Tr → Prop} : ∀ {ks : List Tr} {cs : List Int} {lo hi : Int}, RowI P lo hi ks cs → ks.length = cs.length + 1
 | k :: ks, c :: cs, lo, hi, h => by
   simp only [RowI] at h
   have := row_len h.2.2.2
   simp only [List.length_cons]; omega
 | [k], [], lo, hi, h => rfl
 | k :: k' :: ks, [], lo, hi, h => by simp only [RowI] at h
 | [], c :: cs, lo, hi, h => by simp only [RowI] at h
 | [], [], lo, hi, h => by simp only [RowI] at h
theorem row_cuts {P : Int → Int → Tr → Prop} : ∀ {ks : List Tr} {cs : List Int} {lo hi : Int}, RowI P lo hi ks cs → ∀ c ∈ cs, lo < c ∧ c < hi
 | k :: ks, c :: cs, lo, hi, h, x, hx => by
   simp only [RowI] at h
   rcases List.mem_cons.1 hx with rfl | hx
   · exact ⟨h.1, h.2.1⟩
   · have := row_cuts h.2.2.2 x hx
     omega
 | _, [], _, _, _, x, hx => by simp at hx
 | [], c :: cs, lo, hi, h, _, _ => by simp only [RowI] at h
theorem row_srt {P : Int → Int → Tr → Prop} : ∀ {ks : List Tr} {cs : List Int} {lo hi : Int}, RowI P lo hi ks cs → cs.Pairwise (fun a b => a < b)
 | k :: ks, c :: cs, lo, hi, h => by
   simp only [RowI] at h
   exact List.pairwise_cons.2 ⟨fun x hx => (row_cuts h.2.2.2 x hx).1, row_srt h.2.2.2⟩
 | _, [], _, _, _ => List.Pairwise.nil
 | [], c :: cs, lo, hi, h => by simp only [RowI] at h
theorem row_mono {P Q : Int → Int → Tr → Prop} (hPQ : ∀ a b k, P a b k → Q a b k) : ∀ {ks : List Tr} {cs : List Int} {lo hi : Int}, RowI P lo hi ks cs → RowI Q lo hi ks cs
 | k :: ks, c :: cs, lo, hi, h => by
   simp only [RowI] at h ⊢
   exact ⟨h.1, h.2.1, hPQ _ _ _ h.2.2.1, row_mono hPQ h.2.2.2⟩
 | [k], [], lo, hi, h => hPQ _ _ _ h
 | k :: k' :: ks, [], lo, hi, h => by simp only [RowI] at h
 | [], c :: cs, lo, hi, h => by simp only [RowI] at h
 | [], [], lo, hi, h => by simp only [RowI] at h
theorem row_app {P : Int → Int → Tr → Prop} : ∀ {ks : List Tr} {cs : List Int} {lo mid hi : Int} {ks' : List Tr} {cs' : List Int}, RowI P lo mid ks cs → lo < mid → mid < hi → RowI P mid hi ks' cs' → RowI P lo hi (ks ++ ks') (cs ++ mid :: cs')
 | k :: ks, c :: cs, lo, mid, hi, ks', cs', h, h1, h2, h' => by
   simp only [RowI] at h
   simp only [List.cons_append, RowI]
   exact ⟨h.1, by omega, h.2.2.1, row_app h.2.2.2 h.2.1 h2 h'⟩
 | [k], [], lo, mid, hi, ks', cs', h, h1, h2, h' => by
   simp only [List.cons_append, List.nil_append, RowI]
   exact ⟨h1, h2, h, h'⟩
 | k :: k' :: ks, [], lo, mid, hi, ks', cs', h, _, _, _ => by simp only [RowI] at h
 | [], c :: cs, lo, mid, hi, ks', cs', h, _, _, _ => by simp only [RowI] at h
 | [], [], lo, mid, hi, ks', cs', h, _, _, _ => by simp only [RowI] at h
theorem row_kid {P : Int → Int → Tr → Prop} : ∀ {ks : List Tr} {cs : List Int} {lo hi : Int} {i : Nat}, RowI P lo hi ks cs → i < ks.length →
 ∃ a b, P a b (ks.getD i (dflt .tr)) ∧ lo ≤ a ∧ b ≤ hi ∧ (∀ k, lo ≤ k → k < hi → kidF cs k = i → a ≤ k ∧ k < b) ∧ ∀ x : Rw, RowI P a b x.1 x.2 → RowI P lo hi (putF (ks, cs) i x).1 (putF (ks, cs) i x).2
 | k :: ks, c :: cs, lo, hi, 0, h, _ => by
   simp only [RowI] at h
   refine ⟨lo, c, by simpa using h.2.2.1, Int.le_refl _, by omega, fun q h1 h2 h3 => ?_, fun x hx => ?_⟩
   · rw [kid_cons] at h3
     split at h3
     · omega
     · omega
   · have := row_app hx h.1 h.2.1 h.2.2.2
     simpa [putF] using this
 | k :: ks, c :: cs, lo, hi, i + 1, h, hi' => by
   simp only [RowI] at h
   obtain ⟨a, b, h1, h2, h3, h4, h5⟩ := row_kid (i := i) h.2.2.2 (by simpa using hi')
   refine ⟨a, b, by simpa using h1, by omega, h3, fun q hq1 hq2 hq3 => ?_, fun x hx => ?_⟩
   · rw [kid_cons] at hq3
     by_cases hc : c ≤ q
     · rw [if_pos hc] at hq3
       exact h4 q hc hq2 (by omega)
     · rw [if_neg hc, kid_zero fun c' hc' => by have := (row_cuts h.2.2.2 c' hc').1; omega] at hq3
       omega
   · have := h5 x hx
     simp only [putF, List.take_succ_cons, List.drop_succ_cons, List.cons_append, RowI] at this ⊢
     exact ⟨h.1, h.2.1, h.2.2.1, this⟩
 | [k], [], lo, hi, 0, h, _ => by
   refine ⟨lo, hi, by simpa [RowI] using h, Int.le_refl _, Int.le_refl _, fun q h1 h2 _ => ⟨h1, h2⟩, fun x hx => by simpa [putF] using hx⟩
 | [k], [], lo, hi, i + 1, h, hi' => by simp at hi'
 | k :: k' :: ks, [], lo, hi, _, h, _ => by simp only [RowI] at h
 | [], c :: cs, lo, hi, _, h, _ => by simp only [RowI] at h
 | [], [], lo, hi, _, h, _ => by simp only [RowI] at h
/-! The fullest kid -/
theorem full_lt {cuts : List Int} {ms : List Ms} : ∀ {n : Nat}, 0 < n → fullF n cuts ms < n
 | n + 1, _ => by
   unfold fullF
   simp only [fullN]
   split
   · show n < n + 1; omega
   · rename_i h
     cases n with
     | zero => simp only [fullN] at h; omega
     | succ n => have := full_lt (cuts := cuts) (ms := ms) (n := n + 1) (by omega); unfold fullF at this; omega
theorem full_max {cuts : List Int} {ms : List Ms} : ∀ (n : Nat), (∀ i, i < n → ((ofKidF cuts ms i).length : Int) ≤ (fullN cuts ms n).2) ∧ (0 < n → (fullN cuts ms n).2 = ((ofKidF cuts ms (fullN cuts ms n).1).length : Int))
 | 0 => ⟨fun i hi => by omega, fun h => by omega⟩
 | n + 1 => by
   obtain ⟨h1, h2⟩ := full_max (cuts := cuts) (ms := ms) n
   simp only [fullN]
   split
   · rename_i h
     refine ⟨fun i hi => ?_, fun _ => rfl⟩
     rcases Nat.lt_succ_iff_lt_or_eq.1 hi with hi | rfl
     · have := h1 i hi
       show _ ≤ ((ofKidF cuts ms n).length : Int)
       omega
     · exact Int.le_refl _
   · rename_i h
     refine ⟨fun i hi => ?_, fun _ => ?_⟩
     · rcases Nat.lt_succ_iff_lt_or_eq.1 hi with hi | rfl
       · exact h1 i hi
       · omega
     · cases n with
       | zero => simp only [fullN] at h; omega
       | succ n => exact h2 (by omega)
theorem of_rest (cuts : List Int) (ms : List Ms) (i : Nat) : (ofKidF cuts ms i).length + (restF cuts ms i).length = ms.length := by
 unfold ofKidF restF
 induction ms with
 | nil => rfl
 | cons m ms ih =>
   simp only [List.filter_cons]
   cases isKid cuts i m <;> simp <;> omega
theorem full_pos {cuts : List Int} {ms : List Ms} {n : Nat} (hn : n = cuts.length + 1) (hm : 0 < ms.length) : 0 < (ofKidF cuts ms (fullF n cuts ms)).length := by
 obtain ⟨h1, h2⟩ := full_max (cuts := cuts) (ms := ms) n
 have h3 := h2 (by omega)
 match ms, hm with
 | m :: ms', _ =>
   have h4 := h1 (kidF cuts m.k) (by have := kid_le cuts m.k; omega)
   have h5 : 0 < (ofKidF cuts (m :: ms') (kidF cuts m.k)).length := by
    refine List.length_pos_of_mem (a := m) ?_
    exact List.mem_filter.2 ⟨List.mem_cons_self .., by simp [isKid]⟩
   unfold fullF
   omega
theorem rest_lt {cuts : List Int} {ms : List Ms} {n : Nat} (hn : n = cuts.length + 1) (hm : 0 < ms.length) : (restF cuts ms (fullF n cuts ms)).length < ms.length := by
 have h1 := of_rest cuts ms (fullF n cuts ms)
 have h2 := full_pos (ms := ms) hn hm
 omega
/-! The potential -/
mutual
def phi : Tr → Nat
 | ⟨l, ps, _, ks, b⟩ => (if l then 1 + ps.length else phiL ks) + 3 * b.length
def phiL : List Tr → Nat
 | [] => 0
 | k :: ks => phi k + phiL ks
end
theorem phiL_app : ∀ a b : List Tr, phiL (a ++ b) = phiL a + phiL b
 | [], b => by simp [phiL]
 | x :: a, b => by simp only [List.cons_append, phiL, phiL_app a b]; omega
theorem phi_lf (ps : List Pr) : phi (lf ps) = 1 + ps.length := by simp [lf, phi]
theorem phi_nd (ks : List Tr) (cs : List Int) : phi (nd ks cs) = phiL ks := by simp [nd, phi]
theorem phi_get : ∀ (ks : List Tr) (i : Nat), i < ks.length → phiL ks = phiL (ks.take i) + (phi (ks.getD i (dflt .tr)) + phiL (ks.drop (i + 1)))
 | k :: ks, 0, _ => by simp [phiL]
 | k :: ks, i + 1, h => by
   have := phi_get ks i (by simpa using h)
   simp only [phiL, List.take_succ_cons, List.getD_cons_succ, List.drop_succ_cons]
   omega
theorem phi_put (r : Rw) (i : Nat) (x : Rw) (h : i < r.1.length) : phiL (putF r i x).1 + phi (r.1.getD i (dflt .tr)) = phiL r.1 + phiL x.1 := by
 have := phi_get r.1 i h
 simp only [putF, phiL_app]
 omega
def Inv : Nat → Int → Int → Tr → Prop
 | 0, lo, hi, t => t.leaf = true ∧ MapP t.pairs ∧ (∀ x ∈ t.pairs, lo ≤ x.k ∧ x.k < hi) ∧ t.pairs.length ≤ 4 ∧ t.cuts = [] ∧ t.kids = [] ∧ t.buf = []
 | d + 1, lo, hi, t => t.leaf = false ∧ t.pairs = [] ∧ RowI (Inv d) lo hi t.kids t.cuts ∧ ∀ m ∈ t.buf, MsP lo hi m
theorem phi_leaf {t : Tr} (h : t.leaf = true) : phi t = 1 + t.pairs.length + 3 * t.buf.length := by
 cases t; simp only at h; simp [phi, h]
theorem phi_node {t : Tr} (h : t.leaf = false) : phi t = phiL t.kids + 3 * t.buf.length := by
 cases t; simp only at h; simp [phi, h]
theorem inv_pos : ∀ {d : Nat} {lo hi : Int} {t : Tr}, Inv d lo hi t → 1 ≤ phi t
 | 0, lo, hi, t, h => by rw [phi_leaf h.1]; omega
 | d + 1, lo, hi, t, h => by
   rw [phi_node h.1]
   have h1 := row_len h.2.2.1
   have h2 := h.2.2.1
   match hk : t.kids, hc : t.cuts, h1, h2 with
   | k :: ks, c :: cs, _, h2 =>
     simp only [RowI] at h2
     have := inv_pos h2.2.2.1
     simp only [phiL]; omega
   | [k], [], _, h2 =>
     simp only [RowI] at h2
     have := inv_pos h2
     simp only [phiL]; omega
   | k :: k' :: ks, [], h1, _ => simp at h1
   | [], cs, h1, _ => simp at h1
theorem row_phi {d : Nat} : ∀ {ks : List Tr} {cs : List Int} {lo hi : Int}, RowI (Inv d) lo hi ks cs → ks.length ≤ phiL ks
 | k :: ks, c :: cs, lo, hi, h => by
   simp only [RowI] at h
   have h1 := inv_pos h.2.2.1
   have h2 := row_phi h.2.2.2
   simp only [List.length_cons, phiL]; omega
 | [k], [], lo, hi, h => by
   simp only [RowI] at h
   have h1 := inv_pos h
   simp only [List.length_cons, List.length_nil, phiL]; omega
 | k :: k' :: ks, [], lo, hi, h => by simp only [RowI] at h
 | [], c :: cs, lo, hi, h => by simp only [RowI] at h
 | [], [], lo, hi, h => by simp only [RowI] at h
end Go.Proofs.YthbpdhppelaihaaGreat
/- What is given to a tree leaves what is right: plain laws. Conditions: none. -/
namespace Go.Proofs.YthbpdhppelaihaaGreat
theorem leafG_small {ps : List Pr} (h : ps.length < 4) : leafG ps = ([lf ps], []) := by
 match ps, h with
 | [], _ => rfl
 | [_], _ => rfl
 | [_, _], _ => rfl
 | [_, _, _], _ => rfl
 | _ :: _ :: _ :: _ :: _, h => simp at h; omega
theorem leafG_ok : ∀ {ps : List Pr} {lo hi : Int}, MapP ps → (∀ x ∈ ps, lo ≤ x.k ∧ x.k < hi) → RowI (Inv 0) lo hi (leafG ps).1 (leafG ps).2
 | a :: b :: c :: d :: ps, lo, hi, h, hr => by
   have h1 := List.pairwise_cons.1 h.1
   have h2 := List.pairwise_cons.1 h1.2
   have hac := h1.1 c (by simp)
   have hbc := h2.1 c (by simp)
   have hab := h1.1 b (by simp)
   have ha := hr a (by simp)
   have hb := hr b (by simp)
   have hc := hr c (by simp)
   have h3 := List.pairwise_cons.1 h2.2
   simp only [leafG, RowI]
   refine ⟨by omega, hc.2, ⟨rfl, ⟨?_, fun x hx => h.2 x ?_⟩, fun x hx => ?_, by simp [lf], rfl, rfl, rfl⟩, leafG_ok ⟨h2.2, fun x hx => h.2 x (List.mem_cons_of_mem _ (List.mem_cons_of_mem _ hx))⟩ fun x hx => ?_⟩
   · exact List.pairwise_cons.2 ⟨fun y hy => by simp at hy; rw [hy]; exact hab, List.pairwise_cons.2 ⟨fun y hy => by simp at hy, List.Pairwise.nil⟩⟩
   · simp only [lf, List.mem_cons, List.not_mem_nil, or_false] at hx
     rcases hx with rfl | rfl <;> simp
   · simp only [lf, List.mem_cons, List.not_mem_nil, or_false] at hx
     rcases hx with rfl | rfl <;> omega
   · have := hr x (List.mem_cons_of_mem _ (List.mem_cons_of_mem _ hx))
     rcases List.mem_cons.1 hx with rfl | hx
     · omega
     · have := h3.1 x hx; omega
 | [], lo, hi, h, hr => by simp only [leafG, RowI]; exact ⟨rfl, h, hr, by simp [lf], rfl, rfl, rfl⟩
 | [a], lo, hi, h, hr => by simp only [leafG, RowI]; exact ⟨rfl, h, hr, by simp [lf], rfl, rfl, rfl⟩
 | [a, b], lo, hi, h, hr => by simp only [leafG, RowI]; exact ⟨rfl, h, hr, by simp [lf], rfl, rfl, rfl⟩
 | [a, b, c], lo, hi, h, hr => by simp only [leafG, RowI]; exact ⟨rfl, h, hr, by simp [lf], rfl, rfl, rfl⟩
theorem leafG_phi : ∀ {ps : List Pr}, 2 ≤ ps.length → 2 * phiL (leafG ps).1 ≤ 3 * ps.length
 | a :: b :: c :: d :: ps, _ => by
   have := leafG_phi (ps := c :: d :: ps) (by simp)
   simp only [leafG, phiL, phi_lf, List.length_cons, List.length_nil] at this ⊢
   omega
 | [], h => by simp at h
 | [a], h => by simp at h
 | [a, b], _ => by simp [leafG, phiL, phi_lf]
 | [a, b, c], _ => by simp [leafG, phiL, phi_lf]
theorem leaves_ok {ps : List Pr} {lo hi : Int} (h : MapP ps) (hr : ∀ x ∈ ps, lo ≤ x.k ∧ x.k < hi) : RowI (Inv 0) lo hi (leavesF ps).1 (leavesF ps).2 := by
 unfold leavesF
 split
 · exact ⟨rfl, h, hr, by assumption, rfl, rfl, rfl⟩
 · exact leafG_ok h hr
def GOk (d : Nat) (g : Tr → List Ms → Rw) : Prop := ∀ lo hi t ms, Inv d lo hi t → (∀ m ∈ ms, MsP lo hi m) → RowI (Inv d) lo hi (g t ms).1 (g t ms).2 ∧ phiL (g t ms).1 ≤ phi t + 3 * ms.length
theorem give0 : GOk 0 (giveF 0) := by
 intro lo hi t ms ⟨h1, h2, h3, h4, h5, h6, h7⟩ hm
 have hmap := all_map (ms := ms) h2
 have hkey : ∀ x ∈ allF t.pairs ms, lo ≤ x.k ∧ x.k < hi := fun x hx => by
  rcases all_mem hx with ⟨m, hm1, hm2⟩ | hx
  · have := (hm m hm1).2; omega
  · exact h3 x hx
 have hlen := all_len ms t.pairs
 refine ⟨leaves_ok hmap hkey, ?_⟩
 rw [phi_leaf h1, h7]
 show phiL (leavesF (allF t.pairs ms)).1 ≤ _
 unfold leavesF
 split
 · simp only [phiL, phi_lf, List.length_nil]; omega
 · have := leafG_phi (ps := allF t.pairs ms) (by omega)
   simp only [List.length_nil]
   omega
/-! Flushing -/
def nextS (g : Tr → List Ms → Rw) (s : Rw × List Ms) : Rw × List Ms := (putF s.1 (fullF s.1.1.length s.1.2 s.2) (g (s.1.1.getD (fullF s.1.1.length s.1.2 s.2) (dflt .tr)) (ofKidF s.1.2 s.2 (fullF s.1.1.length s.1.2 s.2))), restF s.1.2 s.2 (fullF s.1.1.length s.1.2 s.2))
def SOk (d : Nat) (lo hi : Int) (s : Rw × List Ms) : Prop := RowI (Inv d) lo hi s.1.1 s.1.2 ∧ ∀ m ∈ s.2, MsP lo hi m
def phiS (s : Rw × List Ms) : Nat := phiL s.1.1 + 3 * s.2.length
theorem next_ok {d : Nat} {g : Tr → List Ms → Rw} (hg : GOk d g) {lo hi : Int} {s : Rw × List Ms} (h : SOk d lo hi s) (hl : 6 < s.2.length) : SOk d lo hi (nextS g s) ∧ phiS (nextS g s) ≤ phiS s ∧ (nextS g s).2.length < s.2.length := by
 have hr := row_len h.1
 have hi := full_lt (cuts := s.1.2) (ms := s.2) (n := s.1.1.length) (by omega)
 have hlt := rest_lt (cuts := s.1.2) (ms := s.2) (n := s.1.1.length) hr (by omega)
 have hor := of_rest s.1.2 s.2 (fullF s.1.1.length s.1.2 s.2)
 obtain ⟨a, b, h1, h2, h3, h4, h5⟩ := row_kid h.1 hi
 have hms : ∀ m ∈ ofKidF s.1.2 s.2 (fullF s.1.1.length s.1.2 s.2), MsP a b m := fun m hm => by
  obtain ⟨hm1, hm2⟩ := List.mem_filter.1 hm
  have h6 := h.2 m hm1
  have h7 := h4 m.k h6.2.1 h6.2.2 (of_decide_eq_true hm2)
  exact ⟨h6.1, h7⟩
 have hgk := hg a b _ _ h1 hms
 refine ⟨⟨h5 _ hgk.1, fun m hm => h.2 m (List.mem_filter.1 hm).1⟩, ?_, hlt⟩
 have hp := phi_put s.1 (fullF s.1.1.length s.1.2 s.2) (g (s.1.1.getD (fullF s.1.1.length s.1.2 s.2) (dflt .tr)) (ofKidF s.1.2 s.2 (fullF s.1.1.length s.1.2 s.2))) hi
 unfold phiS
 simp only [nextS]
 omega
theorem flushF_ok {d : Nat} {g : Tr → List Ms → Rw} (hg : GOk d g) {lo hi : Int} : ∀ (f : Nat) {s : Rw × List Ms}, SOk d lo hi s → s.2.length ≤ f → SOk d lo hi (flushF g f s) ∧ phiS (flushF g f s) ≤ phiS s ∧ (flushF g f s).2.length ≤ 6
 | 0, s, h, hl => ⟨h, Nat.le_refl _, by simp only [flushF]; omega⟩
 | f + 1, s, h, hl => by
   simp only [flushF]
   split
   · exact ⟨h, Nat.le_refl _, by assumption⟩
   · obtain ⟨h1, h2, h3⟩ := next_ok hg h (by omega)
     obtain ⟨h4, h5, h6⟩ := flushF_ok hg f h1 (by omega)
     exact ⟨h4, Nat.le_trans h5 h2, h6⟩
theorem flush_fuel {d : Nat} {g : Tr → List Ms → Rw} (hg : GOk d g) {lo hi : Int} : ∀ (f f' : Nat) {s : Rw × List Ms}, SOk d lo hi s → s.2.length ≤ f → s.2.length ≤ f' → flushF g f s = flushF g f' s
 | 0, 0, s, h, _, _ => rfl
 | 0, f' + 1, s, h, h1, _ => by simp only [flushF]; rw [if_pos (by omega)]
 | f + 1, 0, s, h, _, h1 => by simp only [flushF]; rw [if_pos (by omega)]
 | f + 1, f' + 1, s, h, h1, h2 => by
   simp only [flushF]
   split
   · rfl
   · obtain ⟨h3, _, h4⟩ := next_ok hg h (by omega)
     exact flush_fuel hg f f' h3 (by show (nextS g s).2.length ≤ _; omega) (by show (nextS g s).2.length ≤ _; omega)
theorem flush_step {d : Nat} {g : Tr → List Ms → Rw} (hg : GOk d g) {lo hi : Int} {s : Rw × List Ms} (h : SOk d lo hi s) (hl : 6 < s.2.length) : flush g s = flush g (nextS g s) := by
 obtain ⟨h1, _, h3⟩ := next_ok hg h hl
 unfold flush
 obtain ⟨n, hn⟩ : ∃ n, s.2.length = n + 1 := ⟨s.2.length - 1, by omega⟩
 rw [hn]
 conv => lhs; simp only [flushF]
 rw [if_neg (by omega)]
 exact flush_fuel hg n _ h1 (by show (nextS g s).2.length ≤ n; omega) (Nat.le_refl _)
theorem flush_stop {g : Tr → List Ms → Rw} {s : Rw × List Ms} (hl : s.2.length ≤ 6) : flush g s = s := by
 unfold flush
 cases hn : s.2.length with
 | zero => rfl
 | succ n => simp only [flushF]; rw [if_pos hl]
theorem flush_ok {d : Nat} {g : Tr → List Ms → Rw} (hg : GOk d g) {lo hi : Int} {s : Rw × List Ms} (h : SOk d lo hi s) : SOk d lo hi (flush g s) ∧ phiS (flush g s) ≤ phiS s ∧ (flush g s).2.length ≤ 6 := flushF_ok hg _ h (Nat.le_refl _)
/-! Giving all down -/
def cntF (cuts0 : List Int) (ms : List Ms) (i : Nat) : Nat := (ms.filter (fun m => decide (i ≤ kidF cuts0 m.k))).length
theorem cnt_succ (cuts0 : List Int) (ms : List Ms) (i : Nat) : cntF cuts0 ms i = (ofKidF cuts0 ms i).length + cntF cuts0 ms (i + 1) := by
 unfold cntF ofKidF
 induction ms with
 | nil => rfl
 | cons m ms ih =>
   simp only [List.filter_cons]
   by_cases h1 : kidF cuts0 m.k = i
   · have e1 : isKid cuts0 i m = true := decide_eq_true h1
     have e2 : decide (i ≤ kidF cuts0 m.k) = true := decide_eq_true (by omega)
     have e3 : ¬ decide (i + 1 ≤ kidF cuts0 m.k) = true := by simp; omega
     rw [if_pos e1, if_pos e2, if_neg e3]
     simp only [List.length_cons]
     omega
   · have e1 : ¬ isKid cuts0 i m = true := fun e => h1 (of_decide_eq_true e)
     by_cases h2 : i ≤ kidF cuts0 m.k
     · have e2 : decide (i ≤ kidF cuts0 m.k) = true := decide_eq_true h2
       have e3 : decide (i + 1 ≤ kidF cuts0 m.k) = true := decide_eq_true (by omega)
       rw [if_neg e1, if_pos e2, if_pos e3]
       simp only [List.length_cons]
       omega
     · have e2 : ¬ decide (i ≤ kidF cuts0 m.k) = true := by simp; omega
       have e3 : ¬ decide (i + 1 ≤ kidF cuts0 m.k) = true := by simp; omega
       rw [if_neg e1, if_neg e2, if_neg e3]
       exact ih
theorem kidX_ok {d : Nat} {g : Tr → List Ms → Rw} (hg : GOk d g) {lo hi : Int} {t : Tr} {l : List Ms} (h : Inv d lo hi t) (hl : ∀ m ∈ l, MsP lo hi m) : RowI (Inv d) lo hi (kidX g l t).1 (kidX g l t).2 ∧ phiL (kidX g l t).1 ≤ phi t + 3 * l.length := by
 unfold kidX
 split
 · exact ⟨h, by simp only [phiL]; omega⟩
 · exact hg lo hi t l h hl
theorem downG_ok {d : Nat} {g : Tr → List Ms → Rw} (hg : GOk d g) {cuts0 : List Int} {ms : List Ms} : ∀ {ks : List Tr} {cs : List Int} {lo hi : Int} {i : Nat}, RowI (Inv d) lo hi ks cs → (∀ m ∈ ms, okM m = true ∧ m.k < hi) → (∀ m ∈ ms, i ≤ kidF cuts0 m.k → lo ≤ m.k ∧ kidF cuts0 m.k = i + kidF cs m.k) →
 RowI (Inv d) lo hi (downG g cuts0 ms i ks cs).1 (downG g cuts0 ms i ks cs).2 ∧ phiL (downG g cuts0 ms i ks cs).1 ≤ phiL ks + 3 * cntF cuts0 ms i
 | k :: ks, c :: cs, lo, hi, i, h, hm, hA => by
   simp only [RowI] at h
   have hx := kidX_ok hg (l := ofKidF cuts0 ms i) h.2.2.1 fun m hm' => by
    obtain ⟨h1, h2⟩ := List.mem_filter.1 hm'
    have h3 : kidF cuts0 m.k = i := of_decide_eq_true h2
    obtain ⟨h4, h5⟩ := hA m h1 (by omega)
    rw [kid_cons] at h5
    refine ⟨(hm m h1).1, h4, ?_⟩
    split at h5 <;> omega
   have hd := downG_ok hg (ks := ks) (cs := cs) (lo := c) (hi := hi) (i := i + 1) (cuts0 := cuts0) (ms := ms) h.2.2.2 hm fun m hm' hi' => by
    obtain ⟨h4, h5⟩ := hA m hm' (by omega)
    rw [kid_cons] at h5
    by_cases hc : c ≤ m.k
    · rw [if_pos hc] at h5; omega
    · rw [if_neg hc, kid_zero (cuts := cs) fun c' hc' => by have := (row_cuts h.2.2.2 c' hc').1; omega] at h5
      omega
   have hcn := cnt_succ cuts0 ms i
   simp only [downG, phiL_app, phiL]
   exact ⟨row_app hx.1 h.1 h.2.1 hd.1, by omega⟩
 | [k], [], lo, hi, i, h, hm, hA => by
   simp only [RowI] at h
   have hx := kidX_ok hg (l := ofKidF cuts0 ms i) h fun m hm' => by
    obtain ⟨h1, h2⟩ := List.mem_filter.1 hm'
    have h3 : kidF cuts0 m.k = i := of_decide_eq_true h2
    obtain ⟨h4, h5⟩ := hA m h1 (by omega)
    exact ⟨(hm m h1).1, h4, (hm m h1).2⟩
   have hcn := cnt_succ cuts0 ms i
   simp only [downG, phiL]
   exact ⟨hx.1, by omega⟩
 | k :: k' :: ks, [], lo, hi, i, h, _, _ => by simp only [RowI] at h
 | [], c :: cs, lo, hi, i, h, _, _ => by simp only [RowI] at h
 | [], [], lo, hi, i, h, _, _ => by simp only [RowI] at h
theorem down_ok {d : Nat} {g : Tr → List Ms → Rw} (hg : GOk d g) {lo hi : Int} {r : Rw} {ms : List Ms} (h : RowI (Inv d) lo hi r.1 r.2) (hm : ∀ m ∈ ms, MsP lo hi m) : RowI (Inv d) lo hi (downF g r ms).1 (downF g r ms).2 ∧ phiL (downF g r ms).1 ≤ phiL r.1 + 3 * ms.length := by
 have h1 := downG_ok hg (cuts0 := r.2) (ms := ms) (i := 0) h (fun m hm' => ⟨(hm m hm').1, (hm m hm').2.2⟩) fun m hm' _ => ⟨(hm m hm').2.1, (Nat.zero_add _).symm⟩
 have h2 : cntF r.2 ms 0 ≤ ms.length := List.length_filter_le _ _
 exact ⟨h1.1, by have := h1.2; show phiL (downG g r.2 ms 0 r.1 r.2).1 ≤ _; omega⟩
/-! Packing -/
theorem pack_ok {d : Nat} : ∀ {ks : List Tr} {cs : List Int} {lo hi : Int}, RowI (Inv d) lo hi ks cs → RowI (Inv (d + 1)) lo hi (packG ks cs).1 (packG ks cs).2 ∧ phiL (packG ks cs).1 = phiL ks
 | a :: b :: c :: e :: ks, x :: y :: cs, lo, hi, h => by
   simp only [RowI] at h
   have hd := pack_ok (ks := c :: e :: ks) (cs := cs) h.2.2.2.2.2.2
   simp only [packG, RowI, phiL, phi_nd] at hd ⊢
   refine ⟨⟨by omega, by omega, ⟨rfl, rfl, ?_, fun m hm => by simp [nd] at hm⟩, hd.1⟩, by omega⟩
   simp only [nd, RowI]
   exact ⟨h.1, by omega, h.2.2.1, h.2.2.2.2.2.1⟩
 | [a], cs, lo, hi, h => by
   exact ⟨by simp only [packG, RowI]; exact ⟨rfl, rfl, h, fun m hm => by simp [nd] at hm⟩, by simp [packG, phiL, phi_nd]⟩
 | [a, b], cs, lo, hi, h => by
   exact ⟨by simp only [packG, RowI]; exact ⟨rfl, rfl, h, fun m hm => by simp [nd] at hm⟩, by simp [packG, phiL, phi_nd]⟩
 | [a, b, c], cs, lo, hi, h => by
   exact ⟨by simp only [packG, RowI]; exact ⟨rfl, rfl, h, fun m hm => by simp [nd] at hm⟩, by simp [packG, phiL, phi_nd]⟩
 | [], cs, lo, hi, h => by cases cs <;> simp only [RowI] at h
 | a :: b :: c :: e :: ks, [], lo, hi, h => by simp only [RowI] at h
 | a :: b :: c :: e :: ks, [x], lo, hi, h => by simp only [RowI] at h; exact h.2.2.2.elim
theorem wrap_ok {d : Nat} {g : Tr → List Ms → Rw} (hg : GOk d g) {lo hi : Int} {s : Rw × List Ms} (h : SOk d lo hi s) : RowI (Inv (d + 1)) lo hi (wrapUp g s).1 (wrapUp g s).2 ∧ phiL (wrapUp g s).1 ≤ phiS s := by
 unfold wrapUp phiS
 split
 · have h1 := down_ok hg h.1 h.2
   have h2 := pack_ok h1.1
   exact ⟨h2.1, by show phiL (packG _ _).1 ≤ _; rw [h2.2]; exact h1.2⟩
 · exact ⟨⟨rfl, rfl, h.1, h.2⟩, by simp [phiL, phi]⟩
theorem give_ok : ∀ d : Nat, GOk d (giveF d)
 | 0 => give0
 | d + 1 => by
   intro lo hi t ms ⟨h1, h2, h3, h4⟩ hm
   have hg := give_ok d
   have hall : ∀ m ∈ t.buf ++ ms, MsP lo hi m := fun m hm' => (List.mem_append.1 hm').elim (h4 m) (hm m)
   have hs : SOk d lo hi ((t.kids, t.cuts), shrinkF (t.buf ++ ms)) := ⟨h3, shrink_ok hall⟩
   obtain ⟨h5, h6, h7⟩ := flush_ok hg hs
   obtain ⟨h8, h9⟩ := wrap_ok hg h5
   have hl := shrink_len (t.buf ++ ms)
   have hps : phiS ((t.kids, t.cuts), shrinkF (t.buf ++ ms)) = phiL t.kids + 3 * (shrinkF (t.buf ++ ms)).length := rfl
   simp only [List.length_append] at hl
   rw [phi_node h1]
   exact ⟨h8, by show phiL (wrapUp _ _).1 ≤ _; omega⟩
/-! Draining -/
theorem join_ok {d : Nat} {g : Tr → Rw} (hg : ∀ lo hi t, Inv d lo hi t → RowI (Inv d) lo hi (g t).1 (g t).2 ∧ phiL (g t).1 ≤ phi t) : ∀ {ks : List Tr} {cs : List Int} {lo hi : Int}, RowI (Inv d) lo hi ks cs → RowI (Inv d) lo hi (joinG g ks cs).1 (joinG g ks cs).2 ∧ phiL (joinG g ks cs).1 ≤ phiL ks
 | k :: ks, c :: cs, lo, hi, h => by
   simp only [RowI] at h
   have hx := hg _ _ _ h.2.2.1
   have hd := join_ok hg h.2.2.2
   simp only [joinG, phiL_app, phiL]
   exact ⟨row_app hx.1 h.1 h.2.1 hd.1, by omega⟩
 | [k], [], lo, hi, h => by
   simp only [RowI] at h
   have hx := hg _ _ _ h
   simp only [joinG, phiL]
   exact ⟨hx.1, by omega⟩
 | k :: k' :: ks, [], lo, hi, h => by simp only [RowI] at h
 | [], c :: cs, lo, hi, h => by simp only [RowI] at h
 | [], [], lo, hi, h => by simp only [RowI] at h
theorem drain_ok : ∀ (d : Nat) (lo hi : Int) (t : Tr), Inv d lo hi t → RowI (Inv d) lo hi (drainF d t).1 (drainF d t).2 ∧ phiL (drainF d t).1 ≤ phi t
 | 0, lo, hi, t, h => ⟨h, by simp [drainF, phiL]⟩
 | d + 1, lo, hi, t, ⟨h1, h2, h3, h4⟩ => by
   have h5 := down_ok (give_ok d) (r := (t.kids, t.cuts)) h3 h4
   have h6 := join_ok (drain_ok d) h5.1
   rw [phi_node h1]
   simp only [drainF, shut]
   split
   · have h7 := pack_ok h6.1
     exact ⟨h7.1, by show phiL (packG _ _).1 ≤ _; rw [h7.2]; have := h5.2; simp only at this; omega⟩
   · refine ⟨⟨rfl, rfl, h6.1, fun m hm => by simp [nd] at hm⟩, ?_⟩
     simp only [phiL, phi_nd]
     have := h5.2
     simp only at this
     omega
end Go.Proofs.YthbpdhppelaihaaGreat
/- Parts of two, three in the last one: plain laws. Conditions: none. -/
namespace Go.Proofs.YthbpdhppelaihaaGreat
def toF (n i : Nat) : Nat := if i + 1 < n / 2 then 2 * (i + 1) else n
def nodeAt (r : Rw) (i : Nat) : Tr := nd ((r.1.take (toF r.1.length i)).drop (2 * i)) ((r.2.take (toF r.1.length i - 1)).drop (2 * i))
def sepAt (r : Rw) (i : Nat) : List Int := if i = 0 then [] else [r.2.getD (2 * i - 1) (dflt .int)]
def leafAt (ps : List Pr) (i : Nat) : Tr := lf ((ps.take (toF ps.length i)).drop (2 * i))
def sepL (ps : List Pr) (i : Nat) : List Int := if i = 0 then [] else [(ps.getD (2 * i) (dflt .pr)).k]
theorem to_le {n i : Nat} (h : 2 ≤ n) : toF n i ≤ n := by unfold toF; split <;> omega
theorem to_gt {n i : Nat} (h : 2 ≤ n) (hi : i < n / 2) : 2 * i + 2 ≤ toF n i := by unfold toF; split <;> omega
theorem drop_take2 {α : Type} (l : List α) (i m : Nat) : (l.take (i + m)).drop i = (l.drop i).take m := by
 rw [List.drop_take]; congr 1; omega
theorem pack_small {ks : List Tr} {cs : List Int} (h : ks.length < 4) : packG ks cs = ([nd ks cs], []) := by
 match ks, h with
 | [], _ => rfl
 | [_], _ => rfl
 | [_, _], _ => rfl
 | [_, _, _], _ => rfl
 | _ :: _ :: _ :: _ :: _, h => simp at h; omega
theorem pack_next (r : Rw) (i : Nat) (hl : r.1.length = r.2.length + 1) (h : i + 1 < r.1.length / 2) :
 packG (r.1.drop (2 * i)) (r.2.drop (2 * i)) = (nodeAt r i :: (packG (r.1.drop (2 * (i + 1))) (r.2.drop (2 * (i + 1)))).1, r.2.getD (2 * (i + 1) - 1) (dflt .int) :: (packG (r.1.drop (2 * (i + 1))) (r.2.drop (2 * (i + 1)))).2) := by
 have h1 : (r.1.drop (2 * i)).length ≥ 4 := by rw [List.length_drop]; omega
 have h2 : (r.2.drop (2 * i)).length ≥ 3 := by rw [List.length_drop]; omega
 have h3 : r.1.drop (2 * (i + 1)) = (r.1.drop (2 * i)).drop 2 := by rw [List.drop_drop]; congr 1
 have h4 : r.2.drop (2 * (i + 1)) = (r.2.drop (2 * i)).drop 2 := by rw [List.drop_drop]; congr 1
 have h5 : (r.1.take (toF r.1.length i)).drop (2 * i) = (r.1.drop (2 * i)).take 2 := by
  rw [show toF r.1.length i = 2 * i + 2 by unfold toF; rw [if_pos h]; omega]; exact drop_take2 _ _ _
 have h6 : (r.2.take (toF r.1.length i - 1)).drop (2 * i) = (r.2.drop (2 * i)).take 1 := by
  rw [show toF r.1.length i - 1 = 2 * i + 1 by unfold toF; rw [if_pos h]; omega]; exact drop_take2 _ _ _
 have h7 : r.2.getD (2 * (i + 1) - 1) (dflt .int) = (r.2.drop (2 * i)).getD 1 (dflt .int) := by
  rw [List.getD_eq_getElem?_getD, List.getD_eq_getElem?_getD, List.getElem?_drop]
  rfl
 unfold nodeAt
 rw [h5, h6, h7, h3, h4]
 generalize r.1.drop (2 * i) = K at *
 generalize r.2.drop (2 * i) = C at *
 match K, h1, C, h2 with
 | a :: b :: c :: d :: ks, _, x :: y :: cs, _ => rfl
 | [], h, _, _ => simp at h
 | [_], h, _, _ => simp at h
 | [_, _], h, _, _ => simp at h
 | [_, _, _], h, _, _ => simp at h
 | _ :: _ :: _ :: _ :: _, _, [], h => simp at h
 | _ :: _ :: _ :: _ :: _, _, [_], h => simp at h
theorem pack_last (r : Rw) (i : Nat) (hl : r.1.length = r.2.length + 1) (h : ¬ i + 1 < r.1.length / 2) (hi : i < r.1.length / 2) : packG (r.1.drop (2 * i)) (r.2.drop (2 * i)) = ([nodeAt r i], []) := by
 rw [pack_small (by rw [List.length_drop]; omega)]
 unfold nodeAt toF
 rw [if_neg h, List.take_length, List.take_of_length_le (by omega)]
def PInv (r : Rw) (i : Nat) (o : Rw) : Prop := i ≤ r.1.length / 2 ∧ o.1.length ≤ i ∧ o.2.length ≤ i ∧
 (i < r.1.length / 2 → o.1 ++ (packG (r.1.drop (2 * i)) (r.2.drop (2 * i))).1 = (packF r).1 ∧ o.2 ++ (sepAt r i ++ (packG (r.1.drop (2 * i)) (r.2.drop (2 * i))).2) = (packF r).2) ∧ (i = r.1.length / 2 → o = packF r)
theorem pinv_zero (r : Rw) (h : 2 ≤ r.1.length) : PInv r 0 ([], []) := ⟨Nat.zero_le _, Nat.le_refl _, Nat.le_refl _, fun _ => ⟨rfl, rfl⟩, fun h0 => by omega⟩
theorem pinv_step {r : Rw} {i : Nat} {o : Rw} (hl : r.1.length = r.2.length + 1) (hi : i < r.1.length / 2) (h : PInv r i o) : PInv r (i + 1) (o.1 ++ [nodeAt r i], o.2 ++ sepAt r i) := by
 obtain ⟨h1, h2, h3, h4, h5⟩ := h
 obtain ⟨h6, h7⟩ := h4 hi
 have hs : (sepAt r i).length ≤ 1 := by unfold sepAt; split <;> simp
 refine ⟨hi, by simp; omega, by simp; omega, fun hn => ?_, fun hn => ?_⟩
 · rw [pack_next r i hl hn] at h6 h7
   have e : sepAt r (i + 1) = [r.2.getD (2 * (i + 1) - 1) (dflt .int)] := by unfold sepAt; rw [if_neg (by omega)]
   rw [e]
   simp only [List.append_assoc, List.cons_append, List.nil_append] at h6 h7 ⊢
   exact ⟨h6, h7⟩
 · rw [pack_last r i hl (by omega) hi] at h6 h7
   simp only [List.append_nil] at h7
   rw [h6, h7]
/-! Leaves -/
theorem leaf_next (ps : List Pr) (i : Nat) (h : i + 1 < ps.length / 2) :
 leafG (ps.drop (2 * i)) = (leafAt ps i :: (leafG (ps.drop (2 * (i + 1)))).1, (ps.getD (2 * (i + 1)) (dflt .pr)).k :: (leafG (ps.drop (2 * (i + 1)))).2) := by
 have h1 : (ps.drop (2 * i)).length ≥ 4 := by rw [List.length_drop]; omega
 have h3 : ps.drop (2 * (i + 1)) = (ps.drop (2 * i)).drop 2 := by rw [List.drop_drop]; congr 1
 have h5 : (ps.take (toF ps.length i)).drop (2 * i) = (ps.drop (2 * i)).take 2 := by
  rw [show toF ps.length i = 2 * i + 2 by unfold toF; rw [if_pos h]; omega]; exact drop_take2 _ _ _
 have h7 : ps.getD (2 * (i + 1)) (dflt .pr) = (ps.drop (2 * i)).getD 2 (dflt .pr) := by
  rw [List.getD_eq_getElem?_getD, List.getD_eq_getElem?_getD, List.getElem?_drop]
  rfl
 unfold leafAt
 rw [h5, h7, h3]
 generalize ps.drop (2 * i) = K at *
 match K, h1 with
 | a :: b :: c :: d :: ks, _ => rfl
 | [], h => simp at h
 | [_], h => simp at h
 | [_, _], h => simp at h
 | [_, _, _], h => simp at h
theorem leaf_last (ps : List Pr) (i : Nat) (h : ¬ i + 1 < ps.length / 2) (hi : i < ps.length / 2) : leafG (ps.drop (2 * i)) = ([leafAt ps i], []) := by
 rw [leafG_small (by rw [List.length_drop]; omega)]
 unfold leafAt toF
 rw [if_neg h, List.take_length]
def LInv (ps : List Pr) (i : Nat) (o : Rw) : Prop := i ≤ ps.length / 2 ∧ o.1.length ≤ i ∧ o.2.length ≤ i ∧
 (i < ps.length / 2 → o.1 ++ (leafG (ps.drop (2 * i))).1 = (leafG ps).1 ∧ o.2 ++ (sepL ps i ++ (leafG (ps.drop (2 * i))).2) = (leafG ps).2) ∧ (i = ps.length / 2 → o = leafG ps)
theorem linv_zero (ps : List Pr) (h : 2 ≤ ps.length) : LInv ps 0 ([], []) := ⟨Nat.zero_le _, Nat.le_refl _, Nat.le_refl _, fun _ => ⟨rfl, rfl⟩, fun h0 => by omega⟩
theorem linv_step {ps : List Pr} {i : Nat} {o : Rw} (hi : i < ps.length / 2) (h : LInv ps i o) : LInv ps (i + 1) (o.1 ++ [leafAt ps i], o.2 ++ sepL ps i) := by
 obtain ⟨h1, h2, h3, h4, h5⟩ := h
 obtain ⟨h6, h7⟩ := h4 hi
 have hs : (sepL ps i).length ≤ 1 := by unfold sepL; split <;> simp
 refine ⟨hi, by simp; omega, by simp; omega, fun hn => ?_, fun hn => ?_⟩
 · rw [leaf_next ps i hn] at h6 h7
   have e : sepL ps (i + 1) = [(ps.getD (2 * (i + 1)) (dflt .pr)).k] := by unfold sepL; rw [if_neg (by omega)]
   rw [e]
   simp only [List.append_assoc, List.cons_append, List.nil_append] at h6 h7 ⊢
   exact ⟨h6, h7⟩
 · rw [leaf_last ps i (by omega) hi] at h6 h7
   simp only [List.append_nil] at h7
   rw [h6, h7]
end Go.Proofs.YthbpdhppelaihaaGreat
/- Rows put together kid by kid: plain laws. Conditions: none. -/
namespace Go.Proofs.YthbpdhppelaihaaGreat
def jG (f : Nat → Tr → Rw) : Nat → List Tr → List Int → Rw
 | i, k :: ks, c :: cs => ((f i k).1 ++ (jG f (i + 1) ks cs).1, (f i k).2 ++ c :: (jG f (i + 1) ks cs).2)
 | i, k :: _, [] => f i k
 | _, [], _ => ([], [])
theorem down_jG (g : Tr → List Ms → Rw) (cuts0 : List Int) (ms : List Ms) : ∀ (i : Nat) (ks : List Tr) (cs : List Int), downG g cuts0 ms i ks cs = jG (fun i k => kidX g (ofKidF cuts0 ms i) k) i ks cs
 | i, k :: ks, c :: cs => by simp only [downG, jG, down_jG g cuts0 ms (i + 1) ks cs]
 | i, k :: _, [] => rfl
 | _, [], [] => rfl
 | _, [], _ :: _ => rfl
theorem join_jG (g : Tr → Rw) : ∀ (i : Nat) (ks : List Tr) (cs : List Int), joinG g ks cs = jG (fun _ k => g k) i ks cs
 | i, k :: ks, c :: cs => by simp only [joinG, jG, join_jG g (i + 1) ks cs]
 | i, k :: _, [] => rfl
 | _, [], [] => rfl
 | _, [], _ :: _ => rfl
def sepD (r : Rw) (i : Nat) : List Int := if i = 0 then [] else [r.2.getD (i - 1) (dflt .int)]
def JInv (f : Nat → Tr → Rw) (r : Rw) (i : Nat) (o : Rw) : Prop := i ≤ r.1.length ∧
 (i < r.1.length → o.1 ++ (jG f i (r.1.drop i) (r.2.drop i)).1 = (jG f 0 r.1 r.2).1 ∧ o.2 ++ (sepD r i ++ (jG f i (r.1.drop i) (r.2.drop i)).2) = (jG f 0 r.1 r.2).2) ∧ (i = r.1.length → o = jG f 0 r.1 r.2)
theorem jinv_zero (f : Nat → Tr → Rw) (r : Rw) (h : 0 < r.1.length) : JInv f r 0 ([], []) := ⟨Nat.zero_le _, fun _ => ⟨rfl, rfl⟩, fun h0 => by omega⟩
theorem jinv_step {f : Nat → Tr → Rw} {r : Rw} {i : Nat} {o : Rw} (hl : r.1.length = r.2.length + 1) (hi : i < r.1.length) (h : JInv f r i o) :
 JInv f r (i + 1) (o.1 ++ (f i (r.1.getD i (dflt .tr))).1, o.2 ++ sepD r i ++ (f i (r.1.getD i (dflt .tr))).2) := by
 obtain ⟨h1, h4, h5⟩ := h
 obtain ⟨h6, h7⟩ := h4 hi
 have e1 : r.1.drop i = r.1.getD i (dflt .tr) :: r.1.drop (i + 1) := by
  rw [List.drop_eq_getElem_cons hi, List.getD_eq_getElem?_getD, List.getElem?_eq_getElem hi]; rfl
 refine ⟨hi, fun hn => ?_, fun hn => ?_⟩
 · have hi2 : i < r.2.length := by omega
   have e2 : r.2.drop i = r.2.getD i (dflt .int) :: r.2.drop (i + 1) := by
    rw [List.drop_eq_getElem_cons hi2, List.getD_eq_getElem?_getD, List.getElem?_eq_getElem hi2]; rfl
   rw [e1, e2] at h6 h7
   simp only [jG] at h6 h7
   have e : sepD r (i + 1) = [r.2.getD i (dflt .int)] := by unfold sepD; rw [if_neg (by omega)]; rfl
   rw [e]
   simp only [List.append_assoc, List.cons_append, List.nil_append] at h6 h7 ⊢
   exact ⟨h6, h7⟩
 · have e2 : r.2.drop i = [] := List.drop_eq_nil_of_le (by omega)
   rw [e1, e2] at h6 h7
   simp only [jG] at h6 h7
   rw [h6, List.append_assoc, h7]
theorem jinv_len {f : Nat → Tr → Rw} {r : Rw} {i : Nat} {o : Rw} (h : JInv f r i o) : o.1.length ≤ (jG f 0 r.1 r.2).1.length ∧ o.2.length ≤ (jG f 0 r.1 r.2).2.length := by
 obtain ⟨h1, h2, h3⟩ := h
 by_cases hi : i < r.1.length
 · obtain ⟨h4, h5⟩ := h2 hi
   rw [← h4, ← h5]
   simp only [List.length_append]; omega
 · rw [h3 (by omega)]; omega
theorem jG_cuts (f : Nat → Tr → Rw) : ∀ (i : Nat) (ks : List Tr) (cs : List Int), ks.length = cs.length + 1 → cs.length ≤ (jG f i ks cs).2.length
 | i, k :: ks, c :: cs, h => by
   have := jG_cuts f (i + 1) ks cs (by simpa using h)
   simp only [jG, List.length_append, List.length_cons]; omega
 | i, k :: _, [], _ => Nat.zero_le _
 | _, [], cs, h => by simp at h
theorem down_cuts (g : Tr → List Ms → Rw) (r : Rw) (ms : List Ms) (h : r.1.length = r.2.length + 1) : r.2.length ≤ (downF g r ms).2.length := by
 unfold downF; rw [down_jG]; exact jG_cuts _ _ _ _ h
theorem row_get {d : Nat} {lo hi : Int} {r : Rw} {ms : List Ms} {i : Nat} (h : RowI (Inv d) lo hi r.1 r.2) (hm : ∀ m ∈ ms, MsP lo hi m) (hi' : i < r.1.length) :
 ∃ a b, Inv d a b (r.1.getD i (dflt .tr)) ∧ (∀ m ∈ ofKidF r.2 ms i, MsP a b m) ∧ phi (r.1.getD i (dflt .tr)) + 3 * (ofKidF r.2 ms i).length ≤ phiL r.1 + 3 * ms.length := by
 obtain ⟨a, b, h1, h2, h3, h4, h5⟩ := row_kid h hi'
 refine ⟨a, b, h1, fun m hm' => ?_, ?_⟩
 · obtain ⟨hm1, hm2⟩ := List.mem_filter.1 hm'
   have h6 := hm m hm1
   exact ⟨h6.1, h4 m.k h6.2.1 h6.2.2 (of_decide_eq_true hm2)⟩
 · have := phi_get r.1 i hi'
   have := List.length_filter_le (isKid r.2 i) ms
   unfold ofKidF
   omega
end Go.Proofs.YthbpdhppelaihaaGreat