/- Trees: what laws.szTree leaves. Conditions: none. -/
import Derived.Test.YthbpdhppelaihaaGreatP2
set_option linter.unusedVariables false
set_option linter.unusedSimpArgs false
namespace Go.Proofs.YthbpdhppelaihaaGreat
open Go.RowKit
attribute [local irreducible] Tri
set_option maxRecDepth 4000
set_option maxHeartbeats 4000000
mutual
def szT : Tr → Int → Int
  | .mk _ p c k b, left => if sz1 p.length left < 0 then -1 else if sz1 c.length (sz1 p.length left) < 0 then -1 else
    if (if sz1 k.length (sz1 c.length (sz1 p.length left)) < 0 then -1 else szTl k (sz1 k.length (sz1 c.length (sz1 p.length left)))) < 0 then -1 else
    if sz1 b.length (if sz1 k.length (sz1 c.length (sz1 p.length left)) < 0 then -1 else szTl k (sz1 k.length (sz1 c.length (sz1 p.length left)))) < 0 then -1 else
    sz1 b.length (if sz1 k.length (sz1 c.length (sz1 p.length left)) < 0 then -1 else szTl k (sz1 k.length (sz1 c.length (sz1 p.length left))))
def szTl : List Tr → Int → Int
  | [], l => l
  | t :: ts, l => if szT t l < 0 then -1 else szTl ts (szT t l)
end
def szTs (k : List Tr) (left : Int) : Int := if sz1 k.length left < 0 then -1 else szTl k (sz1 k.length left)
theorem szT_eq (t : Tr) (left : Int) : szT t left = if sz1 t.pairs.length left < 0 then -1 else if sz1 t.cuts.length (sz1 t.pairs.length left) < 0 then -1 else
    if szTs t.kids (sz1 t.cuts.length (sz1 t.pairs.length left)) < 0 then -1 else
    if sz1 t.buf.length (szTs t.kids (sz1 t.cuts.length (sz1 t.pairs.length left))) < 0 then -1 else
    sz1 t.buf.length (szTs t.kids (sz1 t.cuts.length (sz1 t.pairs.length left))) := by
  cases t; simp only [szT, szTs]
theorem r_szTreeS (xs : List Tr) (left : Int) (hc : ∀ x ∈ xs, ∀ l, Ret Tryz.prog 18 [agE .tr x, .c (.int .i64 l)] [] (.c (.int .i64 (szT x l))) []) : Ret Tryz.prog 71 [.c (.sl .tr xs), .c (.int .i64 left)] [] (.c (.int .i64 (szTs xs left))) [] := by
  refine ret_vc hT hM Tryz.func71 rfl rfl (m := 0) (nx := 0) rfl (Nat.le_of_ble_eq_true rfl) ?_
  (repeat ((conv => whnf); first | (refine nx ?_; intro s) | (refine rg ?_; intro s k))); (conv => whnf)
  refine giv fun hl => ?_
  (repeat ((conv => whnf); first | (refine nx ?_; intro s) | (refine rg ?_; intro s k))); (conv => whnf)
  have hw : IntKind.i64.wrap (left - xs.length) < 0 ↔ sz1 xs.length left < 0 := by unfold sz1; split <;> omega
  refine cas (fun h0 => ?_) (fun h0 => ?_)
  · refine ⟨_, rfl, [], [], rfl, trivial, ⟨?_, trivial⟩, trivial, ⟨trivial, trivial⟩, trivial⟩
    show C.int _ _ = C.int _ _
    have h0' : IntKind.i64.wrap (left - xs.length) < 0 := by simpa using h0
    unfold szTs
    rw [if_pos (hw.1 h0')]
  · have h0' : ¬ IntKind.i64.wrap (left - xs.length) < 0 := by simpa using h0
    have hs : sz1 xs.length left = IntKind.i64.wrap (left - xs.length) := by unfold sz1; rw [if_neg h0']
    have hres : szTs xs left = szTl xs (IntKind.i64.wrap (left - xs.length)) := by unfold szTs; rw [hs, if_neg h0']
    (repeat ((conv => whnf); first | (refine nx ?_; intro s) | (refine rg ?_; intro s k))); (conv => whnf)
    refine Tri.loop (fun p : Nat × Int => ⟨[(0, .c (.sl .tr xs)), (1, .c (.int .i64 p.2)), (5, .c (.int .i64 p.1))], [], 0⟩) (fun p => p.1 ≤ xs.length ∧ szTl (xs.drop p.1) p.2 = szTs xs left) (fun p => xs.length - p.1) (0, IntKind.i64.wrap (left - xs.length)) ⟨by simp, by simp [hres]⟩ ?_ ?_
    · exact WkF.ok (l := []) (ρ := []) ⟨rfl, trivial, ⟨rfl, rfl, rfl, trivial⟩, trivial, ⟨trivial, trivial, trivial, trivial⟩, trivial⟩
    · intro ⟨i, l⟩ ⟨hi, hinv⟩
      refine vc_sound hT hM _ _ _ ?_
      (repeat ((conv => whnf); first | (refine nx ?_; intro s) | (refine rg ?_; intro s k))); (conv => whnf)
      refine giv fun _ => ?_
      (repeat ((conv => whnf); first | (refine nx ?_; intro s) | (refine rg ?_; intro s k))); (conv => whnf)
      refine cas (fun h2 => ?_) (fun h2 => ?_)
      · have hlt : i < xs.length := by simp at h2; exact h2
        have hd : xs.drop i = xs.getD i (dflt .tr) :: xs.drop (i + 1) := by
          rw [List.drop_eq_getElem_cons hlt, List.getD_eq_getElem?_getD, List.getElem?_eq_getElem hlt]; rfl
        simp only at hinv hi
        rw [hd] at hinv
        simp only [szTl] at hinv
        (repeat ((conv => whnf); first | (refine nx ?_; intro s) | (refine rg ?_; intro s k))); (conv => whnf)
        refine need ⟨by omega, by omega⟩ ?_
        (repeat ((conv => whnf); first | (refine nx ?_; intro s) | (refine rg ?_; intro s k))); (conv => whnf)
        refine giv fun _ => ?_
        (repeat ((conv => whnf); first | (refine nx ?_; intro s) | (refine rg ?_; intro s k))); (conv => whnf)
        refine call_p (hc _ (List.mem_of_getElem? (getD_some hlt (dflt .tr))) l) rfl ⟨⟨trivial, trivial, trivial, trivial, trivial, trivial⟩, trivial, trivial⟩ ?_
        (repeat ((conv => whnf); first | (refine nx ?_; intro s) | (refine rg ?_; intro s k))); (conv => whnf)
        refine cas (fun h3 => ?_) (fun h3 => ?_)
        · refine ⟨_, rfl, [], [], rfl, trivial, ⟨?_, trivial⟩, trivial, ⟨trivial, trivial⟩, trivial⟩
          show C.int _ _ = C.int _ _
          have h3' : szT (xs.getD i (dflt .tr)) l < 0 := by simpa using h3
          rw [if_pos h3'] at hinv
          rw [← hinv]
        · have h3' : ¬ szT (xs.getD i (dflt .tr)) l < 0 := by simpa using h3
          rw [if_neg h3'] at hinv
          (repeat ((conv => whnf); first | (refine nx ?_; intro s) | (refine rg ?_; intro s k))); (conv => whnf)
          refine ⟨(i + 1, szT (xs.getD i (dflt .tr)) l), ⟨by simp; omega, hinv⟩, by simp; omega, WkF.ok (l := []) (ρ := []) ⟨rfl, trivial, ⟨rfl, rfl, ?_, trivial⟩, trivial, ⟨trivial, trivial, trivial, trivial⟩, trivial⟩⟩
          show C.int _ _ = C.int _ _
          rw [wrap_i64 (by omega) (by simp only [byE] at hl; omega)]
          rfl
      · have hge : xs.length ≤ i := by simp at h2; exact h2
        refine ⟨_, rfl, [], [], rfl, trivial, ⟨?_, trivial⟩, trivial, ⟨trivial, trivial⟩, trivial⟩
        show C.int _ l = C.int _ _
        simp only at hinv
        rw [List.drop_eq_nil_of_le hge] at hinv
        simp only [szTl] at hinv
        rw [hinv]
theorem szTree' : ∀ (n : Nat) (t : Tr) (left : Int), SizeOf.sizeOf t < n → Ret Tryz.prog 18 [agE .tr t, .c (.int .i64 left)] [] (.c (.int .i64 (szT t left))) [] := by
  intro n
  induction n with
  | zero => intro t _ h; omega
  | succ n ih =>
    intro t left hn
    refine ret_vc hT hM Tryz.func18 rfl rfl (m := 0) (nx := 0) rfl (Nat.le_of_ble_eq_true rfl) ?_
    have he := szT_eq t left
    (repeat ((conv => whnf); first | (refine nx ?_; intro s) | (refine rg ?_; intro s k))); (conv => whnf)
    refine call_p (r_szPairS t.pairs left) rfl ⟨trivial, trivial, trivial⟩ ?_
    (repeat ((conv => whnf); first | (refine nx ?_; intro s) | (refine rg ?_; intro s k))); (conv => whnf)
    refine cas (fun h => ?_) (fun h => ?_)
    · refine ⟨_, rfl, [], [], rfl, trivial, ⟨?_, trivial⟩, trivial, ⟨trivial, trivial⟩, trivial⟩
      show C.int _ _ = C.int _ _
      have h1 : (sz1 t.pairs.length left) < 0 := by simpa using h
      rw [if_pos h1] at he
      rw [he]
    · have h1 : ¬ (sz1 t.pairs.length left) < 0 := by simpa using h
      rw [if_neg h1] at he
      clear h h1
      (repeat ((conv => whnf); first | (refine nx ?_; intro s) | (refine rg ?_; intro s k))); (conv => whnf)
      refine call_p (r_szIntS t.cuts (sz1 t.pairs.length left)) rfl ⟨trivial, trivial, trivial⟩ ?_
      (repeat ((conv => whnf); first | (refine nx ?_; intro s) | (refine rg ?_; intro s k))); (conv => whnf)
      refine cas (fun h => ?_) (fun h => ?_)
      · refine ⟨_, rfl, [], [], rfl, trivial, ⟨?_, trivial⟩, trivial, ⟨trivial, trivial⟩, trivial⟩
        show C.int _ _ = C.int _ _
        have h1 : (sz1 t.cuts.length (sz1 t.pairs.length left)) < 0 := by simpa using h
        rw [if_pos h1] at he
        rw [he]
      · have h1 : ¬ (sz1 t.cuts.length (sz1 t.pairs.length left)) < 0 := by simpa using h
        rw [if_neg h1] at he
        clear h h1
        (repeat ((conv => whnf); first | (refine nx ?_; intro s) | (refine rg ?_; intro s k))); (conv => whnf)
        refine call_p (r_szTreeS t.kids (sz1 t.cuts.length (sz1 t.pairs.length left)) (fun x hx l => ih x l (by have := kid_lt hx; omega))) rfl ⟨trivial, trivial, trivial⟩ ?_
        (repeat ((conv => whnf); first | (refine nx ?_; intro s) | (refine rg ?_; intro s k))); (conv => whnf)
        refine cas (fun h => ?_) (fun h => ?_)
        · refine ⟨_, rfl, [], [], rfl, trivial, ⟨?_, trivial⟩, trivial, ⟨trivial, trivial⟩, trivial⟩
          show C.int _ _ = C.int _ _
          have h1 : (szTs t.kids (sz1 t.cuts.length (sz1 t.pairs.length left))) < 0 := by simpa using h
          rw [if_pos h1] at he
          rw [he]
        · have h1 : ¬ (szTs t.kids (sz1 t.cuts.length (sz1 t.pairs.length left))) < 0 := by simpa using h
          rw [if_neg h1] at he
          clear h h1
          (repeat ((conv => whnf); first | (refine nx ?_; intro s) | (refine rg ?_; intro s k))); (conv => whnf)
          refine call_p (r_szMsgS t.buf (szTs t.kids (sz1 t.cuts.length (sz1 t.pairs.length left)))) rfl ⟨trivial, trivial, trivial⟩ ?_
          (repeat ((conv => whnf); first | (refine nx ?_; intro s) | (refine rg ?_; intro s k))); (conv => whnf)
          refine cas (fun h => ?_) (fun h => ?_)
          · refine ⟨_, rfl, [], [], rfl, trivial, ⟨?_, trivial⟩, trivial, ⟨trivial, trivial⟩, trivial⟩
            show C.int _ _ = C.int _ _
            have h1 : (sz1 t.buf.length (szTs t.kids (sz1 t.cuts.length (sz1 t.pairs.length left)))) < 0 := by simpa using h
            rw [if_pos h1] at he
            rw [he]
          · have h1 : ¬ (sz1 t.buf.length (szTs t.kids (sz1 t.cuts.length (sz1 t.pairs.length left)))) < 0 := by simpa using h
            rw [if_neg h1] at he
            clear h h1
            (repeat ((conv => whnf); first | (refine nx ?_; intro s) | (refine rg ?_; intro s k))); (conv => whnf)
            refine ⟨_, rfl, [], [], rfl, trivial, ⟨?_, trivial⟩, trivial, ⟨trivial, trivial⟩, trivial⟩
            show C.int _ _ = C.int _ _
            rw [he]
theorem r_szTree (t : Tr) (left : Int) : Ret Tryz.prog 18 [agE .tr t, .c (.int .i64 left)] [] (.c (.int .i64 (szT t left))) [] := szTree' _ t left (Nat.lt_succ_self _)
end Go.Proofs.YthbpdhppelaihaaGreat
