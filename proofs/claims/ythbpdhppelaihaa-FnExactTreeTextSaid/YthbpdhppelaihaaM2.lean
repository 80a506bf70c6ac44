/- Numbers as text: what spec.l17Digits and impl.decimal come to. Conditions: none. -/
import Derived.Test.YthbpdhppelaihaaN
import Derived.Test.YthbpdhppelaihaaH4
set_option linter.unusedVariables false
set_option linter.unusedSimpArgs false
namespace Go.Proofs.Ythbpdhppelaihaa
open Go.RowKit
attribute [local irreducible] Tri
set_option maxRecDepth 4000
set_option maxHeartbeats 4000000
def dig (d : Nat) : UInt8 := UInt8.ofNat (48 + d)
/-- The digits of k, none for nought. -/
def nd (k : Nat) : List UInt8 := if h : k = 0 then [] else nd (k / 10) ++ [dig (k % 10)]
termination_by k
decreasing_by omega
theorem nd_zero : nd 0 = [] := by rw [nd]; simp
theorem nd_pos {k : Nat} (h : k ≠ 0) : nd k = nd (k / 10) ++ [dig (k % 10)] := by rw [nd]; simp [h]
theorem nd_len : ∀ (j k : Nat), k < 10 ^ j → (nd k).length ≤ j
  | 0, k, h => by
    have : k = 0 := by simp at h; omega
    subst this; simp [nd_zero]
  | j + 1, k, h => by
    by_cases hk : k = 0
    · subst hk; simp [nd_zero]
    · rw [nd_pos hk, List.length_append]
      have := nd_len j (k / 10) (by rw [Nat.pow_succ] at h; omega)
      simp; omega
/-- A number as text. -/
def dec (n : Int) : List UInt8 := if n = 0 then [48] else if n < 0 then 45 :: nd n.natAbs else nd n.natAbs
def inR (n : Int) : Prop := -9223372036854775808 ≤ n ∧ n ≤ 9223372036854775807
theorem dec_len {n : Int} (h : inR n) : (dec n).length ≤ 21 := by
  have := nd_len 20 n.natAbs (by unfold inR at h; omega)
  unfold dec
  split
  · simp
  · split
    · simp; omega
    · omega
theorem u8_dig {d : Int} (h0 : 0 ≤ d) (h1 : d ≤ 9) : IntKind.u8.wrap (IntKind.i64.wrap (48 + d)) = 48 + d := by
  rw [wrap_i64 (by omega) (by omega)]
  simp only [IntKind.wrap, IntKind.signed, IntKind.bits]
  simp
  omega
theorem chunk_u8 {x : Int} (h0 : 0 ≤ x) (h1 : x ≤ 255) : (chunk .u8 1 [.int .u8 x]).flatMap (cells .u8) = [.int .u8 x] := by
  show [C.int .u8 (((UInt8.ofNat x.toNat).toNat : Nat) : Int)] = [C.int .u8 x]
  congr 2
  rw [UInt8.toNat_ofNat']
  omega
theorem tmod_abs (m : Int) : (m.tmod 10).natAbs = m.natAbs % 10 := by
  rw [Int.natAbs_tmod]; rfl
theorem tdiv_abs (m : Int) : (m.tdiv 10).natAbs = m.natAbs / 10 := by
  rw [Int.natAbs_tdiv]; rfl
theorem t_pos {n : Int} (h : 0 ≤ n) : 0 ≤ n.tdiv 10 ∧ 0 ≤ n.tmod 10 := ⟨Int.tdiv_nonneg h (by decide), Int.tmod_nonneg _ h⟩
theorem t_neg {n : Int} (h : n ≤ 0) : n.tdiv 10 ≤ 0 ∧ n.tmod 10 ≤ 0 := by
  obtain ⟨h1, h2⟩ := t_pos (n := -n) (by omega)
  rw [Int.neg_tdiv] at h1
  rw [Int.neg_tmod] at h2
  omega
theorem c21 (n : Int) (hn : inR n) : Ret Try.prog 21 [.c (.int .i64 n)] [] (.c (.str (dec n))) [] := by
  refine ret_vc hT hM Try.func21 rfl rfl (m := 0) (nx := 0) rfl (Nat.le_of_ble_eq_true rfl) ?_
  (repeat ((conv => whnf); first | (refine nx ?_; intro s) | (refine rg ?_; intro s k))); (conv => whnf)
  refine cas (fun h1 => ?_) (fun h1 => ?_)
  · refine ⟨_, rfl, [], [], rfl, trivial, ⟨?_, trivial⟩, trivial, ⟨trivial, trivial⟩, trivial⟩
    show C.str _ = C.str _
    simp at h1
    subst h1
    rfl
  · have hz : n ≠ 0 := by simpa using h1
    (repeat ((conv => whnf); first | (refine nx ?_; intro s) | (refine rg ?_; intro s k))); (conv => whnf)
    refine Tri.loop (fun p : Int × List UInt8 => ⟨[(0, .c (.int .i64 p.1)), (3, .c (.bool (decide (n < 0)))), (4, .c (.str p.2))], [], 0⟩) (fun p => inR p.1 ∧ nd p.1.natAbs ++ p.2 = nd n.natAbs) (fun p => p.1.natAbs) (n, []) ⟨hn, by simp⟩ ?_ ?_
    · exact WkF.ok (l := []) (ρ := []) ⟨rfl, trivial, ⟨rfl, rfl, rfl, trivial⟩, trivial, ⟨trivial, trivial, trivial, trivial⟩, trivial⟩
    · intro p ⟨hr, hp⟩
      obtain ⟨m, out⟩ := p
      refine vc_sound hT hM _ _ _ ?_
      (repeat ((conv => whnf); first | (refine nx ?_; intro s) | (refine rg ?_; intro s k))); (conv => whnf)
      refine cas (fun h2 => ?_) (fun h2 => ?_)
      · have hm : m ≠ 0 := by simpa using h2
        have hlen : out.length ≤ 19 := by
          have h3 := congrArg List.length hp
          have h4 := nd_len 20 n.natAbs (by unfold inR at hn; omega)
          rw [List.length_append, nd_pos (by omega), List.length_append] at h3
          simp at h3
          omega
        have hd9 : m.natAbs % 10 ≤ 9 := by omega
        have hta := tmod_abs m
        have hda := tdiv_abs m
        -- what the round leaves, d being the digit
        have step : ∀ d : Int, d = m.natAbs % 10 → UInt8.ofNat (IntKind.u8.wrap (IntKind.i64.wrap (48 + d))).toNat = dig (m.natAbs % 10) ∧ 0 ≤ IntKind.u8.wrap (IntKind.i64.wrap (48 + d)) ∧ IntKind.u8.wrap (IntKind.i64.wrap (48 + d)) ≤ 255 := by
          intro d hd
          rw [u8_dig (by omega) (by omega)]
          refine ⟨?_, by omega, by omega⟩
          unfold dig
          congr 1
          omega
        have hinv : ∀ c : UInt8, c = dig (m.natAbs % 10) → inR (IntKind.i64.wrap (m.tdiv 10)) ∧ nd (IntKind.i64.wrap (m.tdiv 10)).natAbs ++ ([c] ++ out) = nd n.natAbs ∧ (IntKind.i64.wrap (m.tdiv 10)).natAbs < m.natAbs := by
          intro c hc
          unfold inR at hr
          simp only at hr
          rw [wrap_i64 (by omega) (by omega)]
          refine ⟨by unfold inR; omega, ?_, by omega⟩
          rw [hda, ← hp, nd_pos (k := m.natAbs) (by omega), List.append_assoc, hc]
        (repeat ((conv => whnf); first | (refine nx ?_; intro s) | (refine rg ?_; intro s k))); (conv => whnf)
        refine need (by decide) ?_
        (repeat ((conv => whnf); first | (refine nx ?_; intro s) | (refine rg ?_; intro s k))); (conv => whnf)
        refine cas (fun h3 => ?_) (fun h3 => ?_)
        · have h3' : m.tmod 10 < 0 := by simpa using h3
          obtain ⟨s1, s2, s3⟩ := step (IntKind.i64.wrap (0 - m.tmod 10)) (by rw [wrap_i64 (by omega) (by omega)]; omega)
          obtain ⟨i1, i2, i3⟩ := hinv _ s1
          (repeat ((conv => whnf); first | (refine nx ?_; intro s) | (refine rg ?_; intro s k))); (conv => whnf)
          refine need (chunk_u8 s2 s3) ?_
          (repeat ((conv => whnf); first | (refine nx ?_; intro s) | (refine rg ?_; intro s k))); (conv => whnf)
          refine need (by show 1 + out.length ≤ _; omega) ?_
          (repeat ((conv => whnf); first | (refine nx ?_; intro s) | (refine rg ?_; intro s k))); (conv => whnf)
          refine need (by decide) ?_
          (repeat ((conv => whnf); first | (refine nx ?_; intro s) | (refine rg ?_; intro s k))); (conv => whnf)
          exact ⟨(IntKind.i64.wrap (m.tdiv 10), _), ⟨i1, i2⟩, i3, WkF.ok (l := []) (ρ := []) ⟨rfl, trivial, ⟨rfl, rfl, rfl, trivial⟩, trivial, ⟨trivial, trivial, trivial, trivial⟩, trivial⟩⟩
        · have h3' : ¬ m.tmod 10 < 0 := by simpa using h3
          obtain ⟨s1, s2, s3⟩ := step (m.tmod 10) (by omega)
          obtain ⟨i1, i2, i3⟩ := hinv _ s1
          (repeat ((conv => whnf); first | (refine nx ?_; intro s) | (refine rg ?_; intro s k))); (conv => whnf)
          refine need (chunk_u8 s2 s3) ?_
          (repeat ((conv => whnf); first | (refine nx ?_; intro s) | (refine rg ?_; intro s k))); (conv => whnf)
          refine need (by show 1 + out.length ≤ _; omega) ?_
          (repeat ((conv => whnf); first | (refine nx ?_; intro s) | (refine rg ?_; intro s k))); (conv => whnf)
          refine need (by decide) ?_
          (repeat ((conv => whnf); first | (refine nx ?_; intro s) | (refine rg ?_; intro s k))); (conv => whnf)
          exact ⟨(IntKind.i64.wrap (m.tdiv 10), _), ⟨i1, i2⟩, i3, WkF.ok (l := []) (ρ := []) ⟨rfl, trivial, ⟨rfl, rfl, rfl, trivial⟩, trivial, ⟨trivial, trivial, trivial, trivial⟩, trivial⟩⟩
      · have hm : m = 0 := by simpa using h2
        have ho : out = nd n.natAbs := by
          rw [← hp]
          simp only
          rw [hm]
          simp [nd_zero]
        have hlen : out.length ≤ 20 := by rw [ho]; exact nd_len 20 _ (by unfold inR at hn; omega)
        (repeat ((conv => whnf); first | (refine nx ?_; intro s) | (refine rg ?_; intro s k))); (conv => whnf)
        refine cas (fun h4 => ?_) (fun h4 => ?_)
        · have h4' : n < 0 := by simpa using h4
          (repeat ((conv => whnf); first | (refine nx ?_; intro s) | (refine rg ?_; intro s k))); (conv => whnf)
          refine need (by simp; omega) ?_
          (repeat ((conv => whnf); first | (refine nx ?_; intro s) | (refine rg ?_; intro s k))); (conv => whnf)
          refine ⟨_, rfl, [], [], rfl, trivial, ⟨?_, trivial⟩, trivial, ⟨trivial, trivial⟩, trivial⟩
          show C.str _ = C.str _
          unfold dec
          rw [if_neg hz, if_pos h4', ← ho]
          rfl
        · have h4' : ¬ n < 0 := by simpa using h4
          refine ⟨_, rfl, [], [], rfl, trivial, ⟨?_, trivial⟩, trivial, ⟨trivial, trivial⟩, trivial⟩
          show C.str _ = C.str _
          unfold dec
          rw [if_neg hz, if_neg h4', ← ho]
/-- A digit, out of its rune. -/
theorem rune_dig {d : Nat} (h : d ≤ 9) : (Utf8.encode (IntKind.i32.wrap (IntKind.i64.wrap (48 + d)))).data.toList = [dig d] := by
  rw [wrap_i64 (by omega) (by omega)]
  have : IntKind.i32.wrap (48 + (d : Int)) = ((48 + d : Nat) : Int) := by
    simp only [IntKind.wrap, IntKind.signed, IntKind.bits]
    simp
    omega
  rw [this]
  have : d = 0 ∨ d = 1 ∨ d = 2 ∨ d = 3 ∨ d = 4 ∨ d = 5 ∨ d = 6 ∨ d = 7 ∨ d = 8 ∨ d = 9 := by omega
  rcases this with rfl | rfl | rfl | rfl | rfl | rfl | rfl | rfl | rfl | rfl <;> rfl
theorem dec_pos {n : Int} (h : 0 < n) : dec n = nd n.natAbs := by unfold dec; rw [if_neg (by omega), if_neg (by omega)]
theorem dec_lt {n : Int} (h : n < 0) : dec n = 45 :: nd n.natAbs := by unfold dec; rw [if_neg (by omega), if_pos h]
theorem nd_small {k : Nat} (h : k < 10) (h0 : k ≠ 0) : nd k = [dig k] := by
  rw [nd_pos h0, show k / 10 = 0 from by omega, nd_zero, show k % 10 = k from by omega]
  rfl
theorem dec_small {n : Int} (h0 : 0 ≤ n) (h1 : n < 10) : dec n = [dig n.natAbs] := by
  by_cases hk : n = 0
  · subst hk; rfl
  · rw [dec_pos (by omega), nd_small (by omega) (by omega)]
theorem dec_big {n : Int} (h : 10 ≤ n) : dec n = dec (n.tdiv 10) ++ [dig (n.tmod 10).natAbs] := by
  have h1 := tdiv_abs n
  have h2 := tmod_abs n
  have h3 : 0 < n.tdiv 10 := by have := t_pos (n := n) (by omega); omega
  rw [dec_pos h3, dec_pos (n := n) (by omega), h1, h2, nd_pos (k := n.natAbs) (by omega)]
theorem dec_neg {n : Int} (h : n < 0) (h1 : -10 < n) : dec n = 45 :: dec (-n) := by
  rw [dec_small (n := -n) (by omega) (by omega), dec_lt h, nd_small (by omega) (by omega), Int.natAbs_neg]
theorem dec_neg_big {n : Int} (h : n ≤ -10) : dec n = dec (n.tdiv 10) ++ dec (-(n.tmod 10)) := by
  have h1 := tdiv_abs n
  have h2 := tmod_abs n
  have h4 := t_neg (n := n) (by omega)
  have h3 : n.tdiv 10 < 0 := by omega
  rw [dec_small (n := -(n.tmod 10)) (by omega) (by omega), Int.natAbs_neg, dec_lt h3, dec_lt (n := n) (by omega), h1, h2, nd_pos (k := n.natAbs) (by omega)]
  rfl
def meas (n : Int) : Nat := 2 * n.natAbs + if n < 0 then 1 else 0
theorem c23' : ∀ (k : Nat) (n : Int), meas n < k → inR n → Ret Try.prog 23 [.c (.int .i64 n)] [] (.c (.str (dec n))) [] := by
  intro k
  induction k with
  | zero => intro n h; omega
  | succ k ih =>
    intro n hk hn
    have hr := hn
    unfold inR at hr
    have h1 := tdiv_abs n
    have h2 := tmod_abs n
    refine ret_vc hT hM Try.func23 rfl rfl (m := 0) (nx := 0) rfl (Nat.le_of_ble_eq_true rfl) ?_
    (repeat ((conv => whnf); first | (refine nx ?_; intro s) | (refine rg ?_; intro s k))); (conv => whnf)
    refine cas (fun c1 => ?_) (fun c1 => ?_)
    · have c1' : n < 0 := by simpa using c1
      (repeat ((conv => whnf); first | (refine nx ?_; intro s) | (refine rg ?_; intro s k))); (conv => whnf)
      refine cas (fun c2 => ?_) (fun c2 => ?_)
      · have c2' : -10 < n := by simpa using c2
        have hr' : IntKind.i64.wrap (0 - n) = -n := by rw [wrap_i64 (by omega) (by omega)]; omega
        have hc := ih (IntKind.i64.wrap (0 - n)) (by rw [hr']; unfold meas at hk ⊢; split at hk <;> split <;> omega) (by rw [hr']; unfold inR; omega)
        have hlen := dec_len (n := IntKind.i64.wrap (0 - n)) (by rw [hr']; unfold inR; omega)
        (repeat ((conv => whnf); first | (refine nx ?_; intro s) | (refine rg ?_; intro s k))); (conv => whnf)
        refine call_p hc rfl ⟨trivial, trivial⟩ ?_
        (repeat ((conv => whnf); first | (refine nx ?_; intro s) | (refine rg ?_; intro s k))); (conv => whnf)
        refine need (by simp only [List.length_cons]; show 1 + _ ≤ _; omega) ?_
        (repeat ((conv => whnf); first | (refine nx ?_; intro s) | (refine rg ?_; intro s k))); (conv => whnf)
        refine ⟨_, rfl, [], [], rfl, trivial, ⟨?_, trivial⟩, trivial, ⟨trivial, trivial⟩, trivial⟩
        show C.str _ = C.str _
        rw [hr', dec_neg c1' c2']
        rfl
      · have c2' : n ≤ -10 := by simp at c2; omega
        have hq : IntKind.i64.wrap (n.tdiv 10) = n.tdiv 10 := wrap_i64 (by omega) (by omega)
        have hm : IntKind.i64.wrap (0 - n.tmod 10) = -(n.tmod 10) := by rw [wrap_i64 (by omega) (by omega)]; omega
        have hc := ih (IntKind.i64.wrap (n.tdiv 10)) (by rw [hq]; unfold meas at hk ⊢; split at hk <;> split <;> omega) (by rw [hq]; unfold inR; omega)
        have hc' := ih (IntKind.i64.wrap (0 - n.tmod 10)) (by rw [hm]; unfold meas at hk ⊢; split at hk <;> split <;> omega) (by rw [hm]; unfold inR; omega)
        have hlen := dec_len (n := IntKind.i64.wrap (n.tdiv 10)) (by rw [hq]; unfold inR; omega)
        have hlen' := dec_len (n := IntKind.i64.wrap (0 - n.tmod 10)) (by rw [hm]; unfold inR; omega)
        (repeat ((conv => whnf); first | (refine nx ?_; intro s) | (refine rg ?_; intro s k))); (conv => whnf)
        refine cas (fun c3 => ?_) (fun c3 => ?_)
        · (repeat ((conv => whnf); first | (refine nx ?_; intro s) | (refine rg ?_; intro s k))); (conv => whnf)
          refine need (by decide) ?_
          (repeat ((conv => whnf); first | (refine nx ?_; intro s) | (refine rg ?_; intro s k))); (conv => whnf)
          refine call_p hc rfl ⟨trivial, trivial⟩ ?_
          (repeat ((conv => whnf); first | (refine nx ?_; intro s) | (refine rg ?_; intro s k))); (conv => whnf)
          refine need (by decide) ?_
          (repeat ((conv => whnf); first | (refine nx ?_; intro s) | (refine rg ?_; intro s k))); (conv => whnf)
          refine call_p hc' rfl ⟨trivial, trivial⟩ ?_
          (repeat ((conv => whnf); first | (refine nx ?_; intro s) | (refine rg ?_; intro s k))); (conv => whnf)
          refine need (by omega) ?_
          (repeat ((conv => whnf); first | (refine nx ?_; intro s) | (refine rg ?_; intro s k))); (conv => whnf)
          refine ⟨_, rfl, [], [], rfl, trivial, ⟨?_, trivial⟩, trivial, ⟨trivial, trivial⟩, trivial⟩
          show C.str _ = C.str _
          rw [hq, hm, dec_neg_big c2']
        · exact absurd c3 (by simpa using c1')
    · have c1' : 0 ≤ n := by simpa using c1
      (repeat ((conv => whnf); first | (refine nx ?_; intro s) | (refine rg ?_; intro s k))); (conv => whnf)
      refine cas (fun c3 => ?_) (fun c3 => ?_)
      · exact absurd c3 (by simpa using c1')
      · (repeat ((conv => whnf); first | (refine nx ?_; intro s) | (refine rg ?_; intro s k))); (conv => whnf)
        refine cas (fun c4 => ?_) (fun c4 => ?_)
        · have c4' : n < 10 := by simpa using c4
          (repeat ((conv => whnf); first | (refine nx ?_; intro s) | (refine rg ?_; intro s k))); (conv => whnf)
          refine ⟨_, rfl, [], [], rfl, trivial, ⟨?_, trivial⟩, trivial, ⟨trivial, trivial⟩, trivial⟩
          show C.str _ = C.str _
          rw [dec_small c1' c4', show n = ((n.natAbs : Nat) : Int) from by omega]
          exact congrArg C.str (rune_dig (by omega))
        · have c4' : 10 ≤ n := by simpa using c4
          have ht := t_pos c1'
          have hq : IntKind.i64.wrap (n.tdiv 10) = n.tdiv 10 := wrap_i64 (by omega) (by omega)
          have hc := ih (IntKind.i64.wrap (n.tdiv 10)) (by rw [hq]; unfold meas at hk ⊢; split at hk <;> split <;> omega) (by rw [hq]; unfold inR; omega)
          have hlen := dec_len (n := IntKind.i64.wrap (n.tdiv 10)) (by rw [hq]; unfold inR; omega)
          have hd : (Utf8.encode (IntKind.i32.wrap (IntKind.i64.wrap (48 + n.tmod 10)))).data.toList = [dig (n.tmod 10).natAbs] := by
            rw [show n.tmod 10 = (((n.tmod 10).natAbs : Nat) : Int) from by omega]
            exact rune_dig (by omega)
          (repeat ((conv => whnf); first | (refine nx ?_; intro s) | (refine rg ?_; intro s k))); (conv => whnf)
          refine need (by decide) ?_
          (repeat ((conv => whnf); first | (refine nx ?_; intro s) | (refine rg ?_; intro s k))); (conv => whnf)
          refine call_p hc rfl ⟨trivial, trivial⟩ ?_
          (repeat ((conv => whnf); first | (refine nx ?_; intro s) | (refine rg ?_; intro s k))); (conv => whnf)
          refine need (by decide) ?_
          (repeat ((conv => whnf); first | (refine nx ?_; intro s) | (refine rg ?_; intro s k))); (conv => whnf)
          refine need (by rw [hd, List.length_singleton]; omega) ?_
          (repeat ((conv => whnf); first | (refine nx ?_; intro s) | (refine rg ?_; intro s k))); (conv => whnf)
          refine ⟨_, rfl, [], [], rfl, trivial, ⟨?_, trivial⟩, trivial, ⟨trivial, trivial⟩, trivial⟩
          show C.str _ = C.str _
          rw [hd, hq, dec_big c4']
theorem c23 (n : Int) (hn : inR n) : Ret Try.prog 23 [.c (.int .i64 n)] [] (.c (.str (dec n))) [] := c23' _ n (Nat.lt_succ_self _) hn
end Go.Proofs.Ythbpdhppelaihaa
