/- Joined: BA BB BC BD BF. -/
import Derived.Test.YthbpdhppelaihaaGreatH4
import Derived.Test.YthbpdhppelaihaaGreatTE
/- Numbers as bytes: plain definitions and laws. Conditions: none. -/
set_option linter.unusedVariables false
set_option linter.unusedSimpArgs false
namespace Go.Proofs.YthbpdhppelaihaaGreat
def zig (x : Int) : Nat := if x < 0 then (-2 * x - 1).toNat else (2 * x).toNat
def vb : Nat → Nat → List UInt8
 | 0, n => [UInt8.ofNat n]
 | f + 1, n => if 127 < n then UInt8.ofNat (n % 128 + 128) :: vb f (n / 128) else [UInt8.ofNat n]
def inR (x : Int) : Bool := decide (-2000000000 ≤ x ∧ x ≤ 2000000000)
def putN (x : Int) : List UInt8 := if inR x then vb 4 (zig x) else []
def unzig (n : Nat) : Int := if n % 2 = 1 then -(((n + 1) / 2 : Nat) : Int) else ((n / 2 : Nat) : Int)
def getG : Nat → Nat → Nat → List UInt8 → Option (Int × Nat)
 | f + 1, i, n, c :: l =>
   if 127 < c.toNat then getG f (i + 1) (n + (c.toNat % 128) * 2 ^ (7 * i)) l
   else if (c.toNat = 0 ∧ 0 < i) ∨ inR (unzig (n + (c.toNat % 128) * 2 ^ (7 * i))) = false then none
   else some (unzig (n + (c.toNat % 128) * 2 ^ (7 * i)), i + 1)
 | _, _, _, _ => none
def getF (l : List UInt8) : Option (Int × Nat) := getG 5 0 0 l
theorem unzig_zig (x : Int) : unzig (zig x) = x := by
 unfold unzig zig
 split <;> split <;> omega
theorem zig_lt {x : Int} (h : inR x = true) : zig x < 4294967296 := by
 unfold inR at h
 have := of_decide_eq_true h
 unfold zig; split <;> omega
theorem vb_len : ∀ (f n : Nat), 1 ≤ (vb f n).length ∧ (vb f n).length ≤ f + 1
 | 0, n => by simp [vb]
 | f + 1, n => by
   have := vb_len f (n / 128)
   simp only [vb]
   split
   · simp only [List.length_cons]; omega
   · simp
theorem getG_vb : ∀ (f i n m : Nat) (rest : List UInt8), m < 128 ^ (f + 1) → (0 < i → 0 < m) → inR (unzig (n + m * 2 ^ (7 * i))) = true → getG (f + 1) i n (vb f m ++ rest) = some (unzig (n + m * 2 ^ (7 * i)), i + (vb f m).length)
 | 0, i, n, m, rest, hm, h0, hr => by
   have e : (UInt8.ofNat m).toNat = m := by simp at hm ⊢; omega
   simp only [vb, List.cons_append, List.nil_append, getG]
   rw [e, if_neg (by simp at hm; omega), Nat.mod_eq_of_lt (by simpa using hm), if_neg (by rintro (⟨h1, h2⟩ | h1); have := h0 h2; omega; rw [hr] at h1; cases h1)]
   rfl
 | f + 1, i, n, m, rest, hm, h0, hr => by
   simp only [vb]
   by_cases h : 127 < m
   · rw [if_pos h]
     have e : (UInt8.ofNat (m % 128 + 128)).toNat = m % 128 + 128 := by simp; omega
     have e2 : n + m % 128 * 2 ^ (7 * i) + m / 128 * 2 ^ (7 * (i + 1)) = n + m * 2 ^ (7 * i) := by
      have h3 : 2 ^ (7 * (i + 1)) = 128 * 2 ^ (7 * i) := by rw [show 7 * (i + 1) = 7 + 7 * i by omega, Nat.pow_add]
      rw [h3, Nat.add_assoc, ← Nat.mul_assoc, ← Nat.add_mul]
      congr 2
      omega
     have ih := getG_vb f (i + 1) (n + m % 128 * 2 ^ (7 * i)) (m / 128) rest (by rw [Nat.pow_succ] at hm; omega) (by omega) (by rw [e2]; exact hr)
     rw [List.cons_append, getG, e, if_pos (by omega), show (m % 128 + 128) % 128 = m % 128 by omega, ih, e2]
     simp only [List.length_cons]
     congr 2
     omega
   · rw [if_neg h]
     have e : (UInt8.ofNat m).toNat = m := by simp; omega
     simp only [List.cons_append, List.nil_append, getG]
     rw [e, if_neg h, Nat.mod_eq_of_lt (by omega), if_neg (by rintro (⟨h1, h2⟩ | h1); have := h0 h2; omega; rw [hr] at h1; cases h1)]
     rfl
theorem get_put {x : Int} (h : inR x = true) (rest : List UInt8) : getF (putN x ++ rest) = some (x, (putN x).length) := by
 unfold getF putN
 rw [if_pos h]
 have := getG_vb 4 0 0 (zig x) rest (by have := zig_lt h; simp; omega) (fun h => by omega) (by simp [unzig_zig, h])
 rw [this]
 simp [unzig_zig]
end Go.Proofs.YthbpdhppelaihaaGreat
/- Numbers as bytes, on either side. Conditions: none. -/
namespace Go.Proofs.YthbpdhppelaihaaGreat
open Go.RowKit
attribute [local irreducible] Tri Weak
set_option maxRecDepth 4000
set_option maxHeartbeats 4000000
theorem u8_wrap (n : Int) : 0 ≤ IntKind.u8.wrap n ∧ IntKind.u8.wrap n < 256 := by
 simp only [IntKind.wrap, IntKind.signed, IntKind.bits]
 simp
 omega
theorem u8_id {n : Int} (h : 0 ≤ n ∧ n < 256) : IntKind.u8.wrap n = n := by
 simp only [IntKind.wrap, IntKind.signed, IntKind.bits]
 simp
 omega
theorem lit_u8 (n : Int) : (chunk .u8 1 [C.int .u8 (IntKind.u8.wrap n)]).flatMap (cells .u8) = [C.int .u8 (IntKind.u8.wrap n)] := by
 have h := u8_wrap n
 generalize IntKind.u8.wrap n = m at *
 show [C.int .u8 (((UInt8.ofNat m.toNat).toNat : Nat) : Int)] = _
 have : ((UInt8.ofNat m.toNat).toNat : Int) = m := by simp; omega
 rw [this]
theorem td128 {m : Nat} (h : m < 34359738368) : IntKind.i64.wrap (((m : Nat) : Int).tdiv 128) = ((m / 128 : Nat) : Int) := by
 have h1 : ((m : Nat) : Int).tdiv 128 = ((m / 128 : Nat) : Int) := by rw [Int.tdiv_eq_ediv_of_nonneg (by omega)]; omega
 rw [h1, wrap_i64 (by omega) (by omega)]
theorem u8_put1 {m : Nat} (h : m < 34359738368) : chunk .u8 1 [C.int .u8 (IntKind.u8.wrap (IntKind.i64.wrap (((m : Nat) : Int).tmod 128 + 128)))] = [UInt8.ofNat (m % 128 + 128)] := by
 have h1 : ((m : Nat) : Int).tmod 128 = ((m % 128 : Nat) : Int) := by rw [Int.tmod_eq_emod_of_nonneg (by omega)]; omega
 rw [h1, wrap_i64 (by omega) (by omega), u8_id (by omega)]
 show [UInt8.ofNat (((m % 128 : Nat) : Int) + 128).toNat] = _
 rw [show (((m % 128 : Nat) : Int) + 128).toNat = m % 128 + 128 by omega]
theorem u8_put2 {m : Nat} (h : m < 256) : chunk .u8 1 [C.int .u8 (IntKind.u8.wrap ((m : Nat) : Int))] = [UInt8.ofNat m] := by
 rw [u8_id (by omega)]
 rfl
theorem inB_R (x : Int) : inB x (-2000000000) 2000000000 = inR x := by unfold inB inR; rw [Bool.decide_and]
def PN (fin : List UInt8) (q : Nat × Nat × List UInt8) : Prop := q.2.2 ++ vb q.1 q.2.1 = fin ∧ q.2.1 < 128 ^ (q.1 + 1) ∧ q.1 ≤ 4 ∧ q.2.2.length ≤ 8
theorem pn_next {fin : List UInt8} {f m : Nat} {o : List UInt8} (h : PN fin (f, m, o)) (hl : fin.length ≤ 5) (hm : 127 < m) : PN fin (f - 1, m / 128, o ++ [UInt8.ofNat (m % 128 + 128)]) := by
 obtain ⟨h1, h2, h3, h4⟩ := h
 dsimp only at h1 h2 h3 h4
 cases f with
 | zero => simp at h2; omega
 | succ f =>
   simp only [vb] at h1
   rw [if_pos hm] at h1
   refine ⟨by simpa using h1, by rw [Nat.pow_succ] at h2; show m / 128 < 128 ^ (f + 1); omega, by show f ≤ 4; omega, ?_⟩
   have := congrArg List.length h1
   have hv := (vb_len f (m / 128)).1
   simp only [List.length_append, List.length_cons, List.length_nil] at this ⊢
   omega
theorem pn_stop {fin : List UInt8} {f m : Nat} {o : List UInt8} (h : PN fin (f, m, o)) (hm : ¬ 127 < m) : o ++ [UInt8.ofNat m] = fin := by
 obtain ⟨h1, _⟩ := h
 dsimp only at h1
 cases f with
 | zero => exact h1
 | succ f => simp only [vb] at h1; rw [if_neg hm] at h1; exact h1
theorem pn_zero {x : Int} (h : inR x = true) : PN (putN x) (4, zig x, []) ∧ (putN x).length ≤ 5 := by
 have h1 := zig_lt h
 have h2 := vb_len 4 (zig x)
 unfold putN
 rw [if_pos h]
 exact ⟨⟨rfl, by simp; omega, Nat.le_refl _, by simp⟩, h2.2⟩
theorem zig_pos {x : Int} (h : ¬ x < 0) : ((zig x : Nat) : Int) = 2 * x := by unfold zig; rw [if_neg h]; omega
theorem zig_neg {x : Int} (h : x < 0) : ((zig x : Nat) : Int) = -2 * x - 1 := by unfold zig; rw [if_pos h]; omega
theorem r_implPutNum (x : Int) : Ret Tryz.prog 265 [aI x] [] (.rw 0) [(0, .row .u8 (putN x))] := by
 cases hr : inR x with
 | false =>
   rw [show putN x = [] by unfold putN; rw [hr]; rfl]
   refine ret_vc hT hM Tryz.func265 rfl rfl (m := 0) (nx := 0) rfl (Nat.le_of_ble_eq_true rfl) ?_
   (repeat' ((conv => whnf); first | (apply nx; intro s) | (apply rg; intro s k) | ((first | refine cas (fun h => ?_) (fun h => ?_) | refine may (fun h => ?_) ?_) <;> (try simp [-List.getD_eq_getElem?_getD, inB_R, hr] at h)) | (refine giv fun hg => ?_; (try simp only [byE] at hg)) | refine need (by first | kernel_rfl | omega | (simp; done) | (simp; omega)) ?_ | (refine call_p (r_within x (-2000000000) 2000000000) rfl (by (repeat' first | exact trivial | refine ⟨?_, ?_⟩ | exact rfl | exact oR | exact orB rfl | exact oL); (first | done | fail)) ?_) | ((first | refine fin_au rfl ?_ | apply WkF.au); (conv => whnf); ((repeat' first | exact trivial | refine ⟨?_, ?_⟩ | exact rfl | exact oR | exact orB rfl | exact oL) <;> (try conv => whnf) <;> (try first | apply cgB | apply cgI | apply cgS | apply cgR | apply cgD | refine cgL ?_) <;> (try (rw [wrap_i64 (by omega) (by omega)]; first | rfl | omega)))) | apply altl))
 | true =>
   obtain ⟨hz, hl⟩ := pn_zero hr
   have hzl := zig_lt hr
   have hrr : -2000000000 ≤ x ∧ x ≤ 2000000000 := of_decide_eq_true hr
   have hzp := @zig_pos x
   have hzn := @zig_neg x
   generalize putN x = fin at *
   generalize zig x = z at *
   by_cases hx : x < 0
   · refine ret_vc hT hM Tryz.func265 rfl rfl (m := 0) (nx := 0) rfl (Nat.le_of_ble_eq_true rfl) ?_
     (repeat' ((conv => whnf); first | (apply nx; intro s) | (apply rg; intro s k) | ((first | refine cas (fun h => ?_) (fun h => ?_) | refine may (fun h => ?_) ?_) <;> (try simp [-List.getD_eq_getElem?_getD, inB_R, hr] at h)) | (refine giv fun hg => ?_; (try simp only [byE] at hg)) | refine need (by first | kernel_rfl | omega | (simp; done) | (simp; omega)) ?_ | (exfalso; omega) | (refine call_p (r_within x (-2000000000) 2000000000) rfl (by (repeat' first | exact trivial | refine ⟨?_, ?_⟩ | exact rfl | exact oR | exact orB rfl | exact oL); (first | done | fail)) ?_) | ((first | refine fin_au rfl ?_ | apply WkF.au); (conv => whnf); ((repeat' first | exact trivial | refine ⟨?_, ?_⟩ | exact rfl | exact oR | exact orB rfl | exact oL) <;> (try conv => whnf) <;> (try first | apply cgB | apply cgI | apply cgS | apply cgR | apply cgD | refine cgL ?_) <;> (try (rw [wrap_i64 (by omega) (by omega)]; first | rfl | omega)))) | apply altl))
     (repeat ((conv => whnf); first | (apply nx; intro s) | (apply rg; intro s k))); (conv => whnf)
     refine Tri.loop (fun q : Nat × Nat × List UInt8 => ⟨[(3, aI q.2.1), (4, .rw 0)], [(0, .row .u8 q.2.2)], 1⟩) (fun q => PN fin q) (fun q => q.2.1) (4, z, []) hz ?_ ?_
     · (apply WkF.au; (conv => whnf); ((repeat' first | exact trivial | refine ⟨?_, ?_⟩ | exact rfl | exact oR | exact orB rfl | exact oL) <;> (try conv => whnf) <;> (try first | apply cgB | apply cgI | apply cgS | apply cgR | apply cgD | refine cgL ?_) <;> (try (rw [wrap_i64 (by omega) (by omega)]; first | rfl | omega))))
       all_goals (dsimp only; rw [wrap_i64 (n := -2 * x) (by omega) (by omega), wrap_i64 (by omega) (by omega)]; omega)
     · intro ⟨f, m, o⟩ hI
       obtain ⟨h1, h2, h3, h4⟩ := id hI
       dsimp only at h1 h2 h3 h4
       have hmb : m < 34359738368 := Nat.lt_of_lt_of_le h2 (Nat.le_trans (Nat.pow_le_pow_right (by decide) (Nat.succ_le_succ h3)) (by decide))
       refine vc_sound hT hM _ _ _ ?_
       (repeat' ((conv => whnf); first | (apply nx; intro s) | (apply rg; intro s k) | ((first | refine cas (fun h => ?_) (fun h => ?_) | refine may (fun h => ?_) ?_) <;> (try simp [-List.getD_eq_getElem?_getD] at h)) | (refine giv fun hg => ?_; (try simp only [byE] at hg)) | (refine need (lit_u8 _) ?_) | refine need (by first | kernel_rfl | omega | (simp; done) | (simp; omega)) ?_ | (refine need (by simp [byE, chunk]; omega) ?_) | (refine ⟨(f - 1, m / 128, o ++ [UInt8.ofNat (m % 128 + 128)]), pn_next hI hl (by omega), by dsimp only; omega, ?_⟩) | ((first | refine fin_au rfl ?_ | apply WkF.au); (conv => whnf); ((repeat' first | exact trivial | refine ⟨?_, ?_⟩ | exact rfl | exact oR | exact orB rfl | exact oL) <;> (try conv => whnf) <;> (try first | apply cgB | apply cgI | apply cgS | apply cgR | apply cgD | refine cgL ?_) <;> (try (rw [wrap_i64 (by omega) (by omega)]; first | rfl | omega)))) | apply altl))
       all_goals dsimp only
       all_goals first
        | exact td128 hmb
        | (rw [u8_put1 (by omega)]; done)
        | (rw [u8_put2 (by omega)]; exact pn_stop hI (by omega))
   · refine ret_vc hT hM Tryz.func265 rfl rfl (m := 0) (nx := 0) rfl (Nat.le_of_ble_eq_true rfl) ?_
     (repeat' ((conv => whnf); first | (apply nx; intro s) | (apply rg; intro s k) | ((first | refine cas (fun h => ?_) (fun h => ?_) | refine may (fun h => ?_) ?_) <;> (try simp [-List.getD_eq_getElem?_getD, inB_R, hr] at h)) | (refine giv fun hg => ?_; (try simp only [byE] at hg)) | refine need (by first | kernel_rfl | omega | (simp; done) | (simp; omega)) ?_ | (exfalso; omega) | (refine call_p (r_within x (-2000000000) 2000000000) rfl (by (repeat' first | exact trivial | refine ⟨?_, ?_⟩ | exact rfl | exact oR | exact orB rfl | exact oL); (first | done | fail)) ?_) | ((first | refine fin_au rfl ?_ | apply WkF.au); (conv => whnf); ((repeat' first | exact trivial | refine ⟨?_, ?_⟩ | exact rfl | exact oR | exact orB rfl | exact oL) <;> (try conv => whnf) <;> (try first | apply cgB | apply cgI | apply cgS | apply cgR | apply cgD | refine cgL ?_) <;> (try (rw [wrap_i64 (by omega) (by omega)]; first | rfl | omega)))) | apply altl))
     (repeat ((conv => whnf); first | (apply nx; intro s) | (apply rg; intro s k))); (conv => whnf)
     refine Tri.loop (fun q : Nat × Nat × List UInt8 => ⟨[(3, aI q.2.1), (4, .rw 0)], [(0, .row .u8 q.2.2)], 1⟩) (fun q => PN fin q) (fun q => q.2.1) (4, z, []) hz ?_ ?_
     · (apply WkF.au; (conv => whnf); ((repeat' first | exact trivial | refine ⟨?_, ?_⟩ | exact rfl | exact oR | exact orB rfl | exact oL) <;> (try conv => whnf) <;> (try first | apply cgB | apply cgI | apply cgS | apply cgR | apply cgD | refine cgL ?_) <;> (try (rw [wrap_i64 (by omega) (by omega)]; first | rfl | omega))))
       all_goals (dsimp only; rw [wrap_i64 (by omega) (by omega)]; omega)
     · intro ⟨f, m, o⟩ hI
       obtain ⟨h1, h2, h3, h4⟩ := id hI
       dsimp only at h1 h2 h3 h4
       have hmb : m < 34359738368 := Nat.lt_of_lt_of_le h2 (Nat.le_trans (Nat.pow_le_pow_right (by decide) (Nat.succ_le_succ h3)) (by decide))
       refine vc_sound hT hM _ _ _ ?_
       (repeat' ((conv => whnf); first | (apply nx; intro s) | (apply rg; intro s k) | ((first | refine cas (fun h => ?_) (fun h => ?_) | refine may (fun h => ?_) ?_) <;> (try simp [-List.getD_eq_getElem?_getD] at h)) | (refine giv fun hg => ?_; (try simp only [byE] at hg)) | (refine need (lit_u8 _) ?_) | refine need (by first | kernel_rfl | omega | (simp; done) | (simp; omega)) ?_ | (refine need (by simp [byE, chunk]; omega) ?_) | (refine ⟨(f - 1, m / 128, o ++ [UInt8.ofNat (m % 128 + 128)]), pn_next hI hl (by omega), by dsimp only; omega, ?_⟩) | ((first | refine fin_au rfl ?_ | apply WkF.au); (conv => whnf); ((repeat' first | exact trivial | refine ⟨?_, ?_⟩ | exact rfl | exact oR | exact orB rfl | exact oL) <;> (try conv => whnf) <;> (try first | apply cgB | apply cgI | apply cgS | apply cgR | apply cgD | refine cgL ?_) <;> (try (rw [wrap_i64 (by omega) (by omega)]; first | rfl | omega)))) | apply altl))
       all_goals dsimp only
       all_goals first
        | exact td128 hmb
        | (rw [u8_put1 (by omega)]; done)
        | (rw [u8_put2 (by omega)]; exact pn_stop hI (by omega))
theorem r_specPutNum (x : Int) : Ret Tryz.prog 266 [aI x] [] (.rw 0) [(0, .row .u8 (putN x))] := by
 cases hr : inR x with
 | false =>
   rw [show putN x = [] by unfold putN; rw [hr]; rfl]
   refine ret_vc hT hM Tryz.func266 rfl rfl (m := 0) (nx := 0) rfl (Nat.le_of_ble_eq_true rfl) ?_
   (repeat' ((conv => whnf); first | (apply nx; intro s) | (apply rg; intro s k) | ((first | refine cas (fun h => ?_) (fun h => ?_) | refine may (fun h => ?_) ?_) <;> (try simp [-List.getD_eq_getElem?_getD, inB_R, hr] at h)) | (refine giv fun hg => ?_; (try simp only [byE] at hg)) | refine need (by first | kernel_rfl | omega | (simp; done) | (simp; omega)) ?_ | (refine call_p (r_l1In x (-2000000000) 2000000000) rfl (by (repeat' first | exact trivial | refine ⟨?_, ?_⟩ | exact rfl | exact oR | exact orB rfl | exact oL); (first | done | fail)) ?_) | ((first | refine fin_au rfl ?_ | apply WkF.au); (conv => whnf); ((repeat' first | exact trivial | refine ⟨?_, ?_⟩ | exact rfl | exact oR | exact orB rfl | exact oL) <;> (try conv => whnf) <;> (try first | apply cgB | apply cgI | apply cgS | apply cgR | apply cgD | refine cgL ?_) <;> (try (rw [wrap_i64 (by omega) (by omega)]; first | rfl | omega)))) | apply altl))
 | true =>
   obtain ⟨hz, hl⟩ := pn_zero hr
   have hzl := zig_lt hr
   have hrr : -2000000000 ≤ x ∧ x ≤ 2000000000 := of_decide_eq_true hr
   have hzp := @zig_pos x
   have hzn := @zig_neg x
   generalize putN x = fin at *
   generalize zig x = z at *
   by_cases hx : x < 0
   · refine ret_vc hT hM Tryz.func266 rfl rfl (m := 0) (nx := 0) rfl (Nat.le_of_ble_eq_true rfl) ?_
     (repeat' ((conv => whnf); first | (apply nx; intro s) | (apply rg; intro s k) | ((first | refine cas (fun h => ?_) (fun h => ?_) | refine may (fun h => ?_) ?_) <;> (try simp [-List.getD_eq_getElem?_getD, inB_R, hr] at h)) | (refine giv fun hg => ?_; (try simp only [byE] at hg)) | refine need (by first | kernel_rfl | omega | (simp; done) | (simp; omega)) ?_ | (exfalso; omega) | (refine call_p (r_l1In x (-2000000000) 2000000000) rfl (by (repeat' first | exact trivial | refine ⟨?_, ?_⟩ | exact rfl | exact oR | exact orB rfl | exact oL); (first | done | fail)) ?_) | ((first | refine fin_au rfl ?_ | apply WkF.au); (conv => whnf); ((repeat' first | exact trivial | refine ⟨?_, ?_⟩ | exact rfl | exact oR | exact orB rfl | exact oL) <;> (try conv => whnf) <;> (try first | apply cgB | apply cgI | apply cgS | apply cgR | apply cgD | refine cgL ?_) <;> (try (rw [wrap_i64 (by omega) (by omega)]; first | rfl | omega)))) | apply altl))
     (repeat ((conv => whnf); first | (apply nx; intro s) | (apply rg; intro s k))); (conv => whnf)
     refine Tri.loop (fun q : Nat × Nat × List UInt8 => ⟨[(3, .rw 0), (4, aI q.2.1)], [(0, .row .u8 q.2.2)], 1⟩) (fun q => PN fin q) (fun q => q.2.1) (4, z, []) hz ?_ ?_
     · (apply WkF.au; (conv => whnf); ((repeat' first | exact trivial | refine ⟨?_, ?_⟩ | exact rfl | exact oR | exact orB rfl | exact oL) <;> (try conv => whnf) <;> (try first | apply cgB | apply cgI | apply cgS | apply cgR | apply cgD | refine cgL ?_) <;> (try (rw [wrap_i64 (by omega) (by omega)]; first | rfl | omega))))
       all_goals (dsimp only; rw [wrap_i64 (n := -2 * x) (by omega) (by omega), wrap_i64 (by omega) (by omega)]; omega)
     · intro ⟨f, m, o⟩ hI
       obtain ⟨h1, h2, h3, h4⟩ := id hI
       dsimp only at h1 h2 h3 h4
       have hmb : m < 34359738368 := Nat.lt_of_lt_of_le h2 (Nat.le_trans (Nat.pow_le_pow_right (by decide) (Nat.succ_le_succ h3)) (by decide))
       refine vc_sound hT hM _ _ _ ?_
       (repeat' ((conv => whnf); first | (apply nx; intro s) | (apply rg; intro s k) | ((first | refine cas (fun h => ?_) (fun h => ?_) | refine may (fun h => ?_) ?_) <;> (try simp [-List.getD_eq_getElem?_getD] at h)) | (refine giv fun hg => ?_; (try simp only [byE] at hg)) | (refine need (lit_u8 _) ?_) | refine need (by first | kernel_rfl | omega | (simp; done) | (simp; omega)) ?_ | (refine need (by simp [byE, chunk]; omega) ?_) | (refine ⟨(f - 1, m / 128, o ++ [UInt8.ofNat (m % 128 + 128)]), pn_next hI hl (by omega), by dsimp only; omega, ?_⟩) | ((first | refine fin_au rfl ?_ | apply WkF.au); (conv => whnf); ((repeat' first | exact trivial | refine ⟨?_, ?_⟩ | exact rfl | exact oR | exact orB rfl | exact oL) <;> (try conv => whnf) <;> (try first | apply cgB | apply cgI | apply cgS | apply cgR | apply cgD | refine cgL ?_) <;> (try (rw [wrap_i64 (by omega) (by omega)]; first | rfl | omega)))) | apply altl))
       all_goals dsimp only
       all_goals first
        | exact td128 hmb
        | (rw [u8_put1 (by omega)]; done)
        | (rw [u8_put2 (by omega)]; exact pn_stop hI (by omega))
   · refine ret_vc hT hM Tryz.func266 rfl rfl (m := 0) (nx := 0) rfl (Nat.le_of_ble_eq_true rfl) ?_
     (repeat' ((conv => whnf); first | (apply nx; intro s) | (apply rg; intro s k) | ((first | refine cas (fun h => ?_) (fun h => ?_) | refine may (fun h => ?_) ?_) <;> (try simp [-List.getD_eq_getElem?_getD, inB_R, hr] at h)) | (refine giv fun hg => ?_; (try simp only [byE] at hg)) | refine need (by first | kernel_rfl | omega | (simp; done) | (simp; omega)) ?_ | (exfalso; omega) | (refine call_p (r_l1In x (-2000000000) 2000000000) rfl (by (repeat' first | exact trivial | refine ⟨?_, ?_⟩ | exact rfl | exact oR | exact orB rfl | exact oL); (first | done | fail)) ?_) | ((first | refine fin_au rfl ?_ | apply WkF.au); (conv => whnf); ((repeat' first | exact trivial | refine ⟨?_, ?_⟩ | exact rfl | exact oR | exact orB rfl | exact oL) <;> (try conv => whnf) <;> (try first | apply cgB | apply cgI | apply cgS | apply cgR | apply cgD | refine cgL ?_) <;> (try (rw [wrap_i64 (by omega) (by omega)]; first | rfl | omega)))) | apply altl))
     (repeat ((conv => whnf); first | (apply nx; intro s) | (apply rg; intro s k))); (conv => whnf)
     refine Tri.loop (fun q : Nat × Nat × List UInt8 => ⟨[(3, .rw 0), (4, aI q.2.1)], [(0, .row .u8 q.2.2)], 1⟩) (fun q => PN fin q) (fun q => q.2.1) (4, z, []) hz ?_ ?_
     · (apply WkF.au; (conv => whnf); ((repeat' first | exact trivial | refine ⟨?_, ?_⟩ | exact rfl | exact oR | exact orB rfl | exact oL) <;> (try conv => whnf) <;> (try first | apply cgB | apply cgI | apply cgS | apply cgR | apply cgD | refine cgL ?_) <;> (try (rw [wrap_i64 (by omega) (by omega)]; first | rfl | omega))))
       all_goals (dsimp only; rw [wrap_i64 (by omega) (by omega)]; omega)
     · intro ⟨f, m, o⟩ hI
       obtain ⟨h1, h2, h3, h4⟩ := id hI
       dsimp only at h1 h2 h3 h4
       have hmb : m < 34359738368 := Nat.lt_of_lt_of_le h2 (Nat.le_trans (Nat.pow_le_pow_right (by decide) (Nat.succ_le_succ h3)) (by decide))
       refine vc_sound hT hM _ _ _ ?_
       (repeat' ((conv => whnf); first | (apply nx; intro s) | (apply rg; intro s k) | ((first | refine cas (fun h => ?_) (fun h => ?_) | refine may (fun h => ?_) ?_) <;> (try simp [-List.getD_eq_getElem?_getD] at h)) | (refine giv fun hg => ?_; (try simp only [byE] at hg)) | (refine need (lit_u8 _) ?_) | refine need (by first | kernel_rfl | omega | (simp; done) | (simp; omega)) ?_ | (refine need (by simp [byE, chunk]; omega) ?_) | (refine ⟨(f - 1, m / 128, o ++ [UInt8.ofNat (m % 128 + 128)]), pn_next hI hl (by omega), by dsimp only; omega, ?_⟩) | ((first | refine fin_au rfl ?_ | apply WkF.au); (conv => whnf); ((repeat' first | exact trivial | refine ⟨?_, ?_⟩ | exact rfl | exact oR | exact orB rfl | exact oL) <;> (try conv => whnf) <;> (try first | apply cgB | apply cgI | apply cgS | apply cgR | apply cgD | refine cgL ?_) <;> (try (rw [wrap_i64 (by omega) (by omega)]; first | rfl | omega)))) | apply altl))
       all_goals dsimp only
       all_goals first
        | exact td128 hmb
        | (rw [u8_put1 (by omega)]; done)
        | (rw [u8_put2 (by omega)]; exact pn_stop hI (by omega))
end Go.Proofs.YthbpdhppelaihaaGreat
/- Numbers read out of bytes, on either side. Conditions: none. -/
namespace Go.Proofs.YthbpdhppelaihaaGreat
open Go.RowKit
attribute [local irreducible] Tri Weak
set_option maxRecDepth 4000
set_option maxHeartbeats 4000000
def getN (l : List UInt8) (at0 : Nat) : Int × Nat × Bool := match getF (l.drop at0) with
 | some (x, k) => (x, at0 + k, true)
 | none => (0, 0, false)
abbrev numA (q : Int × Nat × Bool) : A := .tp [aI q.1, aI q.2.1, .c (.bool q.2.2)]
def GN (l : List UInt8) (at0 : Nat) (q : Nat × Nat) : Prop := q.1 ≤ 5 ∧ q.2 < 2 ^ (7 * q.1) ∧ getG (5 - q.1) q.1 q.2 (l.drop (at0 + q.1)) = getF (l.drop at0)
theorem gn_zero (l : List UInt8) (at0 : Nat) : GN l at0 (0, 0) := ⟨by decide, by decide, rfl⟩
theorem gn_stop {l : List UInt8} {at0 i n : Nat} (h : GN l at0 (i, n)) (hs : ¬ (i < 5 ∧ at0 + i < l.length)) : getN l at0 = (0, 0, false) := by
 obtain ⟨h1, h2, h3⟩ := h
 dsimp only at h1 h2 h3
 have : getF (l.drop at0) = none := by
  rw [← h3]
  by_cases h5 : i < 5
  · rw [List.drop_eq_nil_of_le (by omega)]; cases (5 - i) <;> rfl
  · rw [show 5 - i = 0 by omega]; rfl
 unfold getN; rw [this]
theorem gn_next {l : List UInt8} {at0 i n : Nat} (h : GN l at0 (i, n)) (h5 : i < 5) (hl : at0 + i < l.length) :
 getF (l.drop at0) = if 127 < (l.getD (at0 + i) 0).toNat then getG (5 - (i + 1)) (i + 1) (n + ((l.getD (at0 + i) 0).toNat % 128) * 2 ^ (7 * i)) (l.drop (at0 + (i + 1)))
  else if ((l.getD (at0 + i) 0).toNat = 0 ∧ 0 < i) ∨ inR (unzig (n + ((l.getD (at0 + i) 0).toNat % 128) * 2 ^ (7 * i))) = false then none
  else some (unzig (n + ((l.getD (at0 + i) 0).toNat % 128) * 2 ^ (7 * i)), i + 1) := by
 obtain ⟨h1, h2, h3⟩ := h
 dsimp only at h1 h2 h3
 rw [← h3, drop_getD hl (0 : UInt8), show 5 - i = (5 - (i + 1)) + 1 by omega]
 rfl
theorem gn_step {l : List UInt8} {at0 i n : Nat} (h : GN l at0 (i, n)) (h5 : i < 5) (hl : at0 + i < l.length) (hc : 127 < (l.getD (at0 + i) 0).toNat) : GN l at0 (i + 1, n + ((l.getD (at0 + i) 0).toNat % 128) * 2 ^ (7 * i)) := by
 have h4 := gn_next h h5 hl
 rw [if_pos hc] at h4
 refine ⟨h5, ?_, h4.symm⟩
 have h2 := h.2.1
 dsimp only at h2 ⊢
 have h6 : 2 ^ (7 * (i + 1)) = 128 * 2 ^ (7 * i) := by rw [show 7 * (i + 1) = 7 + 7 * i by omega, Nat.pow_add]
 have h7 : ((l.getD (at0 + i) 0).toNat % 128) * 2 ^ (7 * i) ≤ 127 * 2 ^ (7 * i) := Nat.mul_le_mul_right _ (by omega)
 omega
theorem getN_none {l : List UInt8} {at0 : Nat} (h : getF (l.drop at0) = none) : getN l at0 = (0, 0, false) := by unfold getN; rw [h]
theorem getN_some {l : List UInt8} {at0 k : Nat} {x : Int} (h : getF (l.drop at0) = some (x, k)) : getN l at0 = (x, at0 + k, true) := by unfold getN; rw [h]
theorem getN_out {l : List UInt8} {at0 : Nat} (h : l.length ≤ at0) : getN l at0 = (0, 0, false) := getN_none (by rw [List.drop_eq_nil_of_le h]; rfl)
theorem gn_val {n c i : Nat} (hn : n < 2 ^ (7 * i)) (hi : i < 5) (hc : c < 256) : IntKind.i64.wrap ((n : Int) + IntKind.i64.wrap (IntKind.i64.wrap ((c : Int).tmod 128) * 2 ^ min (IntKind.i64.wrap (7 * (i : Int))).toNat IntKind.i64.bits)) = ((n + c % 128 * 2 ^ (7 * i) : Nat) : Int) ∧ n + c % 128 * 2 ^ (7 * i) < 34359738368 := by
 have h1 : (c : Int).tmod 128 = ((c % 128 : Nat) : Int) := by rw [Int.tmod_eq_emod_of_nonneg (by omega)]; omega
 have h2 : IntKind.i64.wrap (7 * (i : Int)) = ((7 * i : Nat) : Int) := by rw [wrap_i64 (by omega) (by omega)]; omega
 have h3 : min ((7 * i : Nat) : Int).toNat IntKind.i64.bits = 7 * i := by
  rw [Int.toNat_natCast]
  exact Nat.min_eq_left (Nat.le_trans (show 7 * i ≤ 28 by omega) (by decide))
 have hp : 2 ^ (7 * i) ≤ 268435456 := by
  have : 7 * i ≤ 28 := by omega
  exact Nat.le_trans (Nat.pow_le_pow_right (by decide) this) (by decide)
 have hq : c % 128 * 2 ^ (7 * i) ≤ 127 * 2 ^ (7 * i) := Nat.mul_le_mul_right _ (by omega)
 rw [h1, h2, h3, wrap_i64 (n := ((c % 128 : Nat) : Int)) (by omega) (by omega)]
 have h4 : ((c % 128 : Nat) : Int) * 2 ^ (7 * i) = ((c % 128 * 2 ^ (7 * i) : Nat) : Int) := by push_cast; rfl
 rw [h4, wrap_i64 (n := ((c % 128 * 2 ^ (7 * i) : Nat) : Int)) (by omega) (by omega), wrap_i64 (by omega) (by omega)]
 exact ⟨by omega, by omega⟩
theorem unzig_odd {v : Nat} (hv : v < 34359738368) (h : v % 2 = 1) : IntKind.i64.wrap ((IntKind.i64.wrap (0 - (IntKind.i64.wrap ((v : Int) + 1)))).tdiv 2) = unzig v := by
 rw [wrap_i64 (n := (v : Int) + 1) (by omega) (by omega), show (0 : Int) - ((v : Int) + 1) = -((v : Int) + 1) by omega, wrap_i64 (n := -((v : Int) + 1)) (by omega) (by omega)]
 have e : (-((v : Int) + 1)).tdiv 2 = -(((v + 1) / 2 : Nat) : Int) := by
  rw [Int.neg_tdiv, Int.tdiv_eq_ediv_of_nonneg (by omega)]; omega
 rw [e, wrap_i64 (by omega) (by omega)]
 unfold unzig
 rw [if_pos h]
theorem unzig_even {v : Nat} (hv : v < 34359738368) (h : ¬ v % 2 = 1) : IntKind.i64.wrap ((v : Int).tdiv 2) = unzig v := by
 have e : (v : Int).tdiv 2 = ((v / 2 : Nat) : Int) := by rw [Int.tdiv_eq_ediv_of_nonneg (by omega)]; omega
 rw [e, wrap_i64 (by omega) (by omega)]
 unfold unzig
 rw [if_neg h]
theorem r_implGetNum (l : List UInt8) (at0 : Nat) (hb : l.length ≤ 1099511627776) : Ret Tryz.prog 264 [aL .u8 l, aI at0] [] (numA (getN l at0)) [] := by
 by_cases hlt : at0 < l.length
 · have hib : inB (at0 : Int) 0 (IntKind.i64.wrap ((l.length : Int) - 1)) = true := by rw [inB_iff, wrap_i64 (by omega) (by omega)]; omega
   refine ret_vc hT hM Tryz.func264 rfl rfl (m := 0) (nx := 0) rfl (Nat.le_of_ble_eq_true rfl) ?_
   (repeat' ((conv => whnf); first | (apply nx; intro s) | (apply rg; intro s k) | ((first | refine cas (fun h => ?_) (fun h => ?_) | refine may (fun h => ?_) ?_) <;> (try simp [-List.getD_eq_getElem?_getD, hib] at h)) | (refine giv fun hg => ?_; (try simp only [byE] at hg)) | refine need (by first | kernel_rfl | omega | (simp; done) | (simp; omega)) ?_ | (refine call_p (r_within at0 0 _) rfl (by (repeat' first | exact trivial | refine ⟨?_, ?_⟩ | exact rfl | exact oR | exact orB rfl | exact oL); (first | done | fail)) ?_) | ((first | refine fin_au rfl ?_ | apply WkF.au); (conv => whnf); ((repeat' first | exact trivial | refine ⟨?_, ?_⟩ | exact rfl | exact oR | exact orB rfl | exact oL) <;> (try conv => whnf) <;> (try first | apply cgB | apply cgI | apply cgS | apply cgR | apply cgD | refine cgL ?_) <;> (try (rw [wrap_i64 (by omega) (by omega)]; first | rfl | omega)))) | apply altl))
   (repeat ((conv => whnf); first | (apply nx; intro s) | (apply rg; intro s k))); (conv => whnf)
   refine Tri.loop (fun q : Nat × Nat => ⟨[(0, aL .u8 l), (1, aI at0), (4, aI 0), (5, aI 0), (6, .c (.bool false)), (7, aI q.2), (8, aI q.1)], [], 0⟩) (fun q => GN l at0 q) (fun q => 5 - q.1) (0, 0) (gn_zero l at0) ?_ ?_
   · (apply WkF.au; (conv => whnf); ((repeat' first | exact trivial | refine ⟨?_, ?_⟩ | exact rfl | exact oR | exact orB rfl | exact oL) <;> (try conv => whnf) <;> (try first | apply cgB | apply cgI | apply cgS | apply cgR | apply cgD | refine cgL ?_) <;> (try (rw [wrap_i64 (by omega) (by omega)]; first | rfl | omega))))
   · intro ⟨i, n⟩ hI
     have hI1 := hI.1
     have hI2 := hI.2.1
     dsimp only at hI1 hI2
     have hwi : i < 5 → IntKind.i64.wrap ((at0 : Int) + (i : Int)) = ((at0 + i : Nat) : Int) := fun _ => by rw [wrap_i64 (by omega) (by omega)]; omega
     refine vc_sound hT hM _ _ _ ?_
     dsimp only
     by_cases hin : i < 5 ∧ at0 + i < l.length
     · have hnx := gn_next hI hin.1 hin.2
       have hst := gn_step hI hin.1 hin.2
       have hwi' := hwi hin.1
       have hlt2 := hin.2
       have hlt5 := hin.1
       have hw7 : IntKind.i64.wrap (7 * (i : Int)) = ((7 * i : Nat) : Int) := by rw [wrap_i64 (by omega) (by omega)]; omega
       have hc256 := (l.getD (at0 + i) 0).toNat_lt
       have hcc : (l.getD (IntKind.i64.wrap ((at0 : Int) + (i : Int))).toNat (dflt .u8)).toNat = (l.getD (at0 + i) 0).toNat := by rw [hwi', Int.toNat_natCast]
       obtain ⟨hV0, hv⟩ := gn_val (c := (l.getD (at0 + i) 0).toNat) hI2 hlt5 hc256
       have hV : IntKind.i64.wrap ((n : Int) + IntKind.i64.wrap (IntKind.i64.wrap (((UInt8.toNat (l.getD (IntKind.i64.wrap ((at0 : Int) + (i : Int))).toNat (dflt .u8)) : Nat) : Int).tmod 128) * 2 ^ min (IntKind.i64.wrap (7 * (i : Int))).toNat IntKind.i64.bits)) = ((n + (l.getD (at0 + i) 0).toNat % 128 * 2 ^ (7 * i) : Nat) : Int) := by rw [hcc]; exact hV0
       clear hV0
       generalize (l.getD (at0 + i) 0).toNat = c at *
       generalize hvd : n + c % 128 * 2 ^ (7 * i) = v at *
       have hend : IntKind.i64.wrap (IntKind.i64.wrap ((at0 : Int) + (i : Int)) + 1) = ((at0 + i + 1 : Nat) : Int) := by rw [hwi', wrap_i64 (by omega) (by omega)]; omega
       by_cases h127 : 127 < c
       · (repeat' ((conv => whnf); first | (apply nx; intro s) | (apply rg; intro s k) | ((first | refine cas (fun h => ?_) (fun h => ?_) | refine may (fun h => ?_) ?_) <;> (try simp [-List.getD_eq_getElem?_getD, ↓hcc, ↓hwi'] at h)) | (refine giv fun hg => ?_; (try simp only [byE] at hg)) | (refine need (by rw [hwi']; omega) ?_) | (refine need (by rw [hw7]; omega) ?_) | refine need (by first | kernel_rfl | omega | (simp; done) | (simp; omega)) ?_ | (exfalso; omega) | (refine ⟨(i + 1, v), hst (by omega), by dsimp only; omega, ?_⟩) | ((first | refine fin_au rfl ?_ | apply WkF.au); (conv => whnf); ((repeat' first | exact trivial | refine ⟨?_, ?_⟩ | exact rfl | exact oR | exact orB rfl | exact oL) <;> (try conv => whnf) <;> (try first | apply cgB | apply cgI | apply cgS | apply cgR | apply cgD | refine cgL ?_) <;> (try (rw [wrap_i64 (by omega) (by omega)]; first | rfl | omega)))) | apply altl))
         all_goals exact hV
       · rw [if_neg h127] at hnx
         have hm : ((v : Nat) : Int).tmod 2 = ((v % 2 : Nat) : Int) := by rw [Int.tmod_eq_emod_of_nonneg (by omega)]; omega
         by_cases hodd : v % 2 = 1
         · skip
           have hX : IntKind.i64.wrap ((IntKind.i64.wrap (0 - (IntKind.i64.wrap (IntKind.i64.wrap ((n : Int) + IntKind.i64.wrap (IntKind.i64.wrap (((UInt8.toNat (l.getD (IntKind.i64.wrap ((at0 : Int) + (i : Int))).toNat (dflt .u8)) : Nat) : Int).tmod 128) * 2 ^ min (IntKind.i64.wrap (7 * (i : Int))).toNat IntKind.i64.bits)) + 1)))).tdiv 2) = unzig v := by rw [hV]; exact unzig_odd hv hodd
           cases hr : inR (unzig v) with
           | false =>
             rw [getN_none (by rw [hnx, if_pos (.inr hr)])]
             (repeat' ((conv => whnf); first | (apply nx; intro s) | (apply rg; intro s k) | ((first | refine cas (fun h => ?_) (fun h => ?_) | refine may (fun h => ?_) ?_) <;> (try simp [-List.getD_eq_getElem?_getD, ↓hcc, ↓hwi', ↓hX, ↓hV, hm, inB_R, hr] at h)) | (refine giv fun hg => ?_; (try simp only [byE] at hg)) | (refine need (by rw [hwi']; omega) ?_) | (refine need (by rw [hw7]; omega) ?_) | refine need (by first | kernel_rfl | omega | (simp; done) | (simp; omega)) ?_ | (exfalso; omega) | (refine call_p (r_within _ (-2000000000) 2000000000) rfl (by (repeat' first | exact trivial | refine ⟨?_, ?_⟩ | exact rfl | exact oR | exact orB rfl | exact oL); (first | done | fail)) ?_) | ((first | refine fin_au rfl ?_ | apply WkF.au); (conv => whnf); ((repeat' first | exact trivial | refine ⟨?_, ?_⟩ | exact rfl | exact oR | exact orB rfl | exact oL) <;> (try conv => whnf) <;> (try first | apply cgB | apply cgI | apply cgS | apply cgR | apply cgD | refine cgL ?_) <;> (try (rw [wrap_i64 (by omega) (by omega)]; first | rfl | omega)))) | apply altl))
           | true =>
             by_cases hz : c = 0 ∧ 0 < i
             · rw [getN_none (by rw [hnx, if_pos (.inl hz)])]
               (repeat' ((conv => whnf); first | (apply nx; intro s) | (apply rg; intro s k) | ((first | refine cas (fun h => ?_) (fun h => ?_) | refine may (fun h => ?_) ?_) <;> (try simp [-List.getD_eq_getElem?_getD, ↓hcc, ↓hwi', ↓hX, ↓hV, hm, inB_R, hr] at h)) | (refine giv fun hg => ?_; (try simp only [byE] at hg)) | (refine need (by rw [hwi']; omega) ?_) | (refine need (by rw [hw7]; omega) ?_) | refine need (by first | kernel_rfl | omega | (simp; done) | (simp; omega)) ?_ | (exfalso; omega) | (refine call_p (r_within _ (-2000000000) 2000000000) rfl (by (repeat' first | exact trivial | refine ⟨?_, ?_⟩ | exact rfl | exact oR | exact orB rfl | exact oL); (first | done | fail)) ?_) | ((first | refine fin_au rfl ?_ | apply WkF.au); (conv => whnf); ((repeat' first | exact trivial | refine ⟨?_, ?_⟩ | exact rfl | exact oR | exact orB rfl | exact oL) <;> (try conv => whnf) <;> (try first | apply cgB | apply cgI | apply cgS | apply cgR | apply cgD | refine cgL ?_) <;> (try (rw [wrap_i64 (by omega) (by omega)]; first | rfl | omega)))) | apply altl))
             · rw [getN_some (hnx.trans (if_neg (by rintro (h1 | h1); exact hz h1; rw [hr] at h1; cases h1)))]
               (repeat' ((conv => whnf); first | (apply nx; intro s) | (apply rg; intro s k) | ((first | refine cas (fun h => ?_) (fun h => ?_) | refine may (fun h => ?_) ?_) <;> (try simp [-List.getD_eq_getElem?_getD, ↓hcc, ↓hwi', ↓hX, ↓hV, hm, inB_R, hr] at h)) | (refine giv fun hg => ?_; (try simp only [byE] at hg)) | (refine need (by rw [hwi']; omega) ?_) | (refine need (by rw [hw7]; omega) ?_) | refine need (by first | kernel_rfl | omega | (simp; done) | (simp; omega)) ?_ | (exfalso; omega) | (refine call_p (r_within _ (-2000000000) 2000000000) rfl (by (repeat' first | exact trivial | refine ⟨?_, ?_⟩ | exact rfl | exact oR | exact orB rfl | exact oL); (first | done | fail)) ?_) | ((first | refine fin_au rfl ?_ | apply WkF.au); (conv => whnf); ((repeat' first | exact trivial | refine ⟨?_, ?_⟩ | exact rfl | exact oR | exact orB rfl | exact oL) <;> (try conv => whnf) <;> (try first | apply cgB | apply cgI | apply cgS | apply cgR | apply cgD | refine cgL ?_) <;> (try (rw [wrap_i64 (by omega) (by omega)]; first | rfl | omega)))) | apply altl))
               all_goals first
                | exact hX
                | exact hend
         · skip
           have hX : IntKind.i64.wrap ((IntKind.i64.wrap ((n : Int) + IntKind.i64.wrap (IntKind.i64.wrap (((UInt8.toNat (l.getD (IntKind.i64.wrap ((at0 : Int) + (i : Int))).toNat (dflt .u8)) : Nat) : Int).tmod 128) * 2 ^ min (IntKind.i64.wrap (7 * (i : Int))).toNat IntKind.i64.bits))).tdiv 2) = unzig v := by rw [hV]; exact unzig_even hv hodd
           cases hr : inR (unzig v) with
           | false =>
             rw [getN_none (by rw [hnx, if_pos (.inr hr)])]
             (repeat' ((conv => whnf); first | (apply nx; intro s) | (apply rg; intro s k) | ((first | refine cas (fun h => ?_) (fun h => ?_) | refine may (fun h => ?_) ?_) <;> (try simp [-List.getD_eq_getElem?_getD, ↓hcc, ↓hwi', ↓hX, ↓hV, hm, inB_R, hr] at h)) | (refine giv fun hg => ?_; (try simp only [byE] at hg)) | (refine need (by rw [hwi']; omega) ?_) | (refine need (by rw [hw7]; omega) ?_) | refine need (by first | kernel_rfl | omega | (simp; done) | (simp; omega)) ?_ | (exfalso; omega) | (refine call_p (r_within _ (-2000000000) 2000000000) rfl (by (repeat' first | exact trivial | refine ⟨?_, ?_⟩ | exact rfl | exact oR | exact orB rfl | exact oL); (first | done | fail)) ?_) | ((first | refine fin_au rfl ?_ | apply WkF.au); (conv => whnf); ((repeat' first | exact trivial | refine ⟨?_, ?_⟩ | exact rfl | exact oR | exact orB rfl | exact oL) <;> (try conv => whnf) <;> (try first | apply cgB | apply cgI | apply cgS | apply cgR | apply cgD | refine cgL ?_) <;> (try (rw [wrap_i64 (by omega) (by omega)]; first | rfl | omega)))) | apply altl))
           | true =>
             by_cases hz : c = 0 ∧ 0 < i
             · rw [getN_none (by rw [hnx, if_pos (.inl hz)])]
               (repeat' ((conv => whnf); first | (apply nx; intro s) | (apply rg; intro s k) | ((first | refine cas (fun h => ?_) (fun h => ?_) | refine may (fun h => ?_) ?_) <;> (try simp [-List.getD_eq_getElem?_getD, ↓hcc, ↓hwi', ↓hX, ↓hV, hm, inB_R, hr] at h)) | (refine giv fun hg => ?_; (try simp only [byE] at hg)) | (refine need (by rw [hwi']; omega) ?_) | (refine need (by rw [hw7]; omega) ?_) | refine need (by first | kernel_rfl | omega | (simp; done) | (simp; omega)) ?_ | (exfalso; omega) | (refine call_p (r_within _ (-2000000000) 2000000000) rfl (by (repeat' first | exact trivial | refine ⟨?_, ?_⟩ | exact rfl | exact oR | exact orB rfl | exact oL); (first | done | fail)) ?_) | ((first | refine fin_au rfl ?_ | apply WkF.au); (conv => whnf); ((repeat' first | exact trivial | refine ⟨?_, ?_⟩ | exact rfl | exact oR | exact orB rfl | exact oL) <;> (try conv => whnf) <;> (try first | apply cgB | apply cgI | apply cgS | apply cgR | apply cgD | refine cgL ?_) <;> (try (rw [wrap_i64 (by omega) (by omega)]; first | rfl | omega)))) | apply altl))
             · rw [getN_some (hnx.trans (if_neg (by rintro (h1 | h1); exact hz h1; rw [hr] at h1; cases h1)))]
               (repeat' ((conv => whnf); first | (apply nx; intro s) | (apply rg; intro s k) | ((first | refine cas (fun h => ?_) (fun h => ?_) | refine may (fun h => ?_) ?_) <;> (try simp [-List.getD_eq_getElem?_getD, ↓hcc, ↓hwi', ↓hX, ↓hV, hm, inB_R, hr] at h)) | (refine giv fun hg => ?_; (try simp only [byE] at hg)) | (refine need (by rw [hwi']; omega) ?_) | (refine need (by rw [hw7]; omega) ?_) | refine need (by first | kernel_rfl | omega | (simp; done) | (simp; omega)) ?_ | (exfalso; omega) | (refine call_p (r_within _ (-2000000000) 2000000000) rfl (by (repeat' first | exact trivial | refine ⟨?_, ?_⟩ | exact rfl | exact oR | exact orB rfl | exact oL); (first | done | fail)) ?_) | ((first | refine fin_au rfl ?_ | apply WkF.au); (conv => whnf); ((repeat' first | exact trivial | refine ⟨?_, ?_⟩ | exact rfl | exact oR | exact orB rfl | exact oL) <;> (try conv => whnf) <;> (try first | apply cgB | apply cgI | apply cgS | apply cgR | apply cgD | refine cgL ?_) <;> (try (rw [wrap_i64 (by omega) (by omega)]; first | rfl | omega)))) | apply altl))
               all_goals first
                | exact hX
                | exact hend
     · rw [gn_stop hI hin]
       (repeat' ((conv => whnf); first | (apply nx; intro s) | (apply rg; intro s k) | ((first | refine cas (fun h => ?_) (fun h => ?_) | refine may (fun h => ?_) ?_) <;> (try simp [-List.getD_eq_getElem?_getD] at h)) | (refine giv fun hg => ?_; (try simp only [byE] at hg)) | refine need (by first | kernel_rfl | omega | (simp; done) | (simp; omega)) ?_ | (exfalso; rw [hwi (by omega)] at *; omega) | ((first | refine fin_au rfl ?_ | apply WkF.au); (conv => whnf); ((repeat' first | exact trivial | refine ⟨?_, ?_⟩ | exact rfl | exact oR | exact orB rfl | exact oL) <;> (try conv => whnf) <;> (try first | apply cgB | apply cgI | apply cgS | apply cgR | apply cgD | refine cgL ?_) <;> (try (rw [wrap_i64 (by omega) (by omega)]; first | rfl | omega)))) | apply altl))
 · rw [getN_out (by omega)]
   have hib : inB (at0 : Int) 0 (IntKind.i64.wrap ((l.length : Int) - 1)) = false := by rw [inB_niff, wrap_i64 (by omega) (by omega)]; omega
   refine ret_vc hT hM Tryz.func264 rfl rfl (m := 0) (nx := 0) rfl (Nat.le_of_ble_eq_true rfl) ?_
   (repeat' ((conv => whnf); first | (apply nx; intro s) | (apply rg; intro s k) | ((first | refine cas (fun h => ?_) (fun h => ?_) | refine may (fun h => ?_) ?_) <;> (try simp [-List.getD_eq_getElem?_getD, hib] at h)) | (refine giv fun hg => ?_; (try simp only [byE] at hg)) | refine need (by first | kernel_rfl | omega | (simp; done) | (simp; omega)) ?_ | (refine call_p (r_within at0 0 _) rfl (by (repeat' first | exact trivial | refine ⟨?_, ?_⟩ | exact rfl | exact oR | exact orB rfl | exact oL); (first | done | fail)) ?_) | ((first | refine fin_au rfl ?_ | apply WkF.au); (conv => whnf); ((repeat' first | exact trivial | refine ⟨?_, ?_⟩ | exact rfl | exact oR | exact orB rfl | exact oL) <;> (try conv => whnf) <;> (try first | apply cgB | apply cgI | apply cgS | apply cgR | apply cgD | refine cgL ?_) <;> (try (rw [wrap_i64 (by omega) (by omega)]; first | rfl | omega)))) | apply altl))
end Go.Proofs.YthbpdhppelaihaaGreat
/- Nodes as bytes: plain definitions and laws. Conditions: none. -/
namespace Go.Proofs.YthbpdhppelaihaaGreat
theorem putN_pos {x : Int} (h : inR x = true) : 1 ≤ (putN x).length := by unfold putN; rw [if_pos h]; exact (vb_len 4 (zig x)).1
theorem putN_le (x : Int) : (putN x).length ≤ 5 := by
 unfold putN
 split
 · exact (vb_len 4 (zig x)).2
 · simp
theorem putN_out {x : Int} (h : inR x = false) : putN x = [] := by unfold putN; rw [h]; rfl
theorem putN_nil {x : Int} : putN x = [] ↔ inR x = false := by
 constructor
 · intro h
   cases hr : inR x with
   | false => rfl
   | true => have := putN_pos hr; rw [h] at this; simp at this
 · exact putN_out
def cod (ns : List Int) : List UInt8 := ns.flatMap putN
def posN (ns : List Int) (j : Nat) : Nat := (cod (ns.take j)).length
theorem cod_app (a b : List Int) : cod (a ++ b) = cod a ++ cod b := by unfold cod; rw [List.flatMap_append]
theorem cod_cons (x : Int) (b : List Int) : cod (x :: b) = putN x ++ cod b := by unfold cod; rw [List.flatMap_cons]
theorem cod_le : ∀ ns : List Int, (cod ns).length ≤ 5 * ns.length
 | [] => by simp [cod]
 | x :: ns => by
   have h1 := cod_le ns
   have h2 := putN_le x
   rw [cod_cons]
   simp only [List.length_append, List.length_cons]
   omega
theorem pos_zero (ns : List Int) : posN ns 0 = 0 := by simp [posN, cod]
theorem pos_all {ns : List Int} {j : Nat} (h : ns.length ≤ j) : posN ns j = (cod ns).length := by unfold posN; rw [List.take_of_length_le h]
theorem drop_cod (ns : List Int) (j : Nat) : (cod ns).drop (posN ns j) = cod (ns.drop j) := by
 unfold posN
 conv => lhs; arg 2; rw [← List.take_append_drop j ns, cod_app]
 rw [List.drop_left]
theorem pos_succ {ns : List Int} {j : Nat} (hj : j < ns.length) : posN ns (j + 1) = posN ns j + (putN (ns.getD j 0)).length := by
 unfold posN
 rw [show ns.take (j + 1) = ns.take j ++ [ns.getD j 0] by rw [List.take_add_one, List.getD_eq_getElem?_getD, List.getElem?_eq_getElem hj]; rfl, cod_app, List.length_append]
 simp [cod]
theorem rd_at {ns : List Int} (h : ∀ x ∈ ns, inR x = true) {j : Nat} (hj : j < ns.length) : getN (cod ns) (posN ns j) = (ns.getD j 0, posN ns (j + 1), true) := by
 have h1 : ns.getD j 0 ∈ ns := by rw [List.getD_eq_getElem?_getD, List.getElem?_eq_getElem hj]; exact List.getElem_mem hj
 refine (getN_some (x := ns.getD j 0) (k := (putN (ns.getD j 0)).length) ?_).trans (by rw [pos_succ hj])
 rw [drop_cod, drop_getD hj (0 : Int), cod_cons]
 exact get_put (h _ h1) _
theorem cod_inj : ∀ {a b : List Int}, (∀ x ∈ a, inR x = true) → (∀ x ∈ b, inR x = true) → cod a = cod b → a = b
 | [], [], _, _, _ => rfl
 | [], y :: b, _, hb, h => by
   have h1 := congrArg List.length h
   have h2 := putN_pos (hb y (by simp))
   rw [cod_cons, List.length_append, show (cod []).length = 0 from rfl] at h1
   omega
 | x :: a, [], ha, _, h => by
   have h1 := congrArg List.length h
   have h2 := putN_pos (ha x (by simp))
   rw [cod_cons, List.length_append, show (cod []).length = 0 from rfl] at h1
   omega
 | x :: a, y :: b, ha, hb, h => by
   rw [cod_cons, cod_cons] at h
   have h1 := get_put (ha x (by simp)) (cod a)
   have h2 := get_put (hb y (by simp)) (cod b)
   rw [h, h2] at h1
   injection h1 with h1
   injection h1 with h1 h3
   subst h1
   have h4 := List.append_cancel_left h
   rw [cod_inj (fun z hz => ha z (by simp [hz])) (fun z hz => hb z (by simp [hz])) h4]
def nodeNs (t : Tr) (kids : List Int) : List Int :=
 if t.leaf then 1 :: (t.pairs.length : Int) :: t.pairs.flatMap (fun p => [p.k, p.v])
 else 0 :: (kids.length : Int) :: (kids ++ (t.cuts ++ ((t.buf.length : Int) :: t.buf.flatMap (fun m => [m.op, m.k, m.v]))))
def nodeB (t : Tr) (kids : List Int) : Bool :=
 if t.leaf then decide (t.pairs.length ≤ 4 ∧ t.kids.length = 0 ∧ t.cuts.length = 0 ∧ t.buf.length = 0 ∧ kids.length = 0)
 else decide ((1 ≤ kids.length ∧ kids.length ≤ 4) ∧ t.kids.length = kids.length ∧ t.cuts.length + 1 = kids.length ∧ t.buf.length ≤ 6 ∧ t.pairs.length = 0)
def putA (l : List Int) : List UInt8 × Bool := if l.all inR then (cod l, true) else ([], false)
def putNd (t : Tr) (kids : List Int) : List UInt8 × Bool := if nodeB t kids then putA (nodeNs t kids) else ([], false)
theorem putA_yes {l : List Int} (h : l.all inR = true) : putA l = (cod l, true) := by unfold putA; rw [if_pos h]
theorem putA_no {l : List Int} (h : l.all inR = false) : putA l = ([], false) := by unfold putA; rw [h]; rfl
theorem putA_le (l : List Int) : (putA l).1.length ≤ 5 * l.length := by
 unfold putA
 split
 · exact cod_le l
 · simp
theorem flat2_len (l : List Pr) : (l.flatMap fun p => [p.k, p.v]).length = 2 * l.length := by
 induction l with
 | nil => rfl
 | cons p l ih => simp only [List.flatMap_cons, List.length_append, List.length_cons, List.length_nil, ih]; omega
theorem flat3_len (l : List Ms) : (l.flatMap fun p => [p.op, p.k, p.v]).length = 3 * l.length := by
 induction l with
 | nil => rfl
 | cons p l ih => simp only [List.flatMap_cons, List.length_append, List.length_cons, List.length_nil, ih]; omega
theorem flat2_get : ∀ (l : List Pr) (i : Nat), i < l.length → (l.flatMap fun p => [p.k, p.v]).getD (2 * i) 0 = (l.getD i (dflt .pr)).k ∧ (l.flatMap fun p => [p.k, p.v]).getD (2 * i + 1) 0 = (l.getD i (dflt .pr)).v
 | [], i, h => by simp at h
 | p :: l, 0, h => ⟨rfl, rfl⟩
 | p :: l, i + 1, h => flat2_get l i (by simpa using h)
theorem flat3_get : ∀ (l : List Ms) (i : Nat), i < l.length → (l.flatMap fun p => [p.op, p.k, p.v]).getD (3 * i) 0 = (l.getD i (dflt .ms)).op ∧ (l.flatMap fun p => [p.op, p.k, p.v]).getD (3 * i + 1) 0 = (l.getD i (dflt .ms)).k ∧ (l.flatMap fun p => [p.op, p.k, p.v]).getD (3 * i + 2) 0 = (l.getD i (dflt .ms)).v
 | [], i, h => by simp at h
 | p :: l, 0, h => ⟨rfl, rfl, rfl⟩
 | p :: l, i + 1, h => flat3_get l i (by simpa using h)
theorem flat2_inj : ∀ {a b : List Pr}, (a.flatMap fun p => [p.k, p.v]) = (b.flatMap fun p => [p.k, p.v]) → a = b
 | [], [], _ => rfl
 | [], _ :: _, h => by simp at h
 | _ :: _, [], h => by simp at h
 | ⟨k, v⟩ :: a, ⟨k', v'⟩ :: b, h => by
   simp only [List.flatMap_cons, List.cons_append, List.nil_append, List.cons.injEq] at h
   obtain ⟨h1, h2, h3⟩ := h
   rw [h1, h2, flat2_inj h3]
theorem flat3_inj : ∀ {a b : List Ms}, (a.flatMap fun p => [p.op, p.k, p.v]) = (b.flatMap fun p => [p.op, p.k, p.v]) → a = b
 | [], [], _ => rfl
 | [], _ :: _, h => by simp at h
 | _ :: _, [], h => by simp at h
 | ⟨o, k, v⟩ :: a, ⟨o', k', v'⟩ :: b, h => by
   simp only [List.flatMap_cons, List.cons_append, List.nil_append, List.cons.injEq] at h
   obtain ⟨h0, h1, h2, h3⟩ := h
   rw [h0, h1, h2, flat3_inj h3]
def bare (t : Tr) : Tr := ⟨t.leaf, t.pairs, t.cuts, List.replicate t.kids.length Tr0, t.buf⟩
theorem nodeB_leaf {t : Tr} {ks : List Int} (hl : t.leaf = true) : nodeB t ks = true ↔ t.pairs.length ≤ 4 ∧ t.kids.length = 0 ∧ t.cuts.length = 0 ∧ t.buf.length = 0 ∧ ks.length = 0 := by unfold nodeB; rw [if_pos hl]; exact decide_eq_true_iff
theorem nodeB_node {t : Tr} {ks : List Int} (hl : t.leaf = false) : nodeB t ks = true ↔ (1 ≤ ks.length ∧ ks.length ≤ 4) ∧ t.kids.length = ks.length ∧ t.cuts.length + 1 = ks.length ∧ t.buf.length ≤ 6 ∧ t.pairs.length = 0 := by unfold nodeB; rw [hl, if_neg (by decide)]; exact decide_eq_true_iff
theorem nodeNs_leaf {t : Tr} {ks : List Int} (hl : t.leaf = true) : nodeNs t ks = 1 :: (t.pairs.length : Int) :: t.pairs.flatMap (fun p => [p.k, p.v]) := by unfold nodeNs; rw [if_pos hl]
theorem nodeNs_node {t : Tr} {ks : List Int} (hl : t.leaf = false) : nodeNs t ks = 0 :: (ks.length : Int) :: (ks ++ (t.cuts ++ ((t.buf.length : Int) :: t.buf.flatMap (fun m => [m.op, m.k, m.v])))) := by unfold nodeNs; rw [hl, if_neg (by decide)]
theorem nodeNs_len {t : Tr} {ks : List Int} (h : nodeB t ks = true) : (nodeNs t ks).length ≤ 40 := by
 cases hl : t.leaf with
 | true =>
   have := (nodeB_leaf hl).1 h
   rw [nodeNs_leaf hl]
   simp only [List.length_cons, flat2_len]
   omega
 | false =>
   have := (nodeB_node hl).1 h
   rw [nodeNs_node hl]
   simp only [List.length_cons, List.length_append, flat3_len]
   omega
theorem putNd_le (t : Tr) (ks : List Int) : (putNd t ks).1.length ≤ 200 := by
 unfold putNd
 split
 · rename_i h
   have h1 := putA_le (nodeNs t ks)
   have h2 := nodeNs_len h
   omega
 · simp
theorem node_inj {t t' : Tr} {ks ks' : List Int} (h1 : nodeB t ks = true) (h2 : nodeB t' ks' = true) (h : nodeNs t ks = nodeNs t' ks') : bare t = bare t' ∧ ks = ks' := by
 obtain ⟨l, ps, cs, kd, bf⟩ := t
 obtain ⟨l', ps', cs', kd', bf'⟩ := t'
 cases l with
 | true =>
   rw [nodeNs_leaf rfl] at h
   rw [nodeB_leaf rfl] at h1
   cases l' with
   | true =>
     rw [nodeNs_leaf rfl] at h
     rw [nodeB_leaf rfl] at h2
     dsimp only at h h1 h2
     obtain ⟨_, a1, a2, a3, a4⟩ := h1
     obtain ⟨_, b1, b2, b3, b4⟩ := h2
     injection h with _ h
     injection h with _ h
     have e := flat2_inj h
     subst e
     rw [List.length_eq_zero_iff] at a1 a2 a3 a4 b1 b2 b3 b4
     subst a1 a2 a3 a4 b1 b2 b3 b4
     exact ⟨rfl, rfl⟩
   | false => rw [nodeNs_node rfl] at h; injection h with h; cases h
 | false =>
   rw [nodeNs_node rfl] at h
   rw [nodeB_node rfl] at h1
   cases l' with
   | true => rw [nodeNs_leaf rfl] at h; injection h with h; cases h
   | false =>
     rw [nodeNs_node rfl] at h
     rw [nodeB_node rfl] at h2
     dsimp only at h h1 h2
     obtain ⟨_, a1, a2, a3, a4⟩ := h1
     obtain ⟨_, b1, b2, b3, b4⟩ := h2
     injection h with _ h
     injection h with h0 h
     obtain ⟨e1, h⟩ := List.append_inj h (by omega)
     obtain ⟨e2, h⟩ := List.append_inj h (by omega)
     injection h with _ h
     have e3 := flat3_inj h
     rw [List.length_eq_zero_iff] at a4 b4
     subst e1 e2 e3 a4 b4
     unfold bare
     dsimp only
     rw [a1, b1]
     exact ⟨rfl, rfl⟩
def GoodN (b : List UInt8) (t : Tr) (ks : List Int) : Prop := nodeB t ks = true ∧ (∀ x ∈ nodeNs t ks, inR x = true) ∧ b = cod (nodeNs t ks)
theorem good_inj {b : List UInt8} {t t' : Tr} {ks ks' : List Int} (h : GoodN b t ks) (h' : GoodN b t' ks') : bare t = bare t' ∧ ks = ks' :=
 node_inj h.1 h'.1 (cod_inj h.2.1 h'.2.1 (h.2.2.symm.trans h'.2.2))
theorem good_put {b : List UInt8} {t : Tr} {ks : List Int} : GoodN b t ks ↔ putNd t ks = (b, true) := by
 unfold GoodN putNd putA
 constructor
 · rintro ⟨h1, h2, h3⟩
   rw [if_pos h1, if_pos (List.all_eq_true.2 h2), h3]
 · intro h
   split at h
   · rename_i h1
     split at h
     · rename_i h2
       injection h with h3
       exact ⟨h1, List.all_eq_true.1 h2, h3.symm⟩
     · injection h with _ h; cases h
   · injection h with _ h; cases h
theorem nodeB_bare (t : Tr) (ks : List Int) : nodeB (bare t) ks = nodeB t ks := by unfold nodeB bare; simp only [List.length_replicate]
theorem nodeNs_bare (t : Tr) (ks : List Int) : nodeNs (bare t) ks = nodeNs t ks := rfl
theorem putNd_bare (t : Tr) (ks : List Int) : putNd (bare t) ks = putNd t ks := by unfold putNd; rw [nodeB_bare, nodeNs_bare]
open Classical in
noncomputable def decO (b : List UInt8) : Option (Tr × List Int) := if h : ∃ p : Tr × List Int, GoodN b p.1 p.2 then some (Classical.choose h) else none
noncomputable def decF (b : List UInt8) : Tr × List Int × Bool := match decO b with
 | some (t, ks) => (bare t, ks, true)
 | none => (Tr0, [], false)
theorem dec_some {b : List UInt8} {t : Tr} {ks : List Int} (h : decO b = some (t, ks)) : GoodN b t ks := by
 unfold decO at h
 split at h
 · rename_i h1
   have := Classical.choose_spec h1
   injection h with h
   rw [h] at this
   exact this
 · cases h
theorem dec_none {b : List UInt8} (h : decO b = none) (t : Tr) (ks : List Int) : ¬ GoodN b t ks := by
 intro hg
 unfold decO at h
 rw [dif_pos ⟨(t, ks), hg⟩] at h
 cases h
theorem decF_some {b : List UInt8} {t : Tr} {ks : List Int} (h : decO b = some (t, ks)) : decF b = (bare t, ks, true) := by unfold decF; rw [h]
theorem decF_none {b : List UInt8} (h : decO b = none) : decF b = (Tr0, [], false) := by unfold decF; rw [h]
theorem dec_good {b : List UInt8} {t : Tr} {ks : List Int} (h : GoodN b t ks) : decF b = (bare t, ks, true) := by
 cases hd : decO b with
 | none => exact (dec_none hd t ks h).elim
 | some p =>
   obtain ⟨t', ks'⟩ := p
   obtain ⟨h1, h2⟩ := good_inj (dec_some hd) h
   rw [decF_some hd, h1, h2]
theorem dec_kids (b : List UInt8) : (decF b).2.1.length ≤ 4 := by
 cases hd : decO b with
 | none => rw [decF_none hd]; simp
 | some p =>
   obtain ⟨t, ks⟩ := p
   rw [decF_some hd]
   have h := (dec_some hd).1
   dsimp only
   cases hl : t.leaf with
   | true => rw [nodeB_leaf hl] at h; omega
   | false => rw [nodeB_node hl] at h; omega
theorem dec_kidsT (b : List UInt8) : (decF b).1.kids.length = (decF b).2.1.length := by
 cases hd : decO b with
 | none => rw [decF_none hd]; rfl
 | some p =>
   obtain ⟨t, ks⟩ := p
   rw [decF_some hd]
   have h := (dec_some hd).1
   unfold bare
   simp only [List.length_replicate]
   cases hl : t.leaf with
   | true => rw [nodeB_leaf hl] at h; omega
   | false => rw [nodeB_node hl] at h; omega
theorem dec_bad {b : List UInt8} (h : (decF b).2.2 = false) : decF b = (Tr0, [], false) := by
 cases hd : decO b with
 | none => exact decF_none hd
 | some p => rw [decF_some hd] at h; cases h
end Go.Proofs.YthbpdhppelaihaaGreat
/- Numbers read out of bytes: the reference. Conditions: none. -/
namespace Go.Proofs.YthbpdhppelaihaaGreat
open Go.RowKit
attribute [local irreducible] Tri Weak
set_option maxRecDepth 4000
set_option maxHeartbeats 4000000
theorem or_add {n m k : Nat} (h : n < 2 ^ k) : n ||| m * 2 ^ k = n + m * 2 ^ k := by
 rw [Nat.or_comm, Nat.add_comm, Nat.mul_comm, Nat.two_pow_add_eq_or_of_lt h]
theorem gn_or {n c i : Nat} (hn : n < 2 ^ (7 * i)) (hi : i < 5) (hc : c < 256) : IntKind.i64.wrap ((BitVec.ofInt IntKind.i64.bits (n : Int) ||| BitVec.ofInt IntKind.i64.bits (IntKind.i64.wrap ((c : Int).tmod 128 * 2 ^ min (IntKind.i64.wrap (7 * (i : Int))).toNat IntKind.i64.bits))).toNat : Int) = ((n + c % 128 * 2 ^ (7 * i) : Nat) : Int) := by
 obtain ⟨h0, hlt⟩ := gn_val hn hi hc
 have h1 : (c : Int).tmod 128 = ((c % 128 : Nat) : Int) := by rw [Int.tmod_eq_emod_of_nonneg (by omega)]; omega
 have h2 : IntKind.i64.wrap (7 * (i : Int)) = ((7 * i : Nat) : Int) := by rw [wrap_i64 (by omega) (by omega)]; omega
 have h3 : min ((7 * i : Nat) : Int).toNat IntKind.i64.bits = 7 * i := by
  rw [Int.toNat_natCast]
  exact Nat.min_eq_left (Nat.le_trans (show 7 * i ≤ 28 by omega) (by decide))
 rw [h1, h2, h3]
 have h4 : ((c % 128 : Nat) : Int) * 2 ^ (7 * i) = ((c % 128 * 2 ^ (7 * i) : Nat) : Int) := by push_cast; rfl
 rw [h4, wrap_i64 (n := ((c % 128 * 2 ^ (7 * i) : Nat) : Int)) (by omega) (by omega)]
 have hb : IntKind.i64.bits = 64 := rfl
 rw [hb, BitVec.toNat_or, BitVec.ofInt_natCast, BitVec.ofInt_natCast, BitVec.toNat_ofNat, BitVec.toNat_ofNat, Nat.mod_eq_of_lt (by omega), Nat.mod_eq_of_lt (by omega), or_add hn, wrap_i64 (by omega) (by omega)]
theorem unzig_odd' {v : Nat} (hv : v < 34359738368) (h : v % 2 = 1) : IntKind.i64.wrap (IntKind.i64.wrap (0 - IntKind.i64.wrap ((v : Int).tdiv 2)) - 1) = unzig v := by
 have e : (v : Int).tdiv 2 = ((v / 2 : Nat) : Int) := by rw [Int.tdiv_eq_ediv_of_nonneg (by omega)]; omega
 rw [e, wrap_i64 (n := ((v / 2 : Nat) : Int)) (by omega) (by omega), wrap_i64 (n := 0 - ((v / 2 : Nat) : Int)) (by omega) (by omega), wrap_i64 (by omega) (by omega)]
 unfold unzig
 rw [if_pos h]
 omega
theorem r_specGetNum (l : List UInt8) (at0 : Nat) (hb : l.length ≤ 1099511627776) : Ret Tryz.prog 272 [aL .u8 l, aI at0] [] (numA (getN l at0)) [] := by
 by_cases hlt : at0 < l.length
 · refine ret_vc hT hM Tryz.func272 rfl rfl (m := 0) (nx := 0) rfl (Nat.le_of_ble_eq_true rfl) ?_
   (repeat' ((conv => whnf); first | (apply nx; intro s) | (apply rg; intro s k) | ((first | refine cas (fun h => ?_) (fun h => ?_) | refine may (fun h => ?_) ?_) <;> (try simp [-List.getD_eq_getElem?_getD] at h)) | (refine giv fun hg => ?_; (try simp only [byE] at hg)) | refine need (by first | kernel_rfl | omega | (simp; done) | (simp; omega)) ?_ | (exfalso; omega) | ((first | refine fin_au rfl ?_ | apply WkF.au); (conv => whnf); ((repeat' first | exact trivial | refine ⟨?_, ?_⟩ | exact rfl | exact oR | exact orB rfl | exact oL) <;> (try conv => whnf) <;> (try first | apply cgB | apply cgI | apply cgS | apply cgR | apply cgD | refine cgL ?_) <;> (try (rw [wrap_i64 (by omega) (by omega)]; first | rfl | omega)))) | apply altl))
   (repeat ((conv => whnf); first | (apply nx; intro s) | (apply rg; intro s k))); (conv => whnf)
   refine Tri.loop (fun q : Nat × Nat => ⟨[(0, aL .u8 l), (1, aI at0), (4, aI 0), (5, aI 0), (6, .c (.bool false)), (7, aI q.2), (8, aI q.1)], [], 0⟩) (fun q => GN l at0 q) (fun q => 5 - q.1) (0, 0) (gn_zero l at0) ?_ ?_
   · (apply WkF.au; (conv => whnf); ((repeat' first | exact trivial | refine ⟨?_, ?_⟩ | exact rfl | exact oR | exact orB rfl | exact oL) <;> (try conv => whnf) <;> (try first | apply cgB | apply cgI | apply cgS | apply cgR | apply cgD | refine cgL ?_) <;> (try (rw [wrap_i64 (by omega) (by omega)]; first | rfl | omega))))
   · intro ⟨i, n⟩ hI
     have hI1 := hI.1
     have hI2 := hI.2.1
     dsimp only at hI1 hI2
     have hwi : i < 5 → IntKind.i64.wrap ((at0 : Int) + (i : Int)) = ((at0 + i : Nat) : Int) := fun _ => by rw [wrap_i64 (by omega) (by omega)]; omega
     refine vc_sound hT hM _ _ _ ?_
     dsimp only
     by_cases hin : i < 5 ∧ at0 + i < l.length
     · have hnx := gn_next hI hin.1 hin.2
       have hst := gn_step hI hin.1 hin.2
       have hwi' := hwi hin.1
       have hlt2 := hin.2
       have hlt5 := hin.1
       have hw7 : IntKind.i64.wrap (7 * (i : Int)) = ((7 * i : Nat) : Int) := by rw [wrap_i64 (by omega) (by omega)]; omega
       have hc256 := (l.getD (at0 + i) 0).toNat_lt
       have hcc : (l.getD (IntKind.i64.wrap ((at0 : Int) + (i : Int))).toNat (dflt .u8)).toNat = (l.getD (at0 + i) 0).toNat := by rw [hwi', Int.toNat_natCast]
       have hcw : IntKind.i64.wrap ((UInt8.toNat (l.getD (IntKind.i64.wrap ((at0 : Int) + (i : Int))).toNat (dflt .u8)) : Nat) : Int) = (((l.getD (at0 + i) 0).toNat : Nat) : Int) := by rw [hcc, wrap_i64 (by omega) (by omega)]
       obtain ⟨_, hv⟩ := gn_val (c := (l.getD (at0 + i) 0).toNat) hI2 hlt5 hc256
       have hV0 := gn_or (c := (l.getD (at0 + i) 0).toNat) hI2 hlt5 hc256
       have hV : IntKind.i64.wrap ((BitVec.ofInt IntKind.i64.bits (n : Int) ||| BitVec.ofInt IntKind.i64.bits (IntKind.i64.wrap (((IntKind.i64.wrap ((UInt8.toNat (l.getD (IntKind.i64.wrap ((at0 : Int) + (i : Int))).toNat (dflt .u8)) : Nat) : Int)).tmod 128) * 2 ^ min (IntKind.i64.wrap (7 * (i : Int))).toNat IntKind.i64.bits))).toNat : Int) = ((n + (l.getD (at0 + i) 0).toNat % 128 * 2 ^ (7 * i) : Nat) : Int) := by rw [hcw]; exact hV0
       clear hV0
       generalize (l.getD (at0 + i) 0).toNat = c at *
       generalize hvd : n + c % 128 * 2 ^ (7 * i) = v at *
       have hend : IntKind.i64.wrap (IntKind.i64.wrap ((at0 : Int) + (i : Int)) + 1) = ((at0 + i + 1 : Nat) : Int) := by rw [hwi', wrap_i64 (by omega) (by omega)]; omega
       by_cases h127 : 127 < c
       · (repeat' ((conv => whnf); first | (apply nx; intro s) | (apply rg; intro s k) | ((first | refine cas (fun h => ?_) (fun h => ?_) | refine may (fun h => ?_) ?_) <;> (try simp [-List.getD_eq_getElem?_getD, ↓hcw, ↓hwi'] at h)) | (refine giv fun hg => ?_; (try simp only [byE] at hg)) | (refine need (by rw [hwi']; omega) ?_) | (refine need (by rw [hw7]; omega) ?_) | refine need (by first | kernel_rfl | omega | (simp; done) | (simp; omega)) ?_ | (exfalso; omega) | (refine ⟨(i + 1, v), hst (by omega), by dsimp only; omega, ?_⟩) | ((first | refine fin_au rfl ?_ | apply WkF.au); (conv => whnf); ((repeat' first | exact trivial | refine ⟨?_, ?_⟩ | exact rfl | exact oR | exact orB rfl | exact oL) <;> (try conv => whnf) <;> (try first | apply cgB | apply cgI | apply cgS | apply cgR | apply cgD | refine cgL ?_) <;> (try (rw [wrap_i64 (by omega) (by omega)]; first | rfl | omega)))) | apply altl))
         all_goals exact hV
       · rw [if_neg h127] at hnx
         have hm : ((v : Nat) : Int).tmod 2 = ((v % 2 : Nat) : Int) := by rw [Int.tmod_eq_emod_of_nonneg (by omega)]; omega
         by_cases hodd : v % 2 = 1
         · skip
           have hX : IntKind.i64.wrap (IntKind.i64.wrap (0 - IntKind.i64.wrap ((IntKind.i64.wrap ((BitVec.ofInt IntKind.i64.bits (n : Int) ||| BitVec.ofInt IntKind.i64.bits (IntKind.i64.wrap (((IntKind.i64.wrap ((UInt8.toNat (l.getD (IntKind.i64.wrap ((at0 : Int) + (i : Int))).toNat (dflt .u8)) : Nat) : Int)).tmod 128) * 2 ^ min (IntKind.i64.wrap (7 * (i : Int))).toNat IntKind.i64.bits))).toNat : Int)).tdiv 2)) - 1) = unzig v := by rw [hV]; exact unzig_odd' hv hodd
           cases hr : inR (unzig v) with
           | false =>
             rw [getN_none (by rw [hnx, if_pos (.inr hr)])]
             (repeat' ((conv => whnf); first | (apply nx; intro s) | (apply rg; intro s k) | ((first | refine cas (fun h => ?_) (fun h => ?_) | refine may (fun h => ?_) ?_) <;> (try simp [-List.getD_eq_getElem?_getD, ↓hcw, ↓hwi', ↓hX, ↓hV, hm, putN_nil, hr] at h)) | (refine giv fun hg => ?_; (try simp only [byE] at hg)) | (refine need (by rw [hwi']; omega) ?_) | (refine need (by rw [hw7]; omega) ?_) | refine need (by first | kernel_rfl | omega | (simp; done) | (simp; omega)) ?_ | (exfalso; omega) | (refine call_n (r_specPutNum _) rfl (by (repeat' first | exact trivial | refine ⟨?_, ?_⟩ | exact rfl | exact oR | exact orB rfl | exact oL); (first | done | fail)) (by (repeat' first | exact trivial | refine ⟨?_, ?_⟩ | exact rfl | exact oR | exact orB rfl | exact oL); (first | done | fail)) ?_) | ((first | refine fin_au rfl ?_ | apply WkF.au); (conv => whnf); ((repeat' first | exact trivial | refine ⟨?_, ?_⟩ | exact rfl | exact oR | exact orB rfl | exact oL) <;> (try conv => whnf) <;> (try first | apply cgB | apply cgI | apply cgS | apply cgR | apply cgD | refine cgL ?_) <;> (try (rw [wrap_i64 (by omega) (by omega)]; first | rfl | omega)))) | apply altl))
           | true =>
             by_cases hz : c = 0 ∧ 0 < i
             · rw [getN_none (by rw [hnx, if_pos (.inl hz)])]
               (repeat' ((conv => whnf); first | (apply nx; intro s) | (apply rg; intro s k) | ((first | refine cas (fun h => ?_) (fun h => ?_) | refine may (fun h => ?_) ?_) <;> (try simp [-List.getD_eq_getElem?_getD, ↓hcw, ↓hwi', ↓hX, ↓hV, hm, putN_nil, hr] at h)) | (refine giv fun hg => ?_; (try simp only [byE] at hg)) | (refine need (by rw [hwi']; omega) ?_) | (refine need (by rw [hw7]; omega) ?_) | refine need (by first | kernel_rfl | omega | (simp; done) | (simp; omega)) ?_ | (exfalso; omega) | (refine call_n (r_specPutNum _) rfl (by (repeat' first | exact trivial | refine ⟨?_, ?_⟩ | exact rfl | exact oR | exact orB rfl | exact oL); (first | done | fail)) (by (repeat' first | exact trivial | refine ⟨?_, ?_⟩ | exact rfl | exact oR | exact orB rfl | exact oL); (first | done | fail)) ?_) | ((first | refine fin_au rfl ?_ | apply WkF.au); (conv => whnf); ((repeat' first | exact trivial | refine ⟨?_, ?_⟩ | exact rfl | exact oR | exact orB rfl | exact oL) <;> (try conv => whnf) <;> (try first | apply cgB | apply cgI | apply cgS | apply cgR | apply cgD | refine cgL ?_) <;> (try (rw [wrap_i64 (by omega) (by omega)]; first | rfl | omega)))) | apply altl))
             · rw [getN_some (hnx.trans (if_neg (by rintro (h1 | h1); exact hz h1; rw [hr] at h1; cases h1)))]
               (repeat' ((conv => whnf); first | (apply nx; intro s) | (apply rg; intro s k) | ((first | refine cas (fun h => ?_) (fun h => ?_) | refine may (fun h => ?_) ?_) <;> (try simp [-List.getD_eq_getElem?_getD, ↓hcw, ↓hwi', ↓hX, ↓hV, hm, putN_nil, hr] at h)) | (refine giv fun hg => ?_; (try simp only [byE] at hg)) | (refine need (by rw [hwi']; omega) ?_) | (refine need (by rw [hw7]; omega) ?_) | refine need (by first | kernel_rfl | omega | (simp; done) | (simp; omega)) ?_ | (exfalso; omega) | (refine call_n (r_specPutNum _) rfl (by (repeat' first | exact trivial | refine ⟨?_, ?_⟩ | exact rfl | exact oR | exact orB rfl | exact oL); (first | done | fail)) (by (repeat' first | exact trivial | refine ⟨?_, ?_⟩ | exact rfl | exact oR | exact orB rfl | exact oL); (first | done | fail)) ?_) | ((first | refine fin_au rfl ?_ | apply WkF.au); (conv => whnf); ((repeat' first | exact trivial | refine ⟨?_, ?_⟩ | exact rfl | exact oR | exact orB rfl | exact oL) <;> (try conv => whnf) <;> (try first | apply cgB | apply cgI | apply cgS | apply cgR | apply cgD | refine cgL ?_) <;> (try (rw [wrap_i64 (by omega) (by omega)]; first | rfl | omega)))) | apply altl))
               all_goals first
                | exact hX
                | exact hend
         · skip
           have hX : IntKind.i64.wrap ((IntKind.i64.wrap ((BitVec.ofInt IntKind.i64.bits (n : Int) ||| BitVec.ofInt IntKind.i64.bits (IntKind.i64.wrap (((IntKind.i64.wrap ((UInt8.toNat (l.getD (IntKind.i64.wrap ((at0 : Int) + (i : Int))).toNat (dflt .u8)) : Nat) : Int)).tmod 128) * 2 ^ min (IntKind.i64.wrap (7 * (i : Int))).toNat IntKind.i64.bits))).toNat : Int)).tdiv 2) = unzig v := by rw [hV]; exact unzig_even hv hodd
           cases hr : inR (unzig v) with
           | false =>
             rw [getN_none (by rw [hnx, if_pos (.inr hr)])]
             (repeat' ((conv => whnf); first | (apply nx; intro s) | (apply rg; intro s k) | ((first | refine cas (fun h => ?_) (fun h => ?_) | refine may (fun h => ?_) ?_) <;> (try simp [-List.getD_eq_getElem?_getD, ↓hcw, ↓hwi', ↓hX, ↓hV, hm, putN_nil, hr] at h)) | (refine giv fun hg => ?_; (try simp only [byE] at hg)) | (refine need (by rw [hwi']; omega) ?_) | (refine need (by rw [hw7]; omega) ?_) | refine need (by first | kernel_rfl | omega | (simp; done) | (simp; omega)) ?_ | (exfalso; omega) | (refine call_n (r_specPutNum _) rfl (by (repeat' first | exact trivial | refine ⟨?_, ?_⟩ | exact rfl | exact oR | exact orB rfl | exact oL); (first | done | fail)) (by (repeat' first | exact trivial | refine ⟨?_, ?_⟩ | exact rfl | exact oR | exact orB rfl | exact oL); (first | done | fail)) ?_) | ((first | refine fin_au rfl ?_ | apply WkF.au); (conv => whnf); ((repeat' first | exact trivial | refine ⟨?_, ?_⟩ | exact rfl | exact oR | exact orB rfl | exact oL) <;> (try conv => whnf) <;> (try first | apply cgB | apply cgI | apply cgS | apply cgR | apply cgD | refine cgL ?_) <;> (try (rw [wrap_i64 (by omega) (by omega)]; first | rfl | omega)))) | apply altl))
           | true =>
             by_cases hz : c = 0 ∧ 0 < i
             · rw [getN_none (by rw [hnx, if_pos (.inl hz)])]
               (repeat' ((conv => whnf); first | (apply nx; intro s) | (apply rg; intro s k) | ((first | refine cas (fun h => ?_) (fun h => ?_) | refine may (fun h => ?_) ?_) <;> (try simp [-List.getD_eq_getElem?_getD, ↓hcw, ↓hwi', ↓hX, ↓hV, hm, putN_nil, hr] at h)) | (refine giv fun hg => ?_; (try simp only [byE] at hg)) | (refine need (by rw [hwi']; omega) ?_) | (refine need (by rw [hw7]; omega) ?_) | refine need (by first | kernel_rfl | omega | (simp; done) | (simp; omega)) ?_ | (exfalso; omega) | (refine call_n (r_specPutNum _) rfl (by (repeat' first | exact trivial | refine ⟨?_, ?_⟩ | exact rfl | exact oR | exact orB rfl | exact oL); (first | done | fail)) (by (repeat' first | exact trivial | refine ⟨?_, ?_⟩ | exact rfl | exact oR | exact orB rfl | exact oL); (first | done | fail)) ?_) | ((first | refine fin_au rfl ?_ | apply WkF.au); (conv => whnf); ((repeat' first | exact trivial | refine ⟨?_, ?_⟩ | exact rfl | exact oR | exact orB rfl | exact oL) <;> (try conv => whnf) <;> (try first | apply cgB | apply cgI | apply cgS | apply cgR | apply cgD | refine cgL ?_) <;> (try (rw [wrap_i64 (by omega) (by omega)]; first | rfl | omega)))) | apply altl))
             · rw [getN_some (hnx.trans (if_neg (by rintro (h1 | h1); exact hz h1; rw [hr] at h1; cases h1)))]
               (repeat' ((conv => whnf); first | (apply nx; intro s) | (apply rg; intro s k) | ((first | refine cas (fun h => ?_) (fun h => ?_) | refine may (fun h => ?_) ?_) <;> (try simp [-List.getD_eq_getElem?_getD, ↓hcw, ↓hwi', ↓hX, ↓hV, hm, putN_nil, hr] at h)) | (refine giv fun hg => ?_; (try simp only [byE] at hg)) | (refine need (by rw [hwi']; omega) ?_) | (refine need (by rw [hw7]; omega) ?_) | refine need (by first | kernel_rfl | omega | (simp; done) | (simp; omega)) ?_ | (exfalso; omega) | (refine call_n (r_specPutNum _) rfl (by (repeat' first | exact trivial | refine ⟨?_, ?_⟩ | exact rfl | exact oR | exact orB rfl | exact oL); (first | done | fail)) (by (repeat' first | exact trivial | refine ⟨?_, ?_⟩ | exact rfl | exact oR | exact orB rfl | exact oL); (first | done | fail)) ?_) | ((first | refine fin_au rfl ?_ | apply WkF.au); (conv => whnf); ((repeat' first | exact trivial | refine ⟨?_, ?_⟩ | exact rfl | exact oR | exact orB rfl | exact oL) <;> (try conv => whnf) <;> (try first | apply cgB | apply cgI | apply cgS | apply cgR | apply cgD | refine cgL ?_) <;> (try (rw [wrap_i64 (by omega) (by omega)]; first | rfl | omega)))) | apply altl))
               all_goals first
                | exact hX
                | exact hend
     · rw [gn_stop hI hin]
       (repeat' ((conv => whnf); first | (apply nx; intro s) | (apply rg; intro s k) | ((first | refine cas (fun h => ?_) (fun h => ?_) | refine may (fun h => ?_) ?_) <;> (try simp [-List.getD_eq_getElem?_getD] at h)) | (refine giv fun hg => ?_; (try simp only [byE] at hg)) | refine need (by first | kernel_rfl | omega | (simp; done) | (simp; omega)) ?_ | (exfalso; rw [hwi (by omega)] at *; omega) | ((first | refine fin_au rfl ?_ | apply WkF.au); (conv => whnf); ((repeat' first | exact trivial | refine ⟨?_, ?_⟩ | exact rfl | exact oR | exact orB rfl | exact oL) <;> (try conv => whnf) <;> (try first | apply cgB | apply cgI | apply cgS | apply cgR | apply cgD | refine cgL ?_) <;> (try (rw [wrap_i64 (by omega) (by omega)]; first | rfl | omega)))) | apply altl))
 · rw [getN_out (by omega)]
   refine ret_vc hT hM Tryz.func272 rfl rfl (m := 0) (nx := 0) rfl (Nat.le_of_ble_eq_true rfl) ?_
   (repeat' ((conv => whnf); first | (apply nx; intro s) | (apply rg; intro s k) | ((first | refine cas (fun h => ?_) (fun h => ?_) | refine may (fun h => ?_) ?_) <;> (try simp [-List.getD_eq_getElem?_getD] at h)) | (refine giv fun hg => ?_; (try simp only [byE] at hg)) | refine need (by first | kernel_rfl | omega | (simp; done) | (simp; omega)) ?_ | (exfalso; omega) | ((first | refine fin_au rfl ?_ | apply WkF.au); (conv => whnf); ((repeat' first | exact trivial | refine ⟨?_, ?_⟩ | exact rfl | exact oR | exact orB rfl | exact oL) <;> (try conv => whnf) <;> (try first | apply cgB | apply cgI | apply cgS | apply cgR | apply cgD | refine cgL ?_) <;> (try (rw [wrap_i64 (by omega) (by omega)]; first | rfl | omega)))) | apply altl))
end Go.Proofs.YthbpdhppelaihaaGreat