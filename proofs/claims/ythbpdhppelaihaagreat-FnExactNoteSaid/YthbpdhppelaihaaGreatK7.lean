/- How many marks there are, by what was counted at the door: all that is handed over is bounded, all the way down. Conditions: none. -/
import Derived.Test.YthbpdhppelaihaaGreatK5
import Derived.Test.YthbpdhppelaihaaGreatS1
set_option linter.unusedVariables false
set_option linter.unusedSimpArgs false
namespace Go.Proofs.YthbpdhppelaihaaGreat
open Go.RowKit
mutual
/-- No slice is too long, all the way down. -/
inductive BndC : C → Prop
  | int (k : IntKind) (n : Int) : BndC (.int k n)
  | bool (b : Bool) : BndC (.bool b)
  | str (s : List UInt8) : BndC (.str s)
  | sl (e : Ty) (xs : List (El e)) (hb : xs.length * byE e ≤ 140737488355328) (hr : BndL (xs.flatMap (cells e))) : BndC (.sl e xs)
inductive BndL : List C → Prop
  | nil : BndL []
  | cons {c : C} {cs : List C} (h : BndC c) (t : BndL cs) : BndL (c :: cs)
end
mutual
theorem RepC.bnd {F : Nat → Prop} {w : World} : ∀ {v : Value} {c : C}, RepC F w v c → BndC c
  | _, _, .int k n => .int k n
  | _, _, .bool b => .bool b
  | _, _, .str s hs => .str _
  | _, _, .sl e xs A c us hc hb hA hr => .sl e xs hb (RepL.bnd hr)
theorem RepL.bnd {F : Nat → Prop} {w : World} : ∀ {us : List Value} {cs : List C}, RepL F w us cs → BndL cs
  | _, _, .nil => .nil
  | _, _, .cons h t => .cons (RepC.bnd h) (RepL.bnd t)
end
theorem BndL.un {c : C} {cs : List C} (h : BndL (c :: cs)) : BndC c ∧ BndL cs := by cases h with | cons h t => exact ⟨h, t⟩
theorem BndL.app : ∀ {a b : List C}, BndL (a ++ b) → BndL a ∧ BndL b
  | [], _, h => ⟨.nil, h⟩
  | c :: a, b, h => by
    have h1 := (BndL.un (cs := a ++ b) h)
    have h2 := BndL.app h1.2
    exact ⟨.cons h1.1 h2.1, h2.2⟩
theorem BndC.len {e : Ty} {xs : List (El e)} (h : BndC (.sl e xs)) : xs.length ≤ 140737488355328 := by
  cases h with | sl _ _ hb _ =>
  have := byE_pos e
  calc xs.length = xs.length * 1 := (Nat.mul_one _).symm
    _ ≤ xs.length * byE e := Nat.mul_le_mul_left _ this
    _ ≤ _ := hb
theorem bnd_flat {e : Ty} : ∀ {xs : List (El e)}, BndL (xs.flatMap (cells e)) → ∀ x ∈ xs, BndL (cells e x)
  | [], _, x, hx => by simp at hx
  | y :: xs, h, x, hx => by
    rw [List.flatMap_cons] at h
    rcases List.mem_cons.1 hx with rfl | hx
    · exact h.app.1
    · exact bnd_flat h.app.2 x hx
theorem BndC.el {e : Ty} {xs : List (El e)} (h : BndC (.sl e xs)) : ∀ x ∈ xs, BndL (cells e x) := by
  cases h with | sl _ _ _ hr => exact bnd_flat hr
theorem bnd_as {F : Nat → Prop} {V : Nat → Value} {w : World} : ∀ {cs : List C} {us : List Value}, RepAs F V w us (cs.map .c) → BndL cs
  | [], _, _ => .nil
  | c :: cs, _, h => by
    cases h with
    | cons h t =>
      cases h with
      | c h => exact .cons h.bnd (bnd_as t)
/-- A struct that is handed over is bounded. -/
theorem ret_bnd {P : Program} {f : Nat} {az : List A} {hin : Hp} {r : A} {hout : Hp} (j : Nat) {cs : List C} (he : Ent P f) (ha : az[j]? = some (agL cs)) (h : BndL cs → Ret P f az hin r hout) : Ret P f az hin r hout := by
  refine ⟨he, fun F V B w args h1 h2 h3 h4 h5 => ?_⟩
  obtain ⟨u, hu, hr⟩ := h4.get ha
  have hb : BndL cs := by
    cases hr with | ag hr _ => exact bnd_as hr
  exact (h hb).2 F V B w args h1 h2 h3 h4 h5
theorem ret_bndS {P : Program} {f : Nat} {az : List A} {hin : Hp} {r : A} {hout : Hp} (j : Nat) {c : C} (he : Ent P f) (ha : az[j]? = some (.c c)) (h : BndC c → Ret P f az hin r hout) : Ret P f az hin r hout := by
  refine ⟨he, fun F V B w args h1 h2 h3 h4 h5 => ?_⟩
  obtain ⟨u, hu, hr⟩ := h4.get ha
  have hb : BndC c := by
    cases hr with | c hr => exact hr.bnd
  exact (h hb).2 F V B w args h1 h2 h3 h4 h5
/-- What f takes off covers c marks. -/
def Cov (f : Int → Int) (c : Int) : Prop := ∀ l, 0 ≤ l → l ≤ 1099511627776 → ¬ f l < 0 → c + 9 * f l ≤ 9 * l
theorem good_nil : Cov (szq []) 0 := fun l h0 h1 h2 => by simp [szq]
theorem good_cons {f : Int → Int} {fs : List (Int → Int)} {c d : Int} (hf : Cov f c) (hc : 0 ≤ c) (hd : Cov (szq fs) d) : Cov (szq (f :: fs)) (c + d) := by
  intro l h0 h1 h2
  simp only [szq] at h2 ⊢
  by_cases hn : f l < 0
  · rw [if_pos hn] at h2; omega
  · rw [if_neg hn] at h2 ⊢
    have h3 := hf l h0 h1 hn
    have h4 := hd (f l) (by omega) (by omega) h2
    omega
theorem sz1_ok {n : Nat} {l : Int} (hn : n ≤ 140737488355328) (h0 : 0 ≤ l) (h1 : l ≤ 1099511627776) (h : ¬ sz1 n l < 0) : sz1 n l = l - n := by
  have hw := wrap_i64 (n := l - n) (by omega) (by omega)
  unfold sz1 at *
  rw [hw] at h ⊢
  split at h
  · omega
  · rename_i h2; rw [if_neg h2]
theorem good_sz1 {n : Nat} {c : Int} (hn : n ≤ 140737488355328) (hc : c ≤ 9 * n) : Cov (sz1 n) c := fun l h0 h1 h2 => by
  rw [sz1_ok hn h0 h1 h2]; omega
theorem cnG_cK {α : Type} (j : Int) : ∀ xs : List α, cnG (cK j) xs = j * xs.length
  | [] => by simp [cnG]
  | x :: xs => by simp only [cnG, cnG_cK j xs, List.length_cons, cK]; rw [Int.natCast_add, Int.mul_add]; omega
theorem good_fl {e : Ty} {xs : List (El e)} (h : BndC (.sl e xs)) (j : Int) (h0 : 0 ≤ j) (h1 : j ≤ 9) : Cov (sz1 xs.length) (cnG (cK j) xs) := by
  refine good_sz1 h.len ?_
  rw [cnG_cK]
  exact Int.mul_le_mul_of_nonneg_right h1 (by omega)
theorem good_szG {α : Type} {f : α → Int → Int} {c d : α → Int} : ∀ {xs : List α}, (∀ x ∈ xs, Cov (f x) (d x) ∧ 0 ≤ d x ∧ c x ≤ d x + 9) → ∀ l, 0 ≤ l → l ≤ 1099511627776 → ¬ szG f xs l < 0 → cnG c xs + 9 * szG f xs l ≤ 9 * l + 9 * xs.length
  | [], _, l, h0, h1, h2 => by simp [szG, cnG]
  | x :: xs, h, l, h0, h1, h2 => by
    obtain ⟨h3, h4, h5⟩ := h x (List.mem_cons_self ..)
    simp only [szG] at h2 ⊢
    by_cases hn : f x l < 0
    · rw [if_pos hn] at h2; omega
    · rw [if_neg hn] at h2 ⊢
      have h6 := h3 l h0 h1 hn
      have h7 := good_szG (fun y hy => h y (List.mem_cons_of_mem _ hy)) (f x l) (by omega) (by omega) h2
      simp only [cnG, List.length_cons]
      omega
theorem good_szS {α : Type} {f : α → Int → Int} {c d : α → Int} {xs : List α} (hb : xs.length ≤ 140737488355328) (h : ∀ x ∈ xs, Cov (f x) (d x) ∧ 0 ≤ d x ∧ c x ≤ d x + 9) : Cov (szS f xs) (cnG c xs) := by
  intro l h0 h1 h2
  unfold szS at h2 ⊢
  by_cases hn : sz1 xs.length l < 0
  · rw [if_pos hn] at h2; omega
  · rw [if_neg hn] at h2 ⊢
    have h3 := sz1_ok hb h0 h1 hn
    have h4 := good_szG h _ (by omega) (by omega) h2
    omega
theorem szTl_eq : ∀ (xs : List Tr) (l : Int), szTl xs l = szG szT xs l
  | [], l => by simp only [szTl, szG]
  | x :: xs, l => by simp only [szTl, szG]; rw [szTl_eq xs]
theorem szT_q (t : Tr) (l : Int) : szT t l = szq [sz1 t.pairs.length, sz1 t.cuts.length, szS szT t.kids, sz1 t.buf.length] l := by
  rw [szT_eq]
  have : szTs t.kids = szS szT t.kids := by funext l; simp only [szTs, szS, szTl_eq]
  rw [this]
  simp only [szq]
  repeat' split
  all_goals rfl
theorem good_T' : ∀ (n : Nat) (t : Tr), SizeOf.sizeOf t < n → BndL (Tr.cells t) → Cov (szT t) (cnT t) := by
  intro n
  induction n with
  | zero => intro t h; omega
  | succ n ih =>
    intro t hn hb
    have h1 := hb.un.2.un
    have h2 := h1.2.un
    have h3 := h2.2.un
    have h4 := h3.2.un
    have hp := cT_parts t
    have hk : Cov (szS szT t.kids) (cnG cTr t.kids) := good_szS (d := cnT) h3.1.len fun x hx => ⟨ih x (by have := kid_lt hx; omega) (h3.1.el x hx), cnT_pos x, by unfold cTr; omega⟩
    have := good_cons (good_fl h1.1 2 (by decide) (by decide)) hp.2.1 (good_cons (good_fl h2.1 1 (by decide) (by decide)) hp.2.2.1 (good_cons hk hp.2.2.2.1 (good_cons (good_fl h4.1 3 (by decide) (by decide)) hp.2.2.2.2 good_nil)))
    intro l h0 h1 h2
    rw [szT_q] at h2 ⊢
    have := this l h0 h1 h2
    rw [cnT_eq]
    omega
theorem good_T (t : Tr) (h : BndL (Tr.cells t)) : Cov (szT t) (cnT t) := good_T' _ t (Nat.lt_succ_self _) h
theorem Cov.le {f : Int → Int} {c d : Int} (h : Cov f c) (hd : d ≤ c) : Cov f d := fun l h0 h1 h2 => by have := h l h0 h1 h2; omega
theorem bnd_tr {l : Bool} {p : List Pr} {c : List Int} {k : List Tr} {b : List Ms} {cs : List C} (h : BndL (.bool l :: .sl .pr p :: .sl .int c :: .sl .tr k :: .sl .ms b :: cs)) : BndL (Tr.cells ⟨l, p, c, k, b⟩) ∧ BndL cs := by
  have h1 := h.un.2.un
  have h2 := h1.2.un
  have h3 := h2.2.un
  have h4 := h3.2.un
  exact ⟨.cons (.bool _) (.cons h1.1 (.cons h2.1 (.cons h3.1 (.cons h4.1 .nil)))), h4.2⟩
theorem good_Mc (m : Mc) (h : BndL (Mc.cells m)) : Cov (szMc m) (cnMc m) := by
  obtain ⟨ht, hl⟩ := bnd_tr (h : BndL [.bool m.t.leaf, .sl .pr m.t.pairs, .sl .int m.t.cuts, .sl .tr m.t.kids, .sl .ms m.t.buf, .sl .dn m.last])
  have := good_cons (good_T m.t ht) (cnT_pos _) (good_cons (good_fl hl.un.1 4 (by decide) (by decide)) (cnG_pos (cK_pos (by decide)) _) good_nil)
  exact this.le (by have := cnMc_parts m; omega)
theorem good_Lg (m : Lg) (h : BndL (Lg.cells m)) : Cov (szLg m) (cnG (cK 6) m.list) := by
  have h2 := h.un.2.un.2.un.1
  exact (good_cons (good_fl h2 6 (by decide) (by decide)) (cnG_pos (cK_pos (by decide)) _) good_nil).le (by omega)
theorem cNd_le (m : Nd) : cNd m = cnNd m + 9 := by
  have h1 := cNd_parts m
  have h2 := cnNd_parts m
  have h3 := cnMc_parts m.snap
  have h4 := cnMc_parts m.now
  have h5 := cT_parts m.snap.t
  have h6 := cT_parts m.now.t
  have h7 : cTr m.snap.t = 1 + cnT m.snap.t := rfl
  have h8 : cTr m.now.t = 1 + cnT m.now.t := rfl
  omega
def cnRp (m : Rp) : Int := cnG (cK 6) m.entries + cnMc m.snap
theorem cRp_le (m : Rp) : cRp m = cnRp m + 9 := by
  have h1 := cRp_parts m
  have h3 := cnMc_parts m.snap
  have h5 := cT_parts m.snap.t
  have h7 : cTr m.snap.t = 1 + cnT m.snap.t := rfl
  unfold cnRp
  omega
theorem cnMc_pos (m : Mc) : 0 ≤ cnMc m := by have := cnMc_parts m; omega
theorem good_Nd (m : Nd) (h : BndL (Nd.cells m)) : Cov (szNd m) (cnNd m) := by
  have h5 := h.un.2.un.2.un.2.un.2.un.2.un
  have hs := bnd_tr h5.2
  have hsl := hs.2.un
  have hv := hsl.2.un.2.un
  have hn := hv.2.un
  have hm := hn.2.un
  have ho := bnd_tr hm.2.un.2
  have hol := ho.2.un
  have hp := cnNd_parts m
  have := good_cons (good_Lg m.log (.cons (.int _ _) (.cons (.int _ _) (.cons h5.1 .nil)))) hp.2.1 (good_cons (good_Mc m.snap (.cons hs.1.un.1 (.cons hs.1.un.2.un.1 (.cons hs.1.un.2.un.2.un.1 (.cons hs.1.un.2.un.2.un.2.un.1 (.cons hs.1.un.2.un.2.un.2.un.2.un.1 (.cons hsl.1 .nil))))))) hp.2.2.1
    (good_cons (good_fl hv.1 1 (by decide) (by decide)) hp.2.2.2.1 (good_cons (good_fl hn.1 1 (by decide) (by decide)) hp.2.2.2.2.1 (good_cons (good_fl hm.1 1 (by decide) (by decide)) hp.2.2.2.2.2.1 (good_cons (good_Mc m.now (.cons ho.1.un.1 (.cons ho.1.un.2.un.1 (.cons ho.1.un.2.un.2.un.1 (.cons ho.1.un.2.un.2.un.2.un.1 (.cons ho.1.un.2.un.2.un.2.un.2.un.1 (.cons hol.1 .nil))))))) hp.2.2.2.2.2.2 good_nil)))))
  exact this.le (by omega)
theorem good_Rp (m : Rp) (h : BndL (Rp.cells m)) : Cov (szRp m) (cnRp m) := by
  have h8 := h.un.2.un.2.un.2.un.2.un.2.un.2.un.2.un.2.un
  have hs := bnd_tr h8.2
  have hsl := hs.2.un
  have := good_cons (good_fl h8.1 6 (by decide) (by decide)) (cnG_pos (cK_pos (by decide)) _) (good_cons (good_Mc m.snap (.cons hs.1.un.1 (.cons hs.1.un.2.un.1 (.cons hs.1.un.2.un.2.un.1 (.cons hs.1.un.2.un.2.un.2.un.1 (.cons hs.1.un.2.un.2.un.2.un.2.un.1 (.cons hsl.1 .nil))))))) (cnMc_pos _) good_nil)
  exact this.le (by unfold cnRp; omega)
theorem cnRp_pos (m : Rp) : 0 ≤ cnRp m := by
  have := cnMc_pos m.snap
  have := cnG_pos (c := cK (α := En) 6) (cK_pos (by decide)) m.entries
  unfold cnRp; omega
theorem cnNd_pos (m : Nd) : 0 ≤ cnNd m := by have := cnNd_parts m; omega
theorem good_RpS (xs : List Rp) (h : BndC (.sl .rp xs)) : Cov (szS szRp xs) (cnG cRp xs) :=
  good_szS (d := cnRp) h.len fun x hx => ⟨good_Rp x (h.el x hx), cnRp_pos x, by rw [cRp_le]; omega⟩
theorem good_Wd (m : Wd) (h : BndL (Wd.cells m)) : Cov (szWd m) (cnWd m) := by
  have h1 := h.un.2.un
  have h2 := h1.2.un
  have h3 := h2.2.un
  have h4 := h3.2.un
  have h5 := h4.2.un
  have hp := cnWd_parts m
  have := good_cons (good_szS (f := szNd) (c := cNd) (d := cnNd) (xs := m.nodes) h1.1.len fun x hx => ⟨good_Nd x (h1.1.el x hx), cnNd_pos x, by rw [cNd_le]; omega⟩) hp.2.1
    (good_cons (good_RpS m.net h2.1) hp.2.2.1 (good_cons (good_fl h3.1 5 (by decide) (by decide)) hp.2.2.2.1 (good_cons (good_fl h4.1 4 (by decide) (by decide)) hp.2.2.2.2.1 (good_cons (good_fl h5.1 2 (by decide) (by decide)) hp.2.2.2.2.2 good_nil))))
  exact this.le (by omega)
end Go.Proofs.YthbpdhppelaihaaGreat
