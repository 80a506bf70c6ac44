/- Sizes of what worlds are made of. Conditions: none. By program (gen3.py). -/
import Derived.Test.YthbpdhppelaihaaGreatP3
set_option linter.unusedVariables false
set_option linter.unusedSimpArgs false
namespace Go.Proofs.YthbpdhppelaihaaGreat
open Go.RowKit
attribute [local irreducible] Tri Weak
set_option maxRecDepth 4000
set_option maxHeartbeats 4000000
theorem r_szCmdS (a : List (El .cm)) (left : Int) : Ret Tryz.prog 89 [.c (.sl .cm a), .c (.int .i64 left)] [] (.c (.int .i64 (sz1 a.length left))) [] := by
  refine ret_vc hT hM Tryz.func89 rfl rfl (m := 0) (nx := 0) rfl (Nat.le_of_ble_eq_true rfl) ?_
  (repeat ((conv => whnf); first | (refine nx ?_; intro s) | (refine rg ?_; intro s k))); (conv => whnf)
  refine giv fun h1 => ?_
  (repeat ((conv => whnf); first | (refine nx ?_; intro s) | (refine rg ?_; intro s k))); (conv => whnf)
  refine cas (fun h2 => ?_) (fun h2 => ?_)
  · refine ⟨_, rfl, [], [], rfl, trivial, ⟨?_, trivial⟩, trivial, ⟨trivial, trivial⟩, trivial⟩
    show C.int _ _ = C.int _ _
    simp at h2
    simp [sz1, h2]
  · refine ⟨_, rfl, [], [], rfl, trivial, ⟨?_, trivial⟩, trivial, ⟨trivial, trivial⟩, trivial⟩
    show C.int _ _ = C.int _ _
    simp at h2
    simp [sz1]
    intro h; omega
theorem r_szDoneS (a : List (El .dn)) (left : Int) : Ret Tryz.prog 90 [.c (.sl .dn a), .c (.int .i64 left)] [] (.c (.int .i64 (sz1 a.length left))) [] := by
  refine ret_vc hT hM Tryz.func90 rfl rfl (m := 0) (nx := 0) rfl (Nat.le_of_ble_eq_true rfl) ?_
  (repeat ((conv => whnf); first | (refine nx ?_; intro s) | (refine rg ?_; intro s k))); (conv => whnf)
  refine giv fun h1 => ?_
  (repeat ((conv => whnf); first | (refine nx ?_; intro s) | (refine rg ?_; intro s k))); (conv => whnf)
  refine cas (fun h2 => ?_) (fun h2 => ?_)
  · refine ⟨_, rfl, [], [], rfl, trivial, ⟨?_, trivial⟩, trivial, ⟨trivial, trivial⟩, trivial⟩
    show C.int _ _ = C.int _ _
    simp at h2
    simp [sz1, h2]
  · refine ⟨_, rfl, [], [], rfl, trivial, ⟨?_, trivial⟩, trivial, ⟨trivial, trivial⟩, trivial⟩
    show C.int _ _ = C.int _ _
    simp at h2
    simp [sz1]
    intro h; omega
theorem r_szLeadS (a : List (El .ld)) (left : Int) : Ret Tryz.prog 91 [.c (.sl .ld a), .c (.int .i64 left)] [] (.c (.int .i64 (sz1 a.length left))) [] := by
  refine ret_vc hT hM Tryz.func91 rfl rfl (m := 0) (nx := 0) rfl (Nat.le_of_ble_eq_true rfl) ?_
  (repeat ((conv => whnf); first | (refine nx ?_; intro s) | (refine rg ?_; intro s k))); (conv => whnf)
  refine giv fun h1 => ?_
  (repeat ((conv => whnf); first | (refine nx ?_; intro s) | (refine rg ?_; intro s k))); (conv => whnf)
  refine cas (fun h2 => ?_) (fun h2 => ?_)
  · refine ⟨_, rfl, [], [], rfl, trivial, ⟨?_, trivial⟩, trivial, ⟨trivial, trivial⟩, trivial⟩
    show C.int _ _ = C.int _ _
    simp at h2
    simp [sz1, h2]
  · refine ⟨_, rfl, [], [], rfl, trivial, ⟨?_, trivial⟩, trivial, ⟨trivial, trivial⟩, trivial⟩
    show C.int _ _ = C.int _ _
    simp at h2
    simp [sz1]
    intro h; omega
theorem r_szBoolS (a : List (El .bool)) (left : Int) : Ret Tryz.prog 119 [.c (.sl .bool a), .c (.int .i64 left)] [] (.c (.int .i64 (sz1 a.length left))) [] := by
  refine ret_vc hT hM Tryz.func119 rfl rfl (m := 0) (nx := 0) rfl (Nat.le_of_ble_eq_true rfl) ?_
  (repeat ((conv => whnf); first | (refine nx ?_; intro s) | (refine rg ?_; intro s k))); (conv => whnf)
  refine giv fun h1 => ?_
  (repeat ((conv => whnf); first | (refine nx ?_; intro s) | (refine rg ?_; intro s k))); (conv => whnf)
  refine cas (fun h2 => ?_) (fun h2 => ?_)
  · refine ⟨_, rfl, [], [], rfl, trivial, ⟨?_, trivial⟩, trivial, ⟨trivial, trivial⟩, trivial⟩
    show C.int _ _ = C.int _ _
    simp at h2
    simp [sz1, h2]
  · refine ⟨_, rfl, [], [], rfl, trivial, ⟨?_, trivial⟩, trivial, ⟨trivial, trivial⟩, trivial⟩
    show C.int _ _ = C.int _ _
    simp at h2
    simp [sz1]
    intro h; omega
theorem r_szEntryS (a : List (El .en)) (left : Int) : Ret Tryz.prog 177 [.c (.sl .en a), .c (.int .i64 left)] [] (.c (.int .i64 (sz1 a.length left))) [] := by
  refine ret_vc hT hM Tryz.func177 rfl rfl (m := 0) (nx := 0) rfl (Nat.le_of_ble_eq_true rfl) ?_
  (repeat ((conv => whnf); first | (refine nx ?_; intro s) | (refine rg ?_; intro s k))); (conv => whnf)
  refine giv fun h1 => ?_
  (repeat ((conv => whnf); first | (refine nx ?_; intro s) | (refine rg ?_; intro s k))); (conv => whnf)
  refine cas (fun h2 => ?_) (fun h2 => ?_)
  · refine ⟨_, rfl, [], [], rfl, trivial, ⟨?_, trivial⟩, trivial, ⟨trivial, trivial⟩, trivial⟩
    show C.int _ _ = C.int _ _
    simp at h2
    simp [sz1, h2]
  · refine ⟨_, rfl, [], [], rfl, trivial, ⟨?_, trivial⟩, trivial, ⟨trivial, trivial⟩, trivial⟩
    show C.int _ _ = C.int _ _
    simp at h2
    simp [sz1]
    intro h; omega
def szG {α : Type} (f : α → Int → Int) : List α → Int → Int
  | [], l => l
  | t :: ts, l => if f t l < 0 then -1 else szG f ts (f t l)
def szS {α : Type} (f : α → Int → Int) (k : List α) (left : Int) : Int := if sz1 k.length left < 0 then -1 else szG f k (sz1 k.length left)
def szq : List (Int → Int) → Int → Int
  | [], l => l
  | f :: fs, l => if f l < 0 then -1 else szq fs (f l)
def szMc (m : Mc) : Int → Int := szq [szT m.t, sz1 m.last.length]
def szLg (m : Lg) : Int → Int := szq [sz1 m.list.length]
def szNd (m : Nd) : Int → Int := szq [szLg m.log, szMc m.snap, sz1 m.votes.length, sz1 m.next.length, sz1 m.mtch.length, szMc m.now]
def szRp (m : Rp) : Int → Int := szq [sz1 m.entries.length, szMc m.snap]
def szWd (m : Wd) : Int → Int := szq [szS szNd m.nodes, szS szRp m.net, sz1 m.chosen.length, sz1 m.acks.length, sz1 m.led.length]
abbrev agL (l : List C) : A := .ag (l.map .c)
theorem r_szLog (x : Lg) (left : Int) : Ret Tryz.prog 117 [agL (Lg.cells x), .c (.int .i64 left)] [] (.c (.int .i64 (szLg x left))) [] := by
  refine ret_vc hT hM Tryz.func117 rfl rfl (m := 0) (nx := 0) rfl (Nat.le_of_ble_eq_true rfl) ?_
  (repeat' ((conv => whnf); first | (refine nx ?_; intro s) | (refine rg ?_; intro s k) | ((refine cas (fun h => ?_) (fun h => ?_)) <;> (try simp [-List.getD_eq_getElem?_getD] at h)) | ((refine may (fun h => ?_) ?_) <;> (try simp [-List.getD_eq_getElem?_getD] at h)) | (refine giv fun hg => ?_; (try simp only [byE] at hg)) | (refine need (by kernel_rfl) ?_) | (refine need ⟨by omega, by omega⟩ ?_) | (refine need (by omega) ?_) | (refine need (by first | (simp; done) | (simp; omega)) ?_) | (refine call_p (r_szEntryS x.list _) rfl (by (repeat' (first | exact trivial | refine ⟨?_, ?_⟩ | exact rfl | exact Or.inr rfl | exact Or.inl (Nat.le_of_ble_eq_true rfl)))) ?_) | (refine fin_au rfl ?_; (conv => whnf); ((repeat' (first | exact trivial | refine ⟨?_, ?_⟩ | exact rfl | exact Or.inr rfl | exact Or.inl (Nat.le_of_ble_eq_true rfl))) <;> (try (conv => whnf)) <;> (try (first | refine congrArg C.bool ?_ | refine congrArg (C.int .i64) ?_ | refine congrArg C.str ?_ | refine congrArg (fun l => some (Ob.row _ l)) ?_ | refine congrArg (fun l => some (Ob.dp _ l)) ?_ | refine congrArg (C.sl _) ?_)) <;> (try (rw [wrap_i64 (by omega) (by omega)]; first | rfl | omega)))) | (refine WkF.au ?_; (conv => whnf); ((repeat' (first | exact trivial | refine ⟨?_, ?_⟩ | exact rfl | exact Or.inr rfl | exact Or.inl (Nat.le_of_ble_eq_true rfl))) <;> (try (conv => whnf)) <;> (try (first | refine congrArg C.bool ?_ | refine congrArg (C.int .i64) ?_ | refine congrArg C.str ?_ | refine congrArg (fun l => some (Ob.row _ l)) ?_ | refine congrArg (fun l => some (Ob.dp _ l)) ?_ | refine congrArg (C.sl _) ?_)) <;> (try (rw [wrap_i64 (by omega) (by omega)]; first | rfl | omega)))) | (refine altl ?_) | fail))
  all_goals
    simp only [szLg, szq]
    repeat first | rw [if_pos (by omega)] | rw [if_neg (by omega)]
theorem r_szMachine (x : Mc) (left : Int) : Ret Tryz.prog 118 [agL (Mc.cells x), .c (.int .i64 left)] [] (.c (.int .i64 (szMc x left))) [] := by
  refine ret_vc hT hM Tryz.func118 rfl rfl (m := 0) (nx := 0) rfl (Nat.le_of_ble_eq_true rfl) ?_
  (repeat' ((conv => whnf); first | (refine nx ?_; intro s) | (refine rg ?_; intro s k) | ((refine cas (fun h => ?_) (fun h => ?_)) <;> (try simp [-List.getD_eq_getElem?_getD] at h)) | ((refine may (fun h => ?_) ?_) <;> (try simp [-List.getD_eq_getElem?_getD] at h)) | (refine giv fun hg => ?_; (try simp only [byE] at hg)) | (refine need (by kernel_rfl) ?_) | (refine need ⟨by omega, by omega⟩ ?_) | (refine need (by omega) ?_) | (refine need (by first | (simp; done) | (simp; omega)) ?_) | (refine call_p (r_szTree x.t _) rfl (by (repeat' (first | exact trivial | refine ⟨?_, ?_⟩ | exact rfl | exact Or.inr rfl | exact Or.inl (Nat.le_of_ble_eq_true rfl)))) ?_) | (refine call_p (r_szDoneS x.last _) rfl (by (repeat' (first | exact trivial | refine ⟨?_, ?_⟩ | exact rfl | exact Or.inr rfl | exact Or.inl (Nat.le_of_ble_eq_true rfl)))) ?_) | (refine fin_au rfl ?_; (conv => whnf); ((repeat' (first | exact trivial | refine ⟨?_, ?_⟩ | exact rfl | exact Or.inr rfl | exact Or.inl (Nat.le_of_ble_eq_true rfl))) <;> (try (conv => whnf)) <;> (try (first | refine congrArg C.bool ?_ | refine congrArg (C.int .i64) ?_ | refine congrArg C.str ?_ | refine congrArg (fun l => some (Ob.row _ l)) ?_ | refine congrArg (fun l => some (Ob.dp _ l)) ?_ | refine congrArg (C.sl _) ?_)) <;> (try (rw [wrap_i64 (by omega) (by omega)]; first | rfl | omega)))) | (refine WkF.au ?_; (conv => whnf); ((repeat' (first | exact trivial | refine ⟨?_, ?_⟩ | exact rfl | exact Or.inr rfl | exact Or.inl (Nat.le_of_ble_eq_true rfl))) <;> (try (conv => whnf)) <;> (try (first | refine congrArg C.bool ?_ | refine congrArg (C.int .i64) ?_ | refine congrArg C.str ?_ | refine congrArg (fun l => some (Ob.row _ l)) ?_ | refine congrArg (fun l => some (Ob.dp _ l)) ?_ | refine congrArg (C.sl _) ?_)) <;> (try (rw [wrap_i64 (by omega) (by omega)]; first | rfl | omega)))) | (refine altl ?_) | fail))
  all_goals
    simp only [szMc, szq]
    repeat first | rw [if_pos (by omega)] | rw [if_neg (by omega)]
theorem r_szNode (x : Nd) (left : Int) : Ret Tryz.prog 36 [agL (Nd.cells x), .c (.int .i64 left)] [] (.c (.int .i64 (szNd x left))) [] := by
  refine ret_vc hT hM Tryz.func36 rfl rfl (m := 0) (nx := 0) rfl (Nat.le_of_ble_eq_true rfl) ?_
  (repeat' ((conv => whnf); first | (refine nx ?_; intro s) | (refine rg ?_; intro s k) | ((refine cas (fun h => ?_) (fun h => ?_)) <;> (try simp [-List.getD_eq_getElem?_getD] at h)) | ((refine may (fun h => ?_) ?_) <;> (try simp [-List.getD_eq_getElem?_getD] at h)) | (refine giv fun hg => ?_; (try simp only [byE] at hg)) | (refine need (by kernel_rfl) ?_) | (refine need ⟨by omega, by omega⟩ ?_) | (refine need (by omega) ?_) | (refine need (by first | (simp; done) | (simp; omega)) ?_) | (refine call_p (r_szLog x.log _) rfl (by (repeat' (first | exact trivial | refine ⟨?_, ?_⟩ | exact rfl | exact Or.inr rfl | exact Or.inl (Nat.le_of_ble_eq_true rfl)))) ?_) | (refine call_p (r_szMachine x.snap _) rfl (by (repeat' (first | exact trivial | refine ⟨?_, ?_⟩ | exact rfl | exact Or.inr rfl | exact Or.inl (Nat.le_of_ble_eq_true rfl)))) ?_) | (refine call_p (r_szBoolS x.votes _) rfl (by (repeat' (first | exact trivial | refine ⟨?_, ?_⟩ | exact rfl | exact Or.inr rfl | exact Or.inl (Nat.le_of_ble_eq_true rfl)))) ?_) | (refine call_p (r_szIntS x.next _) rfl (by (repeat' (first | exact trivial | refine ⟨?_, ?_⟩ | exact rfl | exact Or.inr rfl | exact Or.inl (Nat.le_of_ble_eq_true rfl)))) ?_) | (refine call_p (r_szIntS x.mtch _) rfl (by (repeat' (first | exact trivial | refine ⟨?_, ?_⟩ | exact rfl | exact Or.inr rfl | exact Or.inl (Nat.le_of_ble_eq_true rfl)))) ?_) | (refine call_p (r_szMachine x.now _) rfl (by (repeat' (first | exact trivial | refine ⟨?_, ?_⟩ | exact rfl | exact Or.inr rfl | exact Or.inl (Nat.le_of_ble_eq_true rfl)))) ?_) | (refine fin_au rfl ?_; (conv => whnf); ((repeat' (first | exact trivial | refine ⟨?_, ?_⟩ | exact rfl | exact Or.inr rfl | exact Or.inl (Nat.le_of_ble_eq_true rfl))) <;> (try (conv => whnf)) <;> (try (first | refine congrArg C.bool ?_ | refine congrArg (C.int .i64) ?_ | refine congrArg C.str ?_ | refine congrArg (fun l => some (Ob.row _ l)) ?_ | refine congrArg (fun l => some (Ob.dp _ l)) ?_ | refine congrArg (C.sl _) ?_)) <;> (try (rw [wrap_i64 (by omega) (by omega)]; first | rfl | omega)))) | (refine WkF.au ?_; (conv => whnf); ((repeat' (first | exact trivial | refine ⟨?_, ?_⟩ | exact rfl | exact Or.inr rfl | exact Or.inl (Nat.le_of_ble_eq_true rfl))) <;> (try (conv => whnf)) <;> (try (first | refine congrArg C.bool ?_ | refine congrArg (C.int .i64) ?_ | refine congrArg C.str ?_ | refine congrArg (fun l => some (Ob.row _ l)) ?_ | refine congrArg (fun l => some (Ob.dp _ l)) ?_ | refine congrArg (C.sl _) ?_)) <;> (try (rw [wrap_i64 (by omega) (by omega)]; first | rfl | omega)))) | (refine altl ?_) | fail))
  all_goals
    simp only [szNd, szq]
    repeat first | rw [if_pos (by omega)] | rw [if_neg (by omega)]
theorem r_szRpc (x : Rp) (left : Int) : Ret Tryz.prog 92 [agL (Rp.cells x), .c (.int .i64 left)] [] (.c (.int .i64 (szRp x left))) [] := by
  refine ret_vc hT hM Tryz.func92 rfl rfl (m := 0) (nx := 0) rfl (Nat.le_of_ble_eq_true rfl) ?_
  (repeat' ((conv => whnf); first | (refine nx ?_; intro s) | (refine rg ?_; intro s k) | ((refine cas (fun h => ?_) (fun h => ?_)) <;> (try simp [-List.getD_eq_getElem?_getD] at h)) | ((refine may (fun h => ?_) ?_) <;> (try simp [-List.getD_eq_getElem?_getD] at h)) | (refine giv fun hg => ?_; (try simp only [byE] at hg)) | (refine need (by kernel_rfl) ?_) | (refine need ⟨by omega, by omega⟩ ?_) | (refine need (by omega) ?_) | (refine need (by first | (simp; done) | (simp; omega)) ?_) | (refine call_p (r_szEntryS x.entries _) rfl (by (repeat' (first | exact trivial | refine ⟨?_, ?_⟩ | exact rfl | exact Or.inr rfl | exact Or.inl (Nat.le_of_ble_eq_true rfl)))) ?_) | (refine call_p (r_szMachine x.snap _) rfl (by (repeat' (first | exact trivial | refine ⟨?_, ?_⟩ | exact rfl | exact Or.inr rfl | exact Or.inl (Nat.le_of_ble_eq_true rfl)))) ?_) | (refine fin_au rfl ?_; (conv => whnf); ((repeat' (first | exact trivial | refine ⟨?_, ?_⟩ | exact rfl | exact Or.inr rfl | exact Or.inl (Nat.le_of_ble_eq_true rfl))) <;> (try (conv => whnf)) <;> (try (first | refine congrArg C.bool ?_ | refine congrArg (C.int .i64) ?_ | refine congrArg C.str ?_ | refine congrArg (fun l => some (Ob.row _ l)) ?_ | refine congrArg (fun l => some (Ob.dp _ l)) ?_ | refine congrArg (C.sl _) ?_)) <;> (try (rw [wrap_i64 (by omega) (by omega)]; first | rfl | omega)))) | (refine WkF.au ?_; (conv => whnf); ((repeat' (first | exact trivial | refine ⟨?_, ?_⟩ | exact rfl | exact Or.inr rfl | exact Or.inl (Nat.le_of_ble_eq_true rfl))) <;> (try (conv => whnf)) <;> (try (first | refine congrArg C.bool ?_ | refine congrArg (C.int .i64) ?_ | refine congrArg C.str ?_ | refine congrArg (fun l => some (Ob.row _ l)) ?_ | refine congrArg (fun l => some (Ob.dp _ l)) ?_ | refine congrArg (C.sl _) ?_)) <;> (try (rw [wrap_i64 (by omega) (by omega)]; first | rfl | omega)))) | (refine altl ?_) | fail))
  all_goals
    simp only [szRp, szq]
    repeat first | rw [if_pos (by omega)] | rw [if_neg (by omega)]
theorem r_szNodeS (xs : List Nd) (left : Int) : Ret Tryz.prog 88 [.c (.sl .nd xs), .c (.int .i64 left)] [] (.c (.int .i64 (szS szNd xs left))) [] := by
  refine ret_vc hT hM Tryz.func88 rfl rfl (m := 0) (nx := 0) rfl (Nat.le_of_ble_eq_true rfl) ?_
  (repeat ((conv => whnf); first | (refine nx ?_; intro s) | (refine rg ?_; intro s k))); (conv => whnf)
  refine giv fun hl => ?_
  (repeat ((conv => whnf); first | (refine nx ?_; intro s) | (refine rg ?_; intro s k))); (conv => whnf)
  have hw : IntKind.i64.wrap (left - xs.length) < 0 ↔ sz1 xs.length left < 0 := by unfold sz1; split <;> omega
  refine cas (fun h0 => ?_) (fun h0 => ?_)
  · refine ⟨_, rfl, [], [], rfl, trivial, ⟨?_, trivial⟩, trivial, ⟨trivial, trivial⟩, trivial⟩
    show C.int _ _ = C.int _ _
    have h0' : IntKind.i64.wrap (left - xs.length) < 0 := by simpa using h0
    unfold szS
    rw [if_pos (hw.1 h0')]
  · have h0' : ¬ IntKind.i64.wrap (left - xs.length) < 0 := by simpa using h0
    have hs : sz1 xs.length left = IntKind.i64.wrap (left - xs.length) := by unfold sz1; rw [if_neg h0']
    have hres : szS szNd xs left = szG szNd xs (IntKind.i64.wrap (left - xs.length)) := by unfold szS; rw [hs, if_neg h0']
    (repeat ((conv => whnf); first | (refine nx ?_; intro s) | (refine rg ?_; intro s k))); (conv => whnf)
    refine Tri.loop (fun p : Nat × Int => ⟨[(0, .c (.sl .nd xs)), (1, .c (.int .i64 p.2)), (5, .c (.int .i64 p.1))], [], 0⟩) (fun p => p.1 ≤ xs.length ∧ szG szNd (xs.drop p.1) p.2 = szS szNd xs left) (fun p => xs.length - p.1) (0, IntKind.i64.wrap (left - xs.length)) ⟨by simp, by simp [hres]⟩ ?_ ?_
    · exact WkF.ok (l := []) (ρ := []) ⟨rfl, trivial, ⟨rfl, rfl, rfl, trivial⟩, trivial, ⟨trivial, trivial, trivial, trivial⟩, trivial⟩
    · intro ⟨i, l⟩ ⟨hi, hinv⟩
      refine vc_sound hT hM _ _ _ ?_
      (repeat ((conv => whnf); first | (refine nx ?_; intro s) | (refine rg ?_; intro s k))); (conv => whnf)
      refine giv fun _ => ?_
      (repeat ((conv => whnf); first | (refine nx ?_; intro s) | (refine rg ?_; intro s k))); (conv => whnf)
      refine cas (fun h2 => ?_) (fun h2 => ?_)
      · have hlt : i < xs.length := by simp at h2; exact h2
        have hd : xs.drop i = xs.getD i (dflt .nd) :: xs.drop (i + 1) := by
          rw [List.drop_eq_getElem_cons hlt, List.getD_eq_getElem?_getD, List.getElem?_eq_getElem hlt]; rfl
        simp only at hinv hi
        rw [hd] at hinv
        simp only [szG] at hinv
        (repeat ((conv => whnf); first | (refine nx ?_; intro s) | (refine rg ?_; intro s k))); (conv => whnf)
        refine need ⟨by omega, by omega⟩ ?_
        (repeat ((conv => whnf); first | (refine nx ?_; intro s) | (refine rg ?_; intro s k))); (conv => whnf)
        refine giv fun _ => ?_
        (repeat ((conv => whnf); first | (refine nx ?_; intro s) | (refine rg ?_; intro s k))); (conv => whnf)
        refine call_p (r_szNode (xs.getD i (dflt .nd)) l) rfl (by (repeat' (first | exact trivial | refine ⟨?_, ?_⟩ | exact rfl | exact Or.inr rfl | exact Or.inl (Nat.le_of_ble_eq_true rfl)))) ?_
        (repeat ((conv => whnf); first | (refine nx ?_; intro s) | (refine rg ?_; intro s k))); (conv => whnf)
        refine cas (fun h3 => ?_) (fun h3 => ?_)
        · refine ⟨_, rfl, [], [], rfl, trivial, ⟨?_, trivial⟩, trivial, ⟨trivial, trivial⟩, trivial⟩
          show C.int _ _ = C.int _ _
          have h3' : szNd (xs.getD i (dflt .nd)) l < 0 := by simpa using h3
          rw [if_pos h3'] at hinv
          rw [← hinv]
        · have h3' : ¬ szNd (xs.getD i (dflt .nd)) l < 0 := by simpa using h3
          rw [if_neg h3'] at hinv
          (repeat ((conv => whnf); first | (refine nx ?_; intro s) | (refine rg ?_; intro s k))); (conv => whnf)
          refine ⟨(i + 1, szNd (xs.getD i (dflt .nd)) l), ⟨by simp; omega, hinv⟩, by simp; omega, WkF.ok (l := []) (ρ := []) ⟨rfl, trivial, ⟨rfl, rfl, ?_, trivial⟩, trivial, ⟨trivial, trivial, trivial, trivial⟩, trivial⟩⟩
          show C.int _ _ = C.int _ _
          rw [wrap_i64 (by omega) (by simp only [byE] at hl; omega)]
          rfl
      · have hge : xs.length ≤ i := by simp at h2; exact h2
        refine ⟨_, rfl, [], [], rfl, trivial, ⟨?_, trivial⟩, trivial, ⟨trivial, trivial⟩, trivial⟩
        show C.int _ l = C.int _ _
        simp only at hinv
        rw [List.drop_eq_nil_of_le hge] at hinv
        simp only [szG] at hinv
        rw [hinv]
theorem r_szRpcS (xs : List Rp) (left : Int) : Ret Tryz.prog 26 [.c (.sl .rp xs), .c (.int .i64 left)] [] (.c (.int .i64 (szS szRp xs left))) [] := by
  refine ret_vc hT hM Tryz.func26 rfl rfl (m := 0) (nx := 0) rfl (Nat.le_of_ble_eq_true rfl) ?_
  (repeat ((conv => whnf); first | (refine nx ?_; intro s) | (refine rg ?_; intro s k))); (conv => whnf)
  refine giv fun hl => ?_
  (repeat ((conv => whnf); first | (refine nx ?_; intro s) | (refine rg ?_; intro s k))); (conv => whnf)
  have hw : IntKind.i64.wrap (left - xs.length) < 0 ↔ sz1 xs.length left < 0 := by unfold sz1; split <;> omega
  refine cas (fun h0 => ?_) (fun h0 => ?_)
  · refine ⟨_, rfl, [], [], rfl, trivial, ⟨?_, trivial⟩, trivial, ⟨trivial, trivial⟩, trivial⟩
    show C.int _ _ = C.int _ _
    have h0' : IntKind.i64.wrap (left - xs.length) < 0 := by simpa using h0
    unfold szS
    rw [if_pos (hw.1 h0')]
  · have h0' : ¬ IntKind.i64.wrap (left - xs.length) < 0 := by simpa using h0
    have hs : sz1 xs.length left = IntKind.i64.wrap (left - xs.length) := by unfold sz1; rw [if_neg h0']
    have hres : szS szRp xs left = szG szRp xs (IntKind.i64.wrap (left - xs.length)) := by unfold szS; rw [hs, if_neg h0']
    (repeat ((conv => whnf); first | (refine nx ?_; intro s) | (refine rg ?_; intro s k))); (conv => whnf)
    refine Tri.loop (fun p : Nat × Int => ⟨[(0, .c (.sl .rp xs)), (1, .c (.int .i64 p.2)), (5, .c (.int .i64 p.1))], [], 0⟩) (fun p => p.1 ≤ xs.length ∧ szG szRp (xs.drop p.1) p.2 = szS szRp xs left) (fun p => xs.length - p.1) (0, IntKind.i64.wrap (left - xs.length)) ⟨by simp, by simp [hres]⟩ ?_ ?_
    · exact WkF.ok (l := []) (ρ := []) ⟨rfl, trivial, ⟨rfl, rfl, rfl, trivial⟩, trivial, ⟨trivial, trivial, trivial, trivial⟩, trivial⟩
    · intro ⟨i, l⟩ ⟨hi, hinv⟩
      refine vc_sound hT hM _ _ _ ?_
      (repeat ((conv => whnf); first | (refine nx ?_; intro s) | (refine rg ?_; intro s k))); (conv => whnf)
      refine giv fun _ => ?_
      (repeat ((conv => whnf); first | (refine nx ?_; intro s) | (refine rg ?_; intro s k))); (conv => whnf)
      refine cas (fun h2 => ?_) (fun h2 => ?_)
      · have hlt : i < xs.length := by simp at h2; exact h2
        have hd : xs.drop i = xs.getD i (dflt .rp) :: xs.drop (i + 1) := by
          rw [List.drop_eq_getElem_cons hlt, List.getD_eq_getElem?_getD, List.getElem?_eq_getElem hlt]; rfl
        simp only at hinv hi
        rw [hd] at hinv
        simp only [szG] at hinv
        (repeat ((conv => whnf); first | (refine nx ?_; intro s) | (refine rg ?_; intro s k))); (conv => whnf)
        refine need ⟨by omega, by omega⟩ ?_
        (repeat ((conv => whnf); first | (refine nx ?_; intro s) | (refine rg ?_; intro s k))); (conv => whnf)
        refine giv fun _ => ?_
        (repeat ((conv => whnf); first | (refine nx ?_; intro s) | (refine rg ?_; intro s k))); (conv => whnf)
        refine call_p (r_szRpc (xs.getD i (dflt .rp)) l) rfl (by (repeat' (first | exact trivial | refine ⟨?_, ?_⟩ | exact rfl | exact Or.inr rfl | exact Or.inl (Nat.le_of_ble_eq_true rfl)))) ?_
        (repeat ((conv => whnf); first | (refine nx ?_; intro s) | (refine rg ?_; intro s k))); (conv => whnf)
        refine cas (fun h3 => ?_) (fun h3 => ?_)
        · refine ⟨_, rfl, [], [], rfl, trivial, ⟨?_, trivial⟩, trivial, ⟨trivial, trivial⟩, trivial⟩
          show C.int _ _ = C.int _ _
          have h3' : szRp (xs.getD i (dflt .rp)) l < 0 := by simpa using h3
          rw [if_pos h3'] at hinv
          rw [← hinv]
        · have h3' : ¬ szRp (xs.getD i (dflt .rp)) l < 0 := by simpa using h3
          rw [if_neg h3'] at hinv
          (repeat ((conv => whnf); first | (refine nx ?_; intro s) | (refine rg ?_; intro s k))); (conv => whnf)
          refine ⟨(i + 1, szRp (xs.getD i (dflt .rp)) l), ⟨by simp; omega, hinv⟩, by simp; omega, WkF.ok (l := []) (ρ := []) ⟨rfl, trivial, ⟨rfl, rfl, ?_, trivial⟩, trivial, ⟨trivial, trivial, trivial, trivial⟩, trivial⟩⟩
          show C.int _ _ = C.int _ _
          rw [wrap_i64 (by omega) (by simp only [byE] at hl; omega)]
          rfl
      · have hge : xs.length ≤ i := by simp at h2; exact h2
        refine ⟨_, rfl, [], [], rfl, trivial, ⟨?_, trivial⟩, trivial, ⟨trivial, trivial⟩, trivial⟩
        show C.int _ l = C.int _ _
        simp only at hinv
        rw [List.drop_eq_nil_of_le hge] at hinv
        simp only [szG] at hinv
        rw [hinv]
theorem r_szWorld (x : Wd) (left : Int) : Ret Tryz.prog 25 [agL (Wd.cells x), .c (.int .i64 left)] [] (.c (.int .i64 (szWd x left))) [] := by
  refine ret_vc hT hM Tryz.func25 rfl rfl (m := 0) (nx := 0) rfl (Nat.le_of_ble_eq_true rfl) ?_
  (repeat' ((conv => whnf); first | (refine nx ?_; intro s) | (refine rg ?_; intro s k) | ((refine cas (fun h => ?_) (fun h => ?_)) <;> (try simp [-List.getD_eq_getElem?_getD] at h)) | ((refine may (fun h => ?_) ?_) <;> (try simp [-List.getD_eq_getElem?_getD] at h)) | (refine giv fun hg => ?_; (try simp only [byE] at hg)) | (refine need (by kernel_rfl) ?_) | (refine need ⟨by omega, by omega⟩ ?_) | (refine need (by omega) ?_) | (refine need (by first | (simp; done) | (simp; omega)) ?_) | (refine call_p (r_szNodeS x.nodes _) rfl (by (repeat' (first | exact trivial | refine ⟨?_, ?_⟩ | exact rfl | exact Or.inr rfl | exact Or.inl (Nat.le_of_ble_eq_true rfl)))) ?_) | (refine call_p (r_szRpcS x.net _) rfl (by (repeat' (first | exact trivial | refine ⟨?_, ?_⟩ | exact rfl | exact Or.inr rfl | exact Or.inl (Nat.le_of_ble_eq_true rfl)))) ?_) | (refine call_p (r_szCmdS x.chosen _) rfl (by (repeat' (first | exact trivial | refine ⟨?_, ?_⟩ | exact rfl | exact Or.inr rfl | exact Or.inl (Nat.le_of_ble_eq_true rfl)))) ?_) | (refine call_p (r_szDoneS x.acks _) rfl (by (repeat' (first | exact trivial | refine ⟨?_, ?_⟩ | exact rfl | exact Or.inr rfl | exact Or.inl (Nat.le_of_ble_eq_true rfl)))) ?_) | (refine call_p (r_szLeadS x.led _) rfl (by (repeat' (first | exact trivial | refine ⟨?_, ?_⟩ | exact rfl | exact Or.inr rfl | exact Or.inl (Nat.le_of_ble_eq_true rfl)))) ?_) | (refine fin_au rfl ?_; (conv => whnf); ((repeat' (first | exact trivial | refine ⟨?_, ?_⟩ | exact rfl | exact Or.inr rfl | exact Or.inl (Nat.le_of_ble_eq_true rfl))) <;> (try (conv => whnf)) <;> (try (first | refine congrArg C.bool ?_ | refine congrArg (C.int .i64) ?_ | refine congrArg C.str ?_ | refine congrArg (fun l => some (Ob.row _ l)) ?_ | refine congrArg (fun l => some (Ob.dp _ l)) ?_ | refine congrArg (C.sl _) ?_)) <;> (try (rw [wrap_i64 (by omega) (by omega)]; first | rfl | omega)))) | (refine WkF.au ?_; (conv => whnf); ((repeat' (first | exact trivial | refine ⟨?_, ?_⟩ | exact rfl | exact Or.inr rfl | exact Or.inl (Nat.le_of_ble_eq_true rfl))) <;> (try (conv => whnf)) <;> (try (first | refine congrArg C.bool ?_ | refine congrArg (C.int .i64) ?_ | refine congrArg C.str ?_ | refine congrArg (fun l => some (Ob.row _ l)) ?_ | refine congrArg (fun l => some (Ob.dp _ l)) ?_ | refine congrArg (C.sl _) ?_)) <;> (try (rw [wrap_i64 (by omega) (by omega)]; first | rfl | omega)))) | (refine altl ?_) | fail))
  all_goals
    simp only [szWd, szq]
    repeat first | rw [if_pos (by omega)] | rw [if_neg (by omega)]
end Go.Proofs.YthbpdhppelaihaaGreat
