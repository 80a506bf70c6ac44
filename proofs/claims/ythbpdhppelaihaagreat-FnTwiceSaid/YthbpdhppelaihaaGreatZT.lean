/- Joined: S1 S2. -/
import Derived.Test.YthbpdhppelaihaaGreatH5
import Derived.Test.YthbpdhppelaihaaGreatHF
import Derived.Test.YthbpdhppelaihaaGreatN
/- The library's slices functions at the program's types. Conditions: none. -/
set_option linter.unusedVariables false
set_option linter.unusedSimpArgs false
namespace Go.Proofs.YthbpdhppelaihaaGreat
open Go.RowKit
attribute [local irreducible] Tri Weak
set_option maxRecDepth 4000
set_option maxHeartbeats 4000000
theorem ret_giv {P : Program} {f : Nat} {az : List A} {hin : Hp} {r : A} {hout : Hp} (j : Nat) {e : Ty} {xs : List (El e)} (he : Ent P f) (ha : az[j]? = some (.c (.sl e xs))) (h : xs.length * byE e ≤ 140737488355328 → Ret P f az hin r hout) : Ret P f az hin r hout := by
 refine ⟨he, fun F V B w args h1 h2 h3 h4 h5 => ?_⟩
 obtain ⟨u, hu, hr⟩ := h4.get ha
 have hb : xs.length * byE e ≤ 140737488355328 := by
  cases hr with | c hr => cases hr with | sl _ _ _ _ _ _ hb _ _ => exact hb
 exact (h hb).2 F V B w args h1 h2 h3 h4 h5
theorem ret_givR {P : Program} {f : Nat} {az : List A} {hin : Hp} {r : A} {hout : Hp} (j : Nat) {e : Ty} {xs : List (El e)} (he : Ent P f) (ha : get hin j = some (.row e xs)) (h : xs.length * byE e ≤ 140737488355328 → Ret P f az hin r hout) : Ret P f az hin r hout := by
 refine ⟨he, fun F V B w args h1 h2 h3 h4 h5 => ?_⟩
 have hob := h3.ob _ _ ha
 cases hob with | row _ _ _ _ _ hb => exact (h hb).2 F V B w args h1 h2 h3 h4 h5
def catR {α : Type} (xss : List (List α)) (i : Nat) : List α := (xss.take i).flatten
def catN {α : Type} (xss : List (List α)) (i : Nat) : Nat := (catR xss i).length
theorem catR_len {α : Type} (xss : List (List α)) (i : Nat) : (catR xss i).length = catN xss i := rfl
theorem catN_le {α : Type} (xss : List (List α)) (i : Nat) : catN xss i ≤ xss.flatten.length := by
 conv => rhs; rw [← List.take_append_drop i xss, List.flatten_append, List.length_append]
 unfold catN catR
 omega
theorem catR_succ {α : Type} (xss : List (List α)) (i : Nat) (d : List α) (h : i < xss.length) : catR xss (i + 1) = catR xss i ++ xss.getD i d := by
 unfold catR
 rw [List.take_add_one, List.getD_eq_getElem?_getD, List.getElem?_eq_getElem h, List.flatten_append]
 simp
theorem catN_succ {α : Type} (xss : List (List α)) (i : Nat) (d : List α) (h : i < xss.length) : catN xss (i + 1) = catN xss i + (xss.getD i d).length := by
 unfold catN
 rw [catR_succ xss i d h, List.length_append]
theorem catR_all {α : Type} (xss : List (List α)) (i : Nat) (h : xss.length ≤ i) : catR xss i = xss.flatten := by
 unfold catR; rw [List.take_of_length_le h]
end Go.Proofs.YthbpdhppelaihaaGreat
/- slices.Clone, Grow, Concat at the program's types. Conditions: none. By program (gen6.py). -/
namespace Go.Proofs.YthbpdhppelaihaaGreat
open Go.RowKit
attribute [local irreducible] Tri Weak
set_option maxRecDepth 4000
set_option maxHeartbeats 4000000
theorem r_clonePr (xs : List Pr) : Ret Tryz.prog 162 [.c (.sl .pr xs)] [] (.rw 0) [(0, .row .pr xs)] := by
 refine ret_giv 0 ⟨_, Tryz.func162, rfl, rfl⟩ rfl fun hb => ?_
 simp only [byE] at hb
 refine ret_vc hT hM Tryz.func162 rfl rfl (m := 0) (nx := 0) rfl (Nat.le_of_ble_eq_true rfl) ?_
 (repeat' ((conv => whnf); first | (apply nx; intro s) | (apply rg; intro s k) | ((first | refine cas (fun h => ?_) (fun h => ?_) | refine may (fun h => ?_) ?_) <;> (try simp [-List.getD_eq_getElem?_getD] at h)) | (refine giv fun hg => ?_; (try simp only [byE] at hg)) | refine need (by first | kernel_rfl | omega | (simp; done) | (simp; omega)) ?_ | (refine need (by simp [chunk]; omega) ?_) | ((first | refine fin_au rfl ?_ | apply WkF.au); (conv => whnf); ((repeat' first | exact trivial | refine ⟨?_, ?_⟩ | exact rfl | exact oR | exact orB rfl | exact oL) <;> (try conv => whnf) <;> (try first | apply cgB | apply cgI | apply cgS | apply cgR | apply cgD | refine cgL ?_) <;> (try (rw [wrap_i64 (by omega) (by omega)]; first | rfl | omega)))) | apply altl))
 all_goals exact h
theorem r_cloneIn (xs : List Int) : Ret Tryz.prog 163 [.c (.sl .int xs)] [] (.rw 0) [(0, .row .int xs)] := by
 refine ret_giv 0 ⟨_, Tryz.func163, rfl, rfl⟩ rfl fun hb => ?_
 simp only [byE] at hb
 refine ret_vc hT hM Tryz.func163 rfl rfl (m := 0) (nx := 0) rfl (Nat.le_of_ble_eq_true rfl) ?_
 (repeat' ((conv => whnf); first | (apply nx; intro s) | (apply rg; intro s k) | ((first | refine cas (fun h => ?_) (fun h => ?_) | refine may (fun h => ?_) ?_) <;> (try simp [-List.getD_eq_getElem?_getD] at h)) | (refine giv fun hg => ?_; (try simp only [byE] at hg)) | refine need (by first | kernel_rfl | omega | (simp; done) | (simp; omega)) ?_ | (refine need (by simp [chunk]; omega) ?_) | ((first | refine fin_au rfl ?_ | apply WkF.au); (conv => whnf); ((repeat' first | exact trivial | refine ⟨?_, ?_⟩ | exact rfl | exact oR | exact orB rfl | exact oL) <;> (try conv => whnf) <;> (try first | apply cgB | apply cgI | apply cgS | apply cgR | apply cgD | refine cgL ?_) <;> (try (rw [wrap_i64 (by omega) (by omega)]; first | rfl | omega)))) | apply altl))
 all_goals exact h
theorem r_cloneMs (xs : List Ms) : Ret Tryz.prog 164 [.c (.sl .ms xs)] [] (.rw 0) [(0, .row .ms xs)] := by
 refine ret_giv 0 ⟨_, Tryz.func164, rfl, rfl⟩ rfl fun hb => ?_
 simp only [byE] at hb
 refine ret_vc hT hM Tryz.func164 rfl rfl (m := 0) (nx := 0) rfl (Nat.le_of_ble_eq_true rfl) ?_
 (repeat' ((conv => whnf); first | (apply nx; intro s) | (apply rg; intro s k) | ((first | refine cas (fun h => ?_) (fun h => ?_) | refine may (fun h => ?_) ?_) <;> (try simp [-List.getD_eq_getElem?_getD] at h)) | (refine giv fun hg => ?_; (try simp only [byE] at hg)) | refine need (by first | kernel_rfl | omega | (simp; done) | (simp; omega)) ?_ | (refine need (by simp [chunk]; omega) ?_) | ((first | refine fin_au rfl ?_ | apply WkF.au); (conv => whnf); ((repeat' first | exact trivial | refine ⟨?_, ?_⟩ | exact rfl | exact oR | exact orB rfl | exact oL) <;> (try conv => whnf) <;> (try first | apply cgB | apply cgI | apply cgS | apply cgR | apply cgD | refine cgL ?_) <;> (try (rw [wrap_i64 (by omega) (by omega)]; first | rfl | omega)))) | apply altl))
 all_goals exact h
theorem r_cloneTr (xs : List Tr) : Ret Tryz.prog 167 [.c (.sl .tr xs)] [] (.rw 0) [(0, .row .tr xs)] := by
 refine ret_giv 0 ⟨_, Tryz.func167, rfl, rfl⟩ rfl fun hb => ?_
 simp only [byE] at hb
 refine ret_vc hT hM Tryz.func167 rfl rfl (m := 0) (nx := 0) rfl (Nat.le_of_ble_eq_true rfl) ?_
 (repeat' ((conv => whnf); first | (apply nx; intro s) | (apply rg; intro s k) | ((first | refine cas (fun h => ?_) (fun h => ?_) | refine may (fun h => ?_) ?_) <;> (try simp [-List.getD_eq_getElem?_getD] at h)) | (refine giv fun hg => ?_; (try simp only [byE] at hg)) | refine need (by first | kernel_rfl | omega | (simp; done) | (simp; omega)) ?_ | (refine need (by simp [chunk]; omega) ?_) | ((first | refine fin_au rfl ?_ | apply WkF.au); (conv => whnf); ((repeat' first | exact trivial | refine ⟨?_, ?_⟩ | exact rfl | exact oR | exact orB rfl | exact oL) <;> (try conv => whnf) <;> (try first | apply cgB | apply cgI | apply cgS | apply cgR | apply cgD | refine cgL ?_) <;> (try (rw [wrap_i64 (by omega) (by omega)]; first | rfl | omega)))) | apply altl))
 all_goals exact h
theorem r_growMs (m : Int) (h0 : 0 ≤ m) (h1 : m * 24 ≤ 140737488355328) : Ret Tryz.prog 227 [.nl, .c (.int .i64 m)] [] (.rw 0) [(0, .row .ms [])] := by
 refine ret_vc hT hM Tryz.func227 rfl rfl (m := 0) (nx := 0) rfl (Nat.le_of_ble_eq_true rfl) ?_
 (repeat' ((conv => whnf); first | (apply nx; intro s) | (apply rg; intro s k) | ((first | refine cas (fun h => ?_) (fun h => ?_) | refine may (fun h => ?_) ?_) <;> (try simp [-List.getD_eq_getElem?_getD] at h)) | (refine giv fun hg => ?_; (try simp only [byE] at hg)) | refine need (by first | kernel_rfl | omega | (simp; done) | (simp; omega)) ?_ | (refine altr ?_) | (refine cutr ?_) | (refine need (by simp (disch := omega) only [wrap_i64, Int.sub_zero, byE] at *; omega) ?_) | (exfalso; omega) | ((first | refine fin_au rfl ?_ | apply WkF.au); (conv => whnf); ((repeat' first | exact trivial | refine ⟨?_, ?_⟩ | exact rfl | exact oR | exact orB rfl | exact oL) <;> (try conv => whnf) <;> (try first | apply cgB | apply cgI | apply cgS | apply cgR | apply cgD | refine cgL ?_) <;> (try (rw [wrap_i64 (by omega) (by omega)]; first | rfl | omega)))) | apply altl))
theorem r_concatMs (xss : List (List Ms)) (hb : (xss.flatten.length : Int) * 24 ≤ 140737488355328) : Ret Tryz.prog 169 [.c (.sl .lms xss)] [] (.rw 0) [(0, .row .ms xss.flatten)] := by
 refine ret_vc hT hM Tryz.func169 rfl rfl (m := 0) (nx := 0) rfl (Nat.le_of_ble_eq_true rfl) ?_
 (repeat' ((conv => whnf); first | (apply nx; intro s) | (apply rg; intro s k) | ((first | refine cas (fun h => ?_) (fun h => ?_) | refine may (fun h => ?_) ?_) <;> (try simp [-List.getD_eq_getElem?_getD] at h)) | (refine giv fun hg => ?_; (try simp only [byE] at hg)) | refine need (by first | kernel_rfl | omega | (simp; done) | (simp; omega)) ?_ | ((first | refine fin_au rfl ?_ | apply WkF.au); (conv => whnf); ((repeat' first | exact trivial | refine ⟨?_, ?_⟩ | exact rfl | exact oR | exact orB rfl | exact oL) <;> (try conv => whnf) <;> (try first | apply cgB | apply cgI | apply cgS | apply cgR | apply cgD | refine cgL ?_) <;> (try (rw [wrap_i64 (by omega) (by omega)]; first | rfl | omega)))) | apply altl))
 (repeat ((conv => whnf); first | (apply nx; intro s) | (apply rg; intro s k))); (conv => whnf)
 refine Tri.loop (fun i : Nat => ⟨[(0, .c (.sl .lms xss)), (3, .c (.int .i64 (catN xss i))), (9, .c (.sl .lms xss)), (10, .c (.int .i64 xss.length)), (11, .c (.int .i64 i))], [], 0⟩) (fun i => i ≤ xss.length) (fun i => xss.length - i) 0 (Nat.zero_le _) ?_ ?_
 · (apply WkF.au; (conv => whnf); ((repeat' first | exact trivial | refine ⟨?_, ?_⟩ | exact rfl | exact oR | exact orB rfl | exact oL) <;> (try conv => whnf) <;> (try first | apply cgB | apply cgI | apply cgS | apply cgR | apply cgD | refine cgL ?_) <;> (try (rw [wrap_i64 (by omega) (by omega)]; first | rfl | omega))))
 · intro i hi
   have hle := catN_le xss i
   have hle2 := catN_le xss (i + 1)
   have hsu := catN_succ xss i (dflt .lms)
   refine vc_sound hT hM _ _ _ ?_
   (repeat' ((conv => whnf); first | (apply nx; intro s) | (apply rg; intro s k) | ((first | refine cas (fun h => ?_) (fun h => ?_) | refine may (fun h => ?_) ?_) <;> (try simp [-List.getD_eq_getElem?_getD] at h)) | (refine giv fun hg => ?_; (try simp only [byE] at hg)) | refine need (by first | kernel_rfl | omega | (simp; done) | (simp; omega)) ?_ | (refine ⟨(i + 1 : Nat), ?_, ?_, ?_⟩) | (refine call_n (r_growMs _ (by omega) (by omega)) rfl (by (repeat' first | exact trivial | refine ⟨?_, ?_⟩ | exact rfl | exact oR | exact orB rfl | exact oL); (first | done | fail)) (by (repeat' first | exact trivial | refine ⟨?_, ?_⟩ | exact rfl | exact oR | exact orB rfl | exact oL); (first | done | fail)) ?_) | (exfalso; omega) | (apply WkF.au; (conv => whnf); ((repeat' first | exact trivial | refine ⟨?_, ?_⟩ | exact rfl | exact oR | exact orB rfl | exact oL) <;> (try conv => whnf) <;> (try first | apply cgB | apply cgI | apply cgS | apply cgR | apply cgD | refine cgL ?_) <;> (try (rw [wrap_i64 (by omega) (by omega)]; first | rfl | omega)))) | apply altl))
   all_goals first
    | omega
    | (exfalso; have := hsu (by omega); rw [wrap_i64 (by omega) (by omega)] at h; omega)
    | (rw [hsu (by omega), wrap_i64 (by simp only [Int.toNat_natCast]; omega) (by simp only [Int.toNat_natCast]; omega)]; simp only [Int.toNat_natCast]; omega)
    | (rw [wrap_i64 (by omega) (by omega)]; omega)
    | skip
   refine Tri.loop (fun i : Nat => ⟨[(6, .rw 0), (25, .c (.sl .lms xss)), (26, .c (.int .i64 xss.length)), (27, .c (.int .i64 i))], [(0, .row .ms (catR xss i))], 1⟩) (fun i => i ≤ xss.length) (fun i => xss.length - i) 0 (Nat.zero_le _) ?_ ?_
   · (apply WkF.au; (conv => whnf); ((repeat' first | exact trivial | refine ⟨?_, ?_⟩ | exact rfl | exact oR | exact orB rfl | exact oL) <;> (try conv => whnf) <;> (try first | apply cgB | apply cgI | apply cgS | apply cgR | apply cgD | refine cgL ?_) <;> (try (rw [wrap_i64 (by omega) (by omega)]; first | rfl | omega))))
   · intro i hi
     have hle := catN_le xss i
     have hle2 := catN_le xss (i + 1)
     have hsu := catN_succ xss i (dflt .lms)
     have hcl := catR_len xss i
     refine vc_sound hT hM _ _ _ ?_
     (repeat' ((conv => whnf); first | (apply nx; intro s) | (apply rg; intro s k) | ((first | refine cas (fun h => ?_) (fun h => ?_) | refine may (fun h => ?_) ?_) <;> (try simp [-List.getD_eq_getElem?_getD] at h)) | (refine giv fun hg => ?_; (try simp only [byE] at hg)) | refine need (by first | kernel_rfl | omega | (simp; done) | (simp; omega)) ?_ | (refine ⟨(i + 1 : Nat), ?_, ?_, ?_⟩) | (refine need (by have := hsu (by omega); simp only [Int.toNat_natCast, byE]; omega) ?_) | ((first | refine fin_au rfl ?_ | apply WkF.au); (conv => whnf); ((repeat' first | exact trivial | refine ⟨?_, ?_⟩ | exact rfl | exact oR | exact orB rfl | exact oL) <;> (try conv => whnf) <;> (try first | apply cgB | apply cgI | apply cgS | apply cgR | apply cgD | refine cgL ?_) <;> (try (rw [wrap_i64 (by omega) (by omega)]; first | rfl | omega)))) | apply altl))
     all_goals first
      | omega
      | (rw [wrap_i64 (by omega) (by omega)]; omega)
      | exact (catR_succ xss i (dflt .lms) (by omega)).symm
      | exact catR_all xss i (by omega)
theorem r_growTr (m : Int) (h0 : 0 ≤ m) (h1 : m * 104 ≤ 140737488355328) : Ret Tryz.prog 260 [.nl, .c (.int .i64 m)] [] (.rw 0) [(0, .row .tr [])] := by
 refine ret_vc hT hM Tryz.func260 rfl rfl (m := 0) (nx := 0) rfl (Nat.le_of_ble_eq_true rfl) ?_
 (repeat' ((conv => whnf); first | (apply nx; intro s) | (apply rg; intro s k) | ((first | refine cas (fun h => ?_) (fun h => ?_) | refine may (fun h => ?_) ?_) <;> (try simp [-List.getD_eq_getElem?_getD] at h)) | (refine giv fun hg => ?_; (try simp only [byE] at hg)) | refine need (by first | kernel_rfl | omega | (simp; done) | (simp; omega)) ?_ | (refine altr ?_) | (refine cutr ?_) | (refine need (by simp (disch := omega) only [wrap_i64, Int.sub_zero, byE] at *; omega) ?_) | (exfalso; omega) | ((first | refine fin_au rfl ?_ | apply WkF.au); (conv => whnf); ((repeat' first | exact trivial | refine ⟨?_, ?_⟩ | exact rfl | exact oR | exact orB rfl | exact oL) <;> (try conv => whnf) <;> (try first | apply cgB | apply cgI | apply cgS | apply cgR | apply cgD | refine cgL ?_) <;> (try (rw [wrap_i64 (by omega) (by omega)]; first | rfl | omega)))) | apply altl))
theorem r_concatTr (xss : List (List Tr)) (hb : (xss.flatten.length : Int) * 104 ≤ 140737488355328) : Ret Tryz.prog 228 [.c (.sl .ltr xss)] [] (.rw 0) [(0, .row .tr xss.flatten)] := by
 refine ret_vc hT hM Tryz.func228 rfl rfl (m := 0) (nx := 0) rfl (Nat.le_of_ble_eq_true rfl) ?_
 (repeat' ((conv => whnf); first | (apply nx; intro s) | (apply rg; intro s k) | ((first | refine cas (fun h => ?_) (fun h => ?_) | refine may (fun h => ?_) ?_) <;> (try simp [-List.getD_eq_getElem?_getD] at h)) | (refine giv fun hg => ?_; (try simp only [byE] at hg)) | refine need (by first | kernel_rfl | omega | (simp; done) | (simp; omega)) ?_ | ((first | refine fin_au rfl ?_ | apply WkF.au); (conv => whnf); ((repeat' first | exact trivial | refine ⟨?_, ?_⟩ | exact rfl | exact oR | exact orB rfl | exact oL) <;> (try conv => whnf) <;> (try first | apply cgB | apply cgI | apply cgS | apply cgR | apply cgD | refine cgL ?_) <;> (try (rw [wrap_i64 (by omega) (by omega)]; first | rfl | omega)))) | apply altl))
 (repeat ((conv => whnf); first | (apply nx; intro s) | (apply rg; intro s k))); (conv => whnf)
 refine Tri.loop (fun i : Nat => ⟨[(0, .c (.sl .ltr xss)), (3, .c (.int .i64 (catN xss i))), (9, .c (.sl .ltr xss)), (10, .c (.int .i64 xss.length)), (11, .c (.int .i64 i))], [], 0⟩) (fun i => i ≤ xss.length) (fun i => xss.length - i) 0 (Nat.zero_le _) ?_ ?_
 · (apply WkF.au; (conv => whnf); ((repeat' first | exact trivial | refine ⟨?_, ?_⟩ | exact rfl | exact oR | exact orB rfl | exact oL) <;> (try conv => whnf) <;> (try first | apply cgB | apply cgI | apply cgS | apply cgR | apply cgD | refine cgL ?_) <;> (try (rw [wrap_i64 (by omega) (by omega)]; first | rfl | omega))))
 · intro i hi
   have hle := catN_le xss i
   have hle2 := catN_le xss (i + 1)
   have hsu := catN_succ xss i (dflt .ltr)
   refine vc_sound hT hM _ _ _ ?_
   (repeat' ((conv => whnf); first | (apply nx; intro s) | (apply rg; intro s k) | ((first | refine cas (fun h => ?_) (fun h => ?_) | refine may (fun h => ?_) ?_) <;> (try simp [-List.getD_eq_getElem?_getD] at h)) | (refine giv fun hg => ?_; (try simp only [byE] at hg)) | refine need (by first | kernel_rfl | omega | (simp; done) | (simp; omega)) ?_ | (refine ⟨(i + 1 : Nat), ?_, ?_, ?_⟩) | (refine call_n (r_growTr _ (by omega) (by omega)) rfl (by (repeat' first | exact trivial | refine ⟨?_, ?_⟩ | exact rfl | exact oR | exact orB rfl | exact oL); (first | done | fail)) (by (repeat' first | exact trivial | refine ⟨?_, ?_⟩ | exact rfl | exact oR | exact orB rfl | exact oL); (first | done | fail)) ?_) | (exfalso; omega) | (apply WkF.au; (conv => whnf); ((repeat' first | exact trivial | refine ⟨?_, ?_⟩ | exact rfl | exact oR | exact orB rfl | exact oL) <;> (try conv => whnf) <;> (try first | apply cgB | apply cgI | apply cgS | apply cgR | apply cgD | refine cgL ?_) <;> (try (rw [wrap_i64 (by omega) (by omega)]; first | rfl | omega)))) | apply altl))
   all_goals first
    | omega
    | (exfalso; have := hsu (by omega); rw [wrap_i64 (by omega) (by omega)] at h; omega)
    | (rw [hsu (by omega), wrap_i64 (by simp only [Int.toNat_natCast]; omega) (by simp only [Int.toNat_natCast]; omega)]; simp only [Int.toNat_natCast]; omega)
    | (rw [wrap_i64 (by omega) (by omega)]; omega)
    | skip
   refine Tri.loop (fun i : Nat => ⟨[(6, .rw 0), (25, .c (.sl .ltr xss)), (26, .c (.int .i64 xss.length)), (27, .c (.int .i64 i))], [(0, .row .tr (catR xss i))], 1⟩) (fun i => i ≤ xss.length) (fun i => xss.length - i) 0 (Nat.zero_le _) ?_ ?_
   · (apply WkF.au; (conv => whnf); ((repeat' first | exact trivial | refine ⟨?_, ?_⟩ | exact rfl | exact oR | exact orB rfl | exact oL) <;> (try conv => whnf) <;> (try first | apply cgB | apply cgI | apply cgS | apply cgR | apply cgD | refine cgL ?_) <;> (try (rw [wrap_i64 (by omega) (by omega)]; first | rfl | omega))))
   · intro i hi
     have hle := catN_le xss i
     have hle2 := catN_le xss (i + 1)
     have hsu := catN_succ xss i (dflt .ltr)
     have hcl := catR_len xss i
     refine vc_sound hT hM _ _ _ ?_
     (repeat' ((conv => whnf); first | (apply nx; intro s) | (apply rg; intro s k) | ((first | refine cas (fun h => ?_) (fun h => ?_) | refine may (fun h => ?_) ?_) <;> (try simp [-List.getD_eq_getElem?_getD] at h)) | (refine giv fun hg => ?_; (try simp only [byE] at hg)) | refine need (by first | kernel_rfl | omega | (simp; done) | (simp; omega)) ?_ | (refine ⟨(i + 1 : Nat), ?_, ?_, ?_⟩) | (refine need (by have := hsu (by omega); simp only [Int.toNat_natCast, byE]; omega) ?_) | ((first | refine fin_au rfl ?_ | apply WkF.au); (conv => whnf); ((repeat' first | exact trivial | refine ⟨?_, ?_⟩ | exact rfl | exact oR | exact orB rfl | exact oL) <;> (try conv => whnf) <;> (try first | apply cgB | apply cgI | apply cgS | apply cgR | apply cgD | refine cgL ?_) <;> (try (rw [wrap_i64 (by omega) (by omega)]; first | rfl | omega)))) | apply altl))
     all_goals first
      | omega
      | (rw [wrap_i64 (by omega) (by omega)]; omega)
      | exact (catR_succ xss i (dflt .ltr) (by omega)).symm
      | exact catR_all xss i (by omega)
theorem r_growIn (m : Int) (h0 : 0 ≤ m) (h1 : m * 8 ≤ 140737488355328) : Ret Tryz.prog 261 [.nl, .c (.int .i64 m)] [] (.rw 0) [(0, .row .int [])] := by
 refine ret_vc hT hM Tryz.func261 rfl rfl (m := 0) (nx := 0) rfl (Nat.le_of_ble_eq_true rfl) ?_
 (repeat' ((conv => whnf); first | (apply nx; intro s) | (apply rg; intro s k) | ((first | refine cas (fun h => ?_) (fun h => ?_) | refine may (fun h => ?_) ?_) <;> (try simp [-List.getD_eq_getElem?_getD] at h)) | (refine giv fun hg => ?_; (try simp only [byE] at hg)) | refine need (by first | kernel_rfl | omega | (simp; done) | (simp; omega)) ?_ | (refine altr ?_) | (refine cutr ?_) | (refine need (by simp (disch := omega) only [wrap_i64, Int.sub_zero, byE] at *; omega) ?_) | (exfalso; omega) | ((first | refine fin_au rfl ?_ | apply WkF.au); (conv => whnf); ((repeat' first | exact trivial | refine ⟨?_, ?_⟩ | exact rfl | exact oR | exact orB rfl | exact oL) <;> (try conv => whnf) <;> (try first | apply cgB | apply cgI | apply cgS | apply cgR | apply cgD | refine cgL ?_) <;> (try (rw [wrap_i64 (by omega) (by omega)]; first | rfl | omega)))) | apply altl))
theorem r_concatIn (xss : List (List Int)) (hb : (xss.flatten.length : Int) * 8 ≤ 140737488355328) : Ret Tryz.prog 229 [.c (.sl .lint xss)] [] (.rw 0) [(0, .row .int xss.flatten)] := by
 refine ret_vc hT hM Tryz.func229 rfl rfl (m := 0) (nx := 0) rfl (Nat.le_of_ble_eq_true rfl) ?_
 (repeat' ((conv => whnf); first | (apply nx; intro s) | (apply rg; intro s k) | ((first | refine cas (fun h => ?_) (fun h => ?_) | refine may (fun h => ?_) ?_) <;> (try simp [-List.getD_eq_getElem?_getD] at h)) | (refine giv fun hg => ?_; (try simp only [byE] at hg)) | refine need (by first | kernel_rfl | omega | (simp; done) | (simp; omega)) ?_ | ((first | refine fin_au rfl ?_ | apply WkF.au); (conv => whnf); ((repeat' first | exact trivial | refine ⟨?_, ?_⟩ | exact rfl | exact oR | exact orB rfl | exact oL) <;> (try conv => whnf) <;> (try first | apply cgB | apply cgI | apply cgS | apply cgR | apply cgD | refine cgL ?_) <;> (try (rw [wrap_i64 (by omega) (by omega)]; first | rfl | omega)))) | apply altl))
 (repeat ((conv => whnf); first | (apply nx; intro s) | (apply rg; intro s k))); (conv => whnf)
 refine Tri.loop (fun i : Nat => ⟨[(0, .c (.sl .lint xss)), (3, .c (.int .i64 (catN xss i))), (9, .c (.sl .lint xss)), (10, .c (.int .i64 xss.length)), (11, .c (.int .i64 i))], [], 0⟩) (fun i => i ≤ xss.length) (fun i => xss.length - i) 0 (Nat.zero_le _) ?_ ?_
 · (apply WkF.au; (conv => whnf); ((repeat' first | exact trivial | refine ⟨?_, ?_⟩ | exact rfl | exact oR | exact orB rfl | exact oL) <;> (try conv => whnf) <;> (try first | apply cgB | apply cgI | apply cgS | apply cgR | apply cgD | refine cgL ?_) <;> (try (rw [wrap_i64 (by omega) (by omega)]; first | rfl | omega))))
 · intro i hi
   have hle := catN_le xss i
   have hle2 := catN_le xss (i + 1)
   have hsu := catN_succ xss i (dflt .lint)
   refine vc_sound hT hM _ _ _ ?_
   (repeat' ((conv => whnf); first | (apply nx; intro s) | (apply rg; intro s k) | ((first | refine cas (fun h => ?_) (fun h => ?_) | refine may (fun h => ?_) ?_) <;> (try simp [-List.getD_eq_getElem?_getD] at h)) | (refine giv fun hg => ?_; (try simp only [byE] at hg)) | refine need (by first | kernel_rfl | omega | (simp; done) | (simp; omega)) ?_ | (refine ⟨(i + 1 : Nat), ?_, ?_, ?_⟩) | (refine call_n (r_growIn _ (by omega) (by omega)) rfl (by (repeat' first | exact trivial | refine ⟨?_, ?_⟩ | exact rfl | exact oR | exact orB rfl | exact oL); (first | done | fail)) (by (repeat' first | exact trivial | refine ⟨?_, ?_⟩ | exact rfl | exact oR | exact orB rfl | exact oL); (first | done | fail)) ?_) | (exfalso; omega) | (apply WkF.au; (conv => whnf); ((repeat' first | exact trivial | refine ⟨?_, ?_⟩ | exact rfl | exact oR | exact orB rfl | exact oL) <;> (try conv => whnf) <;> (try first | apply cgB | apply cgI | apply cgS | apply cgR | apply cgD | refine cgL ?_) <;> (try (rw [wrap_i64 (by omega) (by omega)]; first | rfl | omega)))) | apply altl))
   all_goals first
    | omega
    | (exfalso; have := hsu (by omega); rw [wrap_i64 (by omega) (by omega)] at h; omega)
    | (rw [hsu (by omega), wrap_i64 (by simp only [Int.toNat_natCast]; omega) (by simp only [Int.toNat_natCast]; omega)]; simp only [Int.toNat_natCast]; omega)
    | (rw [wrap_i64 (by omega) (by omega)]; omega)
    | skip
   refine Tri.loop (fun i : Nat => ⟨[(6, .rw 0), (25, .c (.sl .lint xss)), (26, .c (.int .i64 xss.length)), (27, .c (.int .i64 i))], [(0, .row .int (catR xss i))], 1⟩) (fun i => i ≤ xss.length) (fun i => xss.length - i) 0 (Nat.zero_le _) ?_ ?_
   · (apply WkF.au; (conv => whnf); ((repeat' first | exact trivial | refine ⟨?_, ?_⟩ | exact rfl | exact oR | exact orB rfl | exact oL) <;> (try conv => whnf) <;> (try first | apply cgB | apply cgI | apply cgS | apply cgR | apply cgD | refine cgL ?_) <;> (try (rw [wrap_i64 (by omega) (by omega)]; first | rfl | omega))))
   · intro i hi
     have hle := catN_le xss i
     have hle2 := catN_le xss (i + 1)
     have hsu := catN_succ xss i (dflt .lint)
     have hcl := catR_len xss i
     refine vc_sound hT hM _ _ _ ?_
     (repeat' ((conv => whnf); first | (apply nx; intro s) | (apply rg; intro s k) | ((first | refine cas (fun h => ?_) (fun h => ?_) | refine may (fun h => ?_) ?_) <;> (try simp [-List.getD_eq_getElem?_getD] at h)) | (refine giv fun hg => ?_; (try simp only [byE] at hg)) | refine need (by first | kernel_rfl | omega | (simp; done) | (simp; omega)) ?_ | (refine ⟨(i + 1 : Nat), ?_, ?_, ?_⟩) | (refine need (by have := hsu (by omega); simp only [Int.toNat_natCast, byE]; omega) ?_) | ((first | refine fin_au rfl ?_ | apply WkF.au); (conv => whnf); ((repeat' first | exact trivial | refine ⟨?_, ?_⟩ | exact rfl | exact oR | exact orB rfl | exact oL) <;> (try conv => whnf) <;> (try first | apply cgB | apply cgI | apply cgS | apply cgR | apply cgD | refine cgL ?_) <;> (try (rw [wrap_i64 (by omega) (by omega)]; first | rfl | omega)))) | apply altl))
     all_goals first
      | omega
      | (rw [wrap_i64 (by omega) (by omega)]; omega)
      | exact (catR_succ xss i (dflt .lint) (by omega)).symm
      | exact catR_all xss i (by omega)
end Go.Proofs.YthbpdhppelaihaaGreat