/- What is planned twice is opened as the second one. Conditions: none. -/
import Derived.Test.YthbpdhppelaihaaGreatBZ
set_option linter.unusedVariables false
set_option linter.unusedSimpArgs false
namespace Go.Proofs.YthbpdhppelaihaaGreat
open Go.RowKit
attribute [local irreducible] Tri Weak
set_option maxRecDepth 4000
set_option maxHeartbeats 4000000
def TX (l : List Wr) : Prop := ∀ w ∈ l, w.text.length ≤ 1000
theorem tx_putP {tk : List Bool} {t : Tr} {r : List Int × PSt} (h : TX r.2.list) : TX (putP tk t r).2.list := by
 have hl : (pageF tk r.2).2.list = r.2.list := by unfold pageF; split <;> rfl
 unfold putP
 dsimp only
 rw [hl]
 intro w hw
 rcases List.mem_append.1 hw with hw | hw
 · exact h w hw
 · rw [List.mem_singleton.1 hw]
   exact Nat.le_trans (putNd_le t r.1) (by omega)
mutual
theorem tx_plT {tk : List Bool} : ∀ (t : Tr) (q : PSt), TX q.list → TX (plT tk t q).2.list
 | ⟨l, ps, cs, kd, bf⟩, q, h => by rw [plT_eq]; exact tx_putP (tx_plL kd q h)
theorem tx_plL {tk : List Bool} : ∀ (ts : List Tr) (q : PSt), TX q.list → TX (plL tk ts q).2.list
 | [], q, h => h
 | t :: ts, q, h => by rw [plL_cons]; exact tx_plL ts _ (tx_plT t q h)
end
theorem tx_plan (ps : List (List UInt8)) (ss : List Su) (t : Tr) : TX (planF ps ss t).1 := by
 unfold planF
 split
 · intro w hw
   rcases List.mem_append.1 hw with hw | hw
   · exact tx_plT t _ (fun w hw => by simp at hw) w hw
   · rw [List.mem_singleton.1 hw]; unfold lastW; simp
 · intro w hw; simp at hw
def Sh (ps : List (List UInt8)) : Prop := ∀ x ∈ ps, x.length ≤ 1000
theorem sh_do : ∀ {l : List Wr} {d : Dk}, TX l → Sh d.1 → Sh (dskF l d).1
 | [], d, _, h => h
 | w :: l, d, hl, h => by
   refine sh_do (l := l) (d := wr1 w d) (fun x hx => hl x (by simp [hx])) fun x hx => ?_
   unfold wr1 at hx
   split at hx
   · rcases mem_set_or hx with rfl | hx
     · exact hl w (by simp)
     · exact h x hx
   · split at hx <;> exact h x hx
theorem sh_short {ps : List (List UInt8)} (h : Sh ps) : Short ps := fun x hx => Nat.le_trans (h x hx) (by omega)
theorem r_lawTwice (b : List UInt8) : Ret Tryz.prog 8 [aL .u8 b] [] (.c (.bool true)) [] := by
 have hbg := r_big b
 by_cases hlen : 1048576 < b.length
 · refine ret_vc hT hM Tryz.func8 rfl rfl (m := 0) (nx := 0) rfl (Nat.le_of_ble_eq_true rfl) ?_
   (repeat' ((conv => whnf); first | (apply nx; intro s) | (apply rg; intro s k) | ((first | refine cas (fun h => ?_) (fun h => ?_) | refine may (fun h => ?_) ?_) <;> (try simp [-List.getD_eq_getElem?_getD] at h)) | (refine giv fun hg => ?_; (try simp only [byE] at hg)) | refine need (by first | kernel_rfl | omega | (simp; done) | (simp; omega)) ?_ | (exfalso; omega) | (refine call_p (hbg) rfl (by (repeat' first | exact trivial | refine ⟨?_, ?_⟩ | exact rfl | exact oR | exact orB rfl | exact oL); (first | done | fail)) ?_) | ((first | refine fin_au rfl ?_ | apply WkF.au); (conv => whnf); ((repeat' first | exact trivial | refine ⟨?_, ?_⟩ | exact rfl | exact oR | exact orB rfl | exact oL) <;> (try conv => whnf) <;> (try first | apply cgB | apply cgI | apply cgS | apply cgR | apply cgD | refine cgL ?_) <;> (try (rw [wrap_i64 (by omega) (by omega)]; first | rfl | omega)))) | apply altl))
 · have hdr := r_DrawPlan b (by omega)
   have hD := drn_draw b
   generalize drawD b = d at *
   generalize drawT b = t at *
   have hDl := hD.len
   have hSh : Sh d.1 := hD.txt
   have hSu : SuOk d.2 := fun s hs => by have := hD.ver s hs; omega
   have hp1 := r_implPlan (sh_short hSh) (show d.1.length ≤ 1099511627776 by omega) hSu t
   have hp2 := r_specPlan (sh_short hSh) (show d.1.length ≤ 1099511627776 by omega) hSu t
   have hbo := plan_both (ps := d.1) (ss := d.2) (t := t) hDl
   have htx := tx_plan d.1 d.2 t
   have hpa := @plan_part d hDl t
   have hpp := @plan_pos d.1 d.2 t
   generalize planF d.1 d.2 t = z1 at *
   generalize planS d.1 d.2 t = z2 at *
   obtain ⟨l1, o1⟩ := z1
   cases o1 with
   | false =>
     cases z2 with
     | some l2 => cases hbo
     | none =>
       simp only [spA', spH'] at hp2
       refine ret_vc hT hM Tryz.func8 rfl rfl (m := 0) (nx := 0) rfl (Nat.le_of_ble_eq_true rfl) ?_
       (repeat' ((conv => whnf); first | (apply nx; intro s) | (apply rg; intro s k) | ((first | refine cas (fun h => ?_) (fun h => ?_) | refine may (fun h => ?_) ?_) <;> (try simp [-List.getD_eq_getElem?_getD] at h)) | (refine giv fun hg => ?_; (try simp only [byE] at hg)) | refine need (by first | kernel_rfl | omega | (simp; done) | (simp; omega)) ?_ | (exfalso; omega) | (refine call_p (hbg) rfl (by (repeat' first | exact trivial | refine ⟨?_, ?_⟩ | exact rfl | exact oR | exact orB rfl | exact oL); (first | done | fail)) ?_) | (refine call_p (hdr) rfl (by (repeat' first | exact trivial | refine ⟨?_, ?_⟩ | exact rfl | exact oR | exact orB rfl | exact oL); (first | done | fail)) ?_) | (refine call_n (hp1) rfl ?_ ?_ ?_; iterate 2 (focus (repeat' first | exact trivial | refine ⟨?_, ?_⟩ | exact rfl | exact oR | exact orB rfl | exact oL); (first | done | fail))) | (refine call_n (hp2) rfl ?_ ?_ ?_; iterate 2 (focus (repeat' first | exact trivial | refine ⟨?_, ?_⟩ | exact rfl | exact oR | exact orB rfl | exact oL); (first | done | fail))) | ((first | refine fin_au rfl ?_ | apply WkF.au); (conv => whnf); ((repeat' first | exact trivial | refine ⟨?_, ?_⟩ | exact rfl | exact oR | exact orB rfl | exact oL) <;> (try conv => whnf) <;> (try first | apply cgB | apply cgI | apply cgS | apply cgR | apply cgD | refine cgL ?_) <;> (try (rw [wrap_i64 (by omega) (by omega)]; first | rfl | omega)))) | apply altl))
   | true =>
     cases z2 with
     | none => cases hbo
     | some l2 =>
       simp only [spA', spH'] at hp2
       obtain ⟨hpos, hokt⟩ := hpp rfl
       have hp1' : Ret Tryz.prog 44 [dkA d.1 d.2, agE .tr t] [] (.tp [.rw 0, .c (.bool true)]) [(0, .row .wr l1)] := hp1
       dsimp only at htx hpa hpos
       have ha1 := r_at b 1 (by omega) (by omega)
       have ha2 := r_at b 2 (by omega) (by omega)
       have hr1 := atF_rng b 1
       have hr2 := atF_rng b 2
       have hmod : ∀ x : Int, 0 ≤ x → 0 ≤ x.tmod l1.length ∧ x.tmod l1.length < l1.length := fun x hx => by
        rw [Int.tmod_eq_emod_of_nonneg hx]
        exact ⟨Int.emod_nonneg _ (by omega), Int.emod_lt_of_pos _ (by omega)⟩
       obtain ⟨hm0, hm1⟩ := hmod (atF b 1) hr1.1
       have hps := hpa rfl (m := ((atF b 1).tmod l1.length).toNat) (by omega)
       have hdo := r_implDo d (l1.take ((atF b 1).tmod l1.length).toNat) (by omega)
       have hel := (dsk_len (l1.take ((atF b 1).tmod l1.length).toNat) d).1
       have hSh2 : Sh (dskF (l1.take ((atF b 1).tmod l1.length).toNat) d).1 := sh_do (fun w hw => htx w (List.mem_of_mem_take hw)) hSh
       generalize hed : dskF (l1.take ((atF b 1).tmod l1.length).toNat) d = e at *
       clear hed
       obtain ⟨eps, ess⟩ := e
       dsimp only at hps hel hSh2 hdo
       subst hps
       have hij := r_implInject t ⟨1, (atF b 2).tmod 30, 7⟩
       have hoku := okT_inj (m := ⟨1, (atF b 2).tmod 30, 7⟩) hokt
       generalize injF t ⟨1, (atF b 2).tmod 30, 7⟩ = u at *
       have hp3 := r_implPlan (sh_short hSh2) (show eps.length ≤ 1099511627776 by omega) hSu u
       have hopn := @plan_open (eps, d.2) (by dsimp only; omega) hD.top u
       have htx2 := tx_plan eps d.2 u
       have hnil := @plan_nil eps d.2 u
       dsimp only at hopn
       generalize planF eps d.2 u = z3 at *
       obtain ⟨l3, o3⟩ := z3
       cases o3 with
       | false =>
         obtain rfl : l3 = [] := hnil rfl
         refine ret_vc hT hM Tryz.func8 rfl rfl (m := 0) (nx := 0) rfl (Nat.le_of_ble_eq_true rfl) ?_
         (repeat' ((conv => whnf); first | (apply nx; intro s) | (apply rg; intro s k) | ((first | refine cas (fun h => ?_) (fun h => ?_) | refine may (fun h => ?_) ?_) <;> (try simp [-List.getD_eq_getElem?_getD] at h)) | (refine giv fun hg => ?_; (try simp only [byE] at hg)) | refine need (by first | kernel_rfl | omega | (simp; done) | (simp; omega)) ?_ | (exfalso; omega) | (refine call_p (hbg) rfl (by (repeat' first | exact trivial | refine ⟨?_, ?_⟩ | exact rfl | exact oR | exact orB rfl | exact oL); (first | done | fail)) ?_) | (refine call_p (hdr) rfl (by (repeat' first | exact trivial | refine ⟨?_, ?_⟩ | exact rfl | exact oR | exact orB rfl | exact oL); (first | done | fail)) ?_) | (refine call_n (hp1') rfl ?_ ?_ ?_; iterate 2 (focus (repeat' first | exact trivial | refine ⟨?_, ?_⟩ | exact rfl | exact oR | exact orB rfl | exact oL); (first | done | fail))) | (refine call_n (hp2) rfl ?_ ?_ ?_; iterate 2 (focus (repeat' first | exact trivial | refine ⟨?_, ?_⟩ | exact rfl | exact oR | exact orB rfl | exact oL); (first | done | fail))) | (refine call_p (ha1) rfl (by (repeat' first | exact trivial | refine ⟨?_, ?_⟩ | exact rfl | exact oR | exact orB rfl | exact oL); (first | done | fail)) ?_) | (refine call_p (ha2) rfl (by (repeat' first | exact trivial | refine ⟨?_, ?_⟩ | exact rfl | exact oR | exact orB rfl | exact oL); (first | done | fail)) ?_) | (refine call_f (hdo) ?_ ?_ ?_ ?_; iterate 3 (focus (repeat' first | exact trivial | refine ⟨?_, ?_⟩ | exact rfl | exact oR | exact orB rfl | exact oL); (first | done | fail))) | (refine call_n (hij) rfl ?_ ?_ ?_; iterate 2 (focus (repeat' first | exact trivial | refine ⟨?_, ?_⟩ | exact rfl | exact oR | exact orB rfl | exact oL); (first | done | fail))) | (refine call_f (hp3) ?_ ?_ ?_ ?_; iterate 3 (focus (repeat' first | exact trivial | refine ⟨?_, ?_⟩ | exact rfl | exact oR | exact orB rfl | exact oL); (first | done | fail))) | (refine need (by omega) ?_) | ((first | refine fin_au rfl ?_ | apply WkF.au); (conv => whnf); ((repeat' first | exact trivial | refine ⟨?_, ?_⟩ | exact rfl | exact oR | exact orB rfl | exact oL) <;> (try conv => whnf) <;> (try first | apply cgB | apply cgI | apply cgS | apply cgR | apply cgD | refine cgL ?_) <;> (try (rw [wrap_i64 (by omega) (by omega)]; first | rfl | omega)))) | apply altl))
       | true =>
         obtain ⟨ho1, ho2⟩ := hopn rfl
         have hp3' : Ret Tryz.prog 44 [dkA eps d.2, agE .tr u] [] (.tp [.rw 0, .c (.bool true)]) [(0, .row .wr l3)] := hp3
         have hdo2 := r_implDo (eps, d.2) l3 (by dsimp only; omega)
         have hSh3 : Sh (dskF l3 (eps, d.2)).1 := sh_do htx2 hSh2
         have hl3 := (dsk_len l3 (eps, d.2)).1
         dsimp only at ho1 ho2 hdo2 hl3
         generalize dskF l3 (eps, d.2) = g at *
         have hop := r_Open g.2 (sh_short hSh3) (show g.1.length ≤ 1099511627776 by omega)
         generalize opF g.1 g.2 = w at *
         obtain ⟨w1, w2, w3⟩ := w
         dsimp only at ho1 ho2 hop
         subst ho1
         subst ho2
         have hst := r_sameTree w1
         refine ret_vc hT hM Tryz.func8 rfl rfl (m := 0) (nx := 0) rfl (Nat.le_of_ble_eq_true rfl) ?_
         (repeat' ((conv => whnf); first | (apply nx; intro s) | (apply rg; intro s k) | ((first | refine cas (fun h => ?_) (fun h => ?_) | refine may (fun h => ?_) ?_) <;> (try simp [-List.getD_eq_getElem?_getD] at h)) | (refine giv fun hg => ?_; (try simp only [byE] at hg)) | refine need (by first | kernel_rfl | omega | (simp; done) | (simp; omega)) ?_ | (exfalso; omega) | (refine call_p (hbg) rfl (by (repeat' first | exact trivial | refine ⟨?_, ?_⟩ | exact rfl | exact oR | exact orB rfl | exact oL); (first | done | fail)) ?_) | (refine call_p (hdr) rfl (by (repeat' first | exact trivial | refine ⟨?_, ?_⟩ | exact rfl | exact oR | exact orB rfl | exact oL); (first | done | fail)) ?_) | (refine call_n (hp1') rfl ?_ ?_ ?_; iterate 2 (focus (repeat' first | exact trivial | refine ⟨?_, ?_⟩ | exact rfl | exact oR | exact orB rfl | exact oL); (first | done | fail))) | (refine call_n (hp2) rfl ?_ ?_ ?_; iterate 2 (focus (repeat' first | exact trivial | refine ⟨?_, ?_⟩ | exact rfl | exact oR | exact orB rfl | exact oL); (first | done | fail))) | (refine call_p (ha1) rfl (by (repeat' first | exact trivial | refine ⟨?_, ?_⟩ | exact rfl | exact oR | exact orB rfl | exact oL); (first | done | fail)) ?_) | (refine call_p (ha2) rfl (by (repeat' first | exact trivial | refine ⟨?_, ?_⟩ | exact rfl | exact oR | exact orB rfl | exact oL); (first | done | fail)) ?_) | (refine call_f (hdo) ?_ ?_ ?_ ?_; iterate 3 (focus (repeat' first | exact trivial | refine ⟨?_, ?_⟩ | exact rfl | exact oR | exact orB rfl | exact oL); (first | done | fail))) | (refine call_n (hij) rfl ?_ ?_ ?_; iterate 2 (focus (repeat' first | exact trivial | refine ⟨?_, ?_⟩ | exact rfl | exact oR | exact orB rfl | exact oL); (first | done | fail))) | (refine call_f (hp3') ?_ ?_ ?_ ?_; iterate 3 (focus (repeat' first | exact trivial | refine ⟨?_, ?_⟩ | exact rfl | exact oR | exact orB rfl | exact oL); (first | done | fail))) | (refine call_f (hdo2) ?_ ?_ ?_ ?_; iterate 3 (focus (repeat' first | exact trivial | refine ⟨?_, ?_⟩ | exact rfl | exact oR | exact orB rfl | exact oL); (first | done | fail))) | (refine call_f (hop) ?_ ?_ ?_ ?_; iterate 3 (focus (repeat' first | exact trivial | refine ⟨?_, ?_⟩ | exact rfl | exact oR | exact orB rfl | exact oL); (first | done | fail))) | (refine call_f (hst) ?_ ?_ ?_ ?_; iterate 3 (focus (repeat' first | exact trivial | refine ⟨?_, ?_⟩ | exact rfl | exact oR | exact orB rfl | exact oL); (first | done | fail))) | (refine need (by omega) ?_) | ((first | refine fin_au rfl ?_ | apply WkF.au); (conv => whnf); ((repeat' first | exact trivial | refine ⟨?_, ?_⟩ | exact rfl | exact oR | exact orB rfl | exact oL) <;> (try conv => whnf) <;> (try first | apply cgB | apply cgI | apply cgS | apply cgR | apply cgD | refine cgL ?_) <;> (try (rw [wrap_i64 (by omega) (by omega)]; first | rfl | omega)))) | apply altl))
end Go.Proofs.YthbpdhppelaihaaGreat