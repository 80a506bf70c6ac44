/- What is drawn: disks. Conditions: none. -/
import Derived.Test.YthbpdhppelaihaaGreatBU
set_option linter.unusedVariables false
set_option linter.unusedSimpArgs false
namespace Go.Proofs.YthbpdhppelaihaaGreat
open Go.RowKit
attribute [local irreducible] Tri Weak
set_option maxRecDepth 4000
set_option maxHeartbeats 4000000
structure DOK (v : Int) (d : Dk) : Prop where
 len : d.1.length = 200 ∧ d.2.length = 2 ∨ d.1.length = 0 ∧ d.2.length = 0
 txt : ∀ x ∈ d.1, x.length ≤ 1000
 ver : ∀ s ∈ d.2, 0 ≤ s.ver ∧ s.ver ≤ v
def WOK (v : Int) (w : Wr) : Prop := w.text.length ≤ 1000 ∧ ((w.at_ = -1 ∨ w.at_ = -2) → 0 ≤ w.sup.ver ∧ w.sup.ver ≤ v)
theorem mem_set_or {α : Type} {l : List α} {i : Nat} {x y : α} (h : y ∈ l.set i x) : y = x ∨ y ∈ l := (List.mem_or_eq_of_mem_set h).symm
theorem dok_wr1 {v : Int} {d : Dk} {w : Wr} (h : DOK v d) (hw : WOK v w) : DOK v (wr1 w d) := by
 obtain ⟨hl1, hl2⟩ := wr1_len w d
 refine ⟨by rw [hl1, hl2]; exact h.len, fun x hx => ?_, fun s hs => ?_⟩
 · unfold wr1 at hx
   split at hx
   · rcases mem_set_or hx with rfl | hx
     · exact hw.1
     · exact h.txt x hx
   · split at hx
     · exact h.txt x hx
     · exact h.txt x hx
 · unfold wr1 at hs
   split at hs
   · exact h.ver s hs
   · split at hs
     · rename_i h2
       rcases mem_set_or hs with rfl | hs
       · exact hw.2 h2.1
       · exact h.ver s hs
     · exact h.ver s hs
theorem dok_do {v : Int} : ∀ {l : List Wr} {d : Dk}, DOK v d → (∀ w ∈ l, WOK v w) → DOK v (dskF l d)
 | [], d, h, _ => h
 | w :: l, d, h, hw => dok_do (l := l) (dok_wr1 h (hw w (by simp))) fun x hx => hw x (by simp [hx])
theorem dok_mono {v v' : Int} {d : Dk} (h : DOK v d) (hv : v ≤ v') : DOK v' d := ⟨h.len, h.txt, fun s hs => by have := h.ver s hs; omega⟩
def PW (w : Wr) : Prop := w.text.length ≤ 200 ∧ 0 ≤ w.at_
theorem spPut_ws {t : Tr} {ks : List Int} {q q2 : SpS} {a : Nat} (h : spPut t ks q = some (a, q2)) (hq : ∀ w ∈ q.2, PW w) : ∀ w ∈ q2.2, PW w := by
 unfold spPut at h
 split at h
 · simp only [Option.some.injEq, Prod.mk.injEq] at h
   obtain ⟨_, rfl⟩ := h
   intro w hw
   rcases List.mem_append.1 hw with hw | hw
   · exact hq w hw
   · rw [List.mem_singleton.1 hw]
     exact ⟨putNd_le t ks, by dsimp only; omega⟩
 · cases h
mutual
theorem spT_ws : ∀ {t : Tr} {q q2 : SpS} {a : Nat}, spT t q = some (a, q2) → (∀ w ∈ q.2, PW w) → ∀ w ∈ q2.2, PW w
 | ⟨l, ps, cs, kd, bf⟩, q, q2, a, h, hq => by
   rw [spT_eq] at h
   cases h1 : spL kd q with
   | none => rw [h1] at h; cases h
   | some r =>
     rw [h1] at h
     simp only [Option.bind_some] at h
     exact spPut_ws h (spL_ws (ts := kd) (ks := r.1) (q2 := r.2) h1 hq)
theorem spL_ws : ∀ {ts : List Tr} {q q2 : SpS} {ks : List Int}, spL ts q = some (ks, q2) → (∀ w ∈ q.2, PW w) → ∀ w ∈ q2.2, PW w
 | [], q, q2, ks, h, hq => by
   simp only [spL, Option.some.injEq, Prod.mk.injEq] at h
   obtain ⟨_, rfl⟩ := h
   exact hq
 | t :: ts, q, q2, ks, h, hq => by
   rw [spL_cons] at h
   cases h1 : spT t q with
   | none => rw [h1] at h; cases h
   | some r =>
     rw [h1] at h
     simp only [Option.bind_some] at h
     cases h2 : spL ts r.2 with
     | none => rw [h2] at h; cases h
     | some x =>
       rw [h2] at h
       simp only [Option.map_some, Option.some.injEq, Prod.mk.injEq] at h
       have h3 := spT_ws (t := t) (a := r.1) (q2 := r.2) h1 hq
       have h4 := spL_ws (ts := ts) (ks := x.1) (q2 := x.2) h2 h3
       rw [← h.2]
       exact h4
end
theorem last_wok {v : Int} {ss : List Su} (h2 : ss.length = 2) (h : ∀ s ∈ ss, 0 ≤ s.ver ∧ s.ver ≤ v) (root : Int) : WOK (v + 1) (lastW ss root) := by
 have h0 := h _ (getD_mem (dflt .su) (show 0 < ss.length by omega))
 have h1 := h _ (getD_mem (dflt .su) (show 1 < ss.length by omega))
 refine ⟨by unfold lastW; simp, fun _ => ?_⟩
 unfold lastW
 dsimp only
 omega
theorem dok_plan {v : Int} {d : Dk} {t : Tr} {l : List Wr} (h : DOK v d) (hp : planS d.1 d.2 t = some l) : DOK (v + 1) (dskF l d) := by
 unfold planS at hp
 split at hp
 · rename_i hc
   cases hz : spT t (takenF d.1 d.2, []) with
   | none => rw [hz] at hp; cases hp
   | some r =>
     rw [hz] at hp
     simp only [Option.map_some, Option.some.injEq] at hp
     subst hp
     refine dok_do (dok_mono h (by omega)) fun w hw => ?_
     rcases List.mem_append.1 hw with hw | hw
     · have h1 := spT_ws (a := r.1) (q2 := r.2) hz (fun w hw => by simp at hw) w hw
       exact ⟨Nat.le_trans h1.1 (by omega), fun h2 => by have := h1.2; omega⟩
     · rw [List.mem_singleton.1 hw]
       exact last_wok hc.2 h.ver _
 · cases hp
theorem dok_short {v : Int} {d : Dk} (h : DOK v d) : Short d.1 := fun x hx => Nat.le_trans (h.txt x hx) (by omega)
theorem dok_len {v : Int} {d : Dk} (h : DOK v d) : d.1.length ≤ 200 := by have := h.len; omega
theorem dok_su {v : Int} {d : Dk} (h : DOK v d) (hv : v ≤ 1000) : SuOk d.2 := fun s hs => by have := h.ver s hs; omega
def d0 : Dk := (List.replicate 200 [], List.replicate 2 ⟨0, 0⟩)
theorem dok_0 : DOK 0 d0 := ⟨.inl ⟨by simp [d0], by simp [d0]⟩, fun x hx => by rw [(List.mem_replicate.1 hx).2]; simp, fun s hs => by rw [(List.mem_replicate.1 hs).2]; exact ⟨Int.le_refl _, Int.le_refl _⟩⟩
theorem dok_e : DOK 0 ([], []) := ⟨.inr ⟨rfl, rfl⟩, fun x hx => by simp at hx, fun s hs => by simp at hs⟩
noncomputable def dnF (t : Tr) : Dk := match planS d0.1 d0.2 t with
 | some l => dskF l d0
 | none => ([], [])
theorem dok_dn (t : Tr) : DOK 1 (dnF t) := by
 unfold dnF
 cases hp : planS d0.1 d0.2 t with
 | none => exact dok_mono dok_e (by omega)
 | some l => exact dok_plan dok_0 hp
theorem r_DiskNew (t : Tr) : Ret Tryz.prog 236 [agE .tr t] [] (.tp [dkR, .c (.bool (planS d0.1 d0.2 t).isSome)]) (dkH (dnF t)) := by
 have hc := r_specPlan (ps := d0.1) (ss := d0.2) (dok_short dok_0) (Nat.le_trans (dok_len dok_0) (by omega)) (dok_su dok_0 (by omega)) t
 unfold dnF
 have hdo := fun l => r_specDo d0 l (Nat.le_trans (dok_len dok_0) (by omega))
 generalize planS d0.1 d0.2 t = z at *
 cases z with
 | none =>
   simp only [spA', spH'] at hc
   refine ret_vc hT hM Tryz.func236 rfl rfl (m := 0) (nx := 0) rfl (Nat.le_of_ble_eq_true rfl) ?_
   (repeat' ((conv => whnf); first | (apply nx; intro s) | (apply rg; intro s k) | ((first | refine cas (fun h => ?_) (fun h => ?_) | refine may (fun h => ?_) ?_) <;> (try simp [-List.getD_eq_getElem?_getD] at h)) | (refine giv fun hg => ?_; (try simp only [byE] at hg)) | refine need (by first | kernel_rfl | omega | (simp; done) | (simp; omega)) ?_ | (refine call_f (hc) ?_ ?_ ?_ ?_; iterate 3 (focus (repeat' first | exact trivial | refine ⟨?_, ?_⟩ | exact rfl | exact oR | exact orB rfl | exact oL); (first | done | fail))) | ((first | refine fin_au rfl ?_ | apply WkF.au); (conv => whnf); ((repeat' first | exact trivial | refine ⟨?_, ?_⟩ | exact rfl | exact oR | exact orB rfl | exact oL) <;> (try conv => whnf) <;> (try first | apply cgB | apply cgI | apply cgS | apply cgR | apply cgD | refine cgL ?_) <;> (try (rw [wrap_i64 (by omega) (by omega)]; first | rfl | omega)))) | apply altl))
 | some l =>
   simp only [spA', spH'] at hc
   have hdo' := hdo l
   refine ret_vc hT hM Tryz.func236 rfl rfl (m := 0) (nx := 0) rfl (Nat.le_of_ble_eq_true rfl) ?_
   (repeat' ((conv => whnf); first | (apply nx; intro s) | (apply rg; intro s k) | ((first | refine cas (fun h => ?_) (fun h => ?_) | refine may (fun h => ?_) ?_) <;> (try simp [-List.getD_eq_getElem?_getD] at h)) | (refine giv fun hg => ?_; (try simp only [byE] at hg)) | refine need (by first | kernel_rfl | omega | (simp; done) | (simp; omega)) ?_ | (refine call_f (hc) ?_ ?_ ?_ ?_; iterate 3 (focus (repeat' first | exact trivial | refine ⟨?_, ?_⟩ | exact rfl | exact oR | exact orB rfl | exact oL); (first | done | fail))) | (refine call_f (hdo') ?_ ?_ ?_ ?_; iterate 3 (focus (repeat' first | exact trivial | refine ⟨?_, ?_⟩ | exact rfl | exact oR | exact orB rfl | exact oL); (first | done | fail))) | ((first | refine fin_au rfl ?_ | apply WkF.au); (conv => whnf); ((repeat' first | exact trivial | refine ⟨?_, ?_⟩ | exact rfl | exact oR | exact orB rfl | exact oL) <;> (try conv => whnf) <;> (try first | apply cgB | apply cgI | apply cgS | apply cgR | apply cgD | refine cgL ?_) <;> (try (rw [wrap_i64 (by omega) (by omega)]; first | rfl | omega)))) | apply altl))
noncomputable def upF (d : Dk) (t : Tr) : Dk := match planS d.1 d.2 t with
 | some l => dskF l d
 | none => d
theorem dok_up {v : Int} {d : Dk} {t : Tr} (h : DOK v d) : DOK (v + 1) (upF d t) := by
 unfold upF
 cases hp : planS d.1 d.2 t with
 | none => exact dok_mono h (by omega)
 | some l => exact dok_plan h hp
noncomputable def ddG (b : List UInt8) : Nat → Nat → Tr × Dk × Cu → Tr × Dk × Cu
 | 0, _, q => q
 | f + 1, i, q => if (i : Int) < (beF b 3 q.2.2).1 then ddG b f (i + 1) (injF q.1 (msF b (beF b 3 q.2.2).2).1, upF q.2.1 (injF q.1 (msF b (beF b 3 q.2.2).2).1), (msF b (beF b 3 q.2.2).2).2) else (q.1, q.2.1, (beF b 3 q.2.2).2)
theorem dok_dd (b : List UInt8) : ∀ (f i : Nat) (q : Tr × Dk × Cu) (v : Int), DOK v q.2.1 → DOK (v + f) (ddG b f i q).2.1
 | 0, i, q, v, h => by unfold ddG; exact dok_mono h (by omega)
 | f + 1, i, q, v, h => by
   unfold ddG
   split
   · exact dok_mono (dok_dd b f (i + 1) _ (v + 1) (dok_up h)) (by omega)
   · exact dok_mono h (by omega)
noncomputable def ddF (b : List UInt8) (p : Cu) : Dk × Cu := (ddG b 3 0 ((rtF b p).1, dnF (rtF b p).1, (rtF b p).2)).2
theorem dok_ddF (b : List UInt8) (p : Cu) : DOK 4 (ddF b p).1 := dok_mono (dok_dd b 3 0 ((rtF b p).1, dnF (rtF b p).1, (rtF b p).2) 1 (dok_dn _)) (by omega)
theorem r_l6DrawRight (b : List UInt8) (hb : b.length ≤ 1099511627776) (p : Cu) : Ret Tryz.prog 196 [.pt 0 0, aL .u8 b] [(0, cuB b p)] (.ag [.rw 1, .rw 2]) [(0, cuB b (ddF b p).2), (1, .row .str (ddF b p).1.1), (2, .row .su (ddF b p).1.2)] := by
 have h1 := r_l2DrawRight b hb p
 unfold ddF
 generalize rtF b p = q at *
 obtain ⟨t, p1⟩ := q
 have h2 := r_DiskNew t
 have hdn := dok_dn t
 dsimp only at h1 ⊢
 generalize dnF t = d at *
 generalize (planS d0.1 d0.2 t).isSome = o at *
 generalize hfin : ddG b 3 0 (t, d, p1) = fin at *
 have hI0 : ddG b (3 - 0) 0 (t, d, p1) = fin := hfin
 clear hfin
 refine ret_vc hT hM Tryz.func196 rfl rfl (m := 1) (nx := 1) rfl (Nat.le_of_ble_eq_true rfl) ?_
 (repeat' ((conv => whnf); first | (apply nx; intro s) | (apply rg; intro s k) | ((first | refine cas (fun h => ?_) (fun h => ?_) | refine may (fun h => ?_) ?_) <;> (try simp [-List.getD_eq_getElem?_getD] at h)) | (refine giv fun hg => ?_; (try simp only [byE] at hg)) | refine need (by first | kernel_rfl | omega | (simp; done) | (simp; omega)) ?_ | (refine call_g [0] (h1) rfl rfl rfl ?_ ?_ ?_ ?_ ?_; iterate 4 (focus (repeat' first | exact trivial | refine ⟨?_, ?_⟩ | exact rfl | exact oR | exact orB rfl | exact oL); (first | done | fail))) | (refine call_f (h2) ?_ ?_ ?_ ?_; iterate 3 (focus (repeat' first | exact trivial | refine ⟨?_, ?_⟩ | exact rfl | exact oR | exact orB rfl | exact oL); (first | done | fail))) | ((first | refine fin_au rfl ?_ | apply WkF.au); (conv => whnf); ((repeat' first | exact trivial | refine ⟨?_, ?_⟩ | exact rfl | exact oR | exact orB rfl | exact oL) <;> (try conv => whnf) <;> (try first | apply cgB | apply cgI | apply cgS | apply cgR | apply cgD | refine cgL ?_) <;> (try (rw [wrap_i64 (by omega) (by omega)]; first | rfl | omega)))) | apply altl))
 (repeat ((conv => whnf); first | (apply nx; intro s) | (apply rg; intro s k))); (conv => whnf)
 refine Tri.loop (fun q : Nat × Tr × Dk × Cu => ⟨[(0, .pt 0 0), (4, .pt 1 0), (5, .pt 2 0), (6, .pt 3 0), (8, aI q.1)], [(0, cuB b q.2.2.2), (1, .box [.nl, .nl]), (2, .box ((cells .tr q.2.1).map .c)), (3, .box [.rw 4, .rw 5]), (4, .row .str q.2.2.1.1), (5, .row .su q.2.2.1.2)], 6⟩) (fun q => q.1 ≤ 2 ∧ ddG b (3 - q.1) q.1 q.2 = fin ∧ DOK (1 + q.1) q.2.2.1) (fun q => 3 - q.1) (0, t, d, p1) ⟨by omega, hI0, dok_mono hdn (by omega)⟩ ?_ ?_
 · (apply WkF.au; (conv => whnf); ((repeat' first | exact trivial | refine ⟨?_, ?_⟩ | exact rfl | exact oR | exact orB rfl | exact oL) <;> (try conv => whnf) <;> (try first | apply cgB | apply cgI | apply cgS | apply cgR | apply cgD | refine cgL ?_) <;> (try (rw [wrap_i64 (by omega) (by omega)]; first | rfl | omega))))
 · intro ⟨i, t, d, p⟩ ⟨h3, h4, h5⟩
   dsimp only at h3 h4 h5
   clear h1 h2 hdn hI0
   refine vc_sound hT hM _ _ _ ?_
   try dsimp only
   rw [show 3 - i = (2 - i) + 1 by omega] at h4
   unfold ddG at h4
   dsimp only at h4
   have hs := r_l1Below b 3 (by omega) p
   have hsr := beF_rng b (n := 3) (by omega) p
   generalize beF b 3 p = s0 at *
   obtain ⟨s1, p1⟩ := s0
   dsimp only at h4 hs hsr
   by_cases hi : (i : Int) < s1
   · rw [if_pos hi] at h4
     have hm := r_l1DrawMsg b p1
     generalize msF b p1 = m at *
     obtain ⟨m1, p2⟩ := m
     dsimp only at h4 hm
     have him := r_specInjectR t m1
     generalize injF t m1 = t2 at *
     have hpl := r_specPlan (ps := d.1) (ss := d.2) (dok_short h5) (Nat.le_trans (dok_len h5) (by omega)) (dok_su h5 (by omega)) t2
     have hdo := fun l => r_specDo d l (Nat.le_trans (dok_len h5) (by omega))
     have h5' := dok_up (t := t2) h5
     unfold upF at h4 h5'
     generalize planS d.1 d.2 t2 = z at *
     rw [show 2 - i = 3 - (i + 1) by omega] at h4
     cases z with
     | none =>
       simp only [spA', spH'] at hpl
       dsimp only at h4 h5'
       (repeat' ((conv => whnf); first | (apply nx; intro s) | (apply rg; intro s k) | ((first | refine cas (fun h => ?_) (fun h => ?_) | refine may (fun h => ?_) ?_) <;> (try simp [-List.getD_eq_getElem?_getD] at h)) | (refine giv fun hg => ?_; (try simp only [byE] at hg)) | refine need (by first | kernel_rfl | omega | (simp; done) | (simp; omega)) ?_ | (exfalso; omega) | (refine call_g [0] (hs) rfl rfl rfl ?_ ?_ ?_ ?_ ?_; iterate 4 (focus (repeat' first | exact trivial | refine ⟨?_, ?_⟩ | exact rfl | exact oR | exact orB rfl | exact oL); (first | done | fail))) | (refine call_g [0] (hm) rfl rfl rfl ?_ ?_ ?_ ?_ ?_; iterate 4 (focus (repeat' first | exact trivial | refine ⟨?_, ?_⟩ | exact rfl | exact oR | exact orB rfl | exact oL); (first | done | fail))) | (refine call_f (him) ?_ ?_ ?_ ?_; iterate 3 (focus (repeat' first | exact trivial | refine ⟨?_, ?_⟩ | exact rfl | exact oR | exact orB rfl | exact oL); (first | done | fail))) | (refine call_b (hpl) ?_ ?_ ?_ ?_ ?_ ?_; iterate 5 (focus (repeat' first | exact trivial | refine ⟨?_, ?_⟩ | exact rfl | exact oR | exact orB rfl | exact oL); (first | done | fail))) | (refine ⟨(i + 1, t2, d, p2), ⟨by dsimp only; omega, h4, dok_mono h5' (by dsimp only; omega)⟩, by dsimp only; omega, ?_⟩) | ((first | refine fin_au rfl ?_ | apply WkF.au); (conv => whnf); ((repeat' first | exact trivial | refine ⟨?_, ?_⟩ | exact rfl | exact oR | exact orB rfl | exact oL) <;> (try conv => whnf) <;> (try first | apply cgB | apply cgI | apply cgS | apply cgR | apply cgD | refine cgL ?_) <;> (try (rw [wrap_i64 (by omega) (by omega)]; first | rfl | omega)))) | apply altl))
     | some l =>
       have hdo' := hdo l
       simp only [spA', spH'] at hpl
       dsimp only at h4 h5'
       generalize dskF l d = d2 at *
       (repeat' ((conv => whnf); first | (apply nx; intro s) | (apply rg; intro s k) | ((first | refine cas (fun h => ?_) (fun h => ?_) | refine may (fun h => ?_) ?_) <;> (try simp [-List.getD_eq_getElem?_getD] at h)) | (refine giv fun hg => ?_; (try simp only [byE] at hg)) | refine need (by first | kernel_rfl | omega | (simp; done) | (simp; omega)) ?_ | (exfalso; omega) | (refine call_g [0] (hs) rfl rfl rfl ?_ ?_ ?_ ?_ ?_; iterate 4 (focus (repeat' first | exact trivial | refine ⟨?_, ?_⟩ | exact rfl | exact oR | exact orB rfl | exact oL); (first | done | fail))) | (refine call_g [0] (hm) rfl rfl rfl ?_ ?_ ?_ ?_ ?_; iterate 4 (focus (repeat' first | exact trivial | refine ⟨?_, ?_⟩ | exact rfl | exact oR | exact orB rfl | exact oL); (first | done | fail))) | (refine call_f (him) ?_ ?_ ?_ ?_; iterate 3 (focus (repeat' first | exact trivial | refine ⟨?_, ?_⟩ | exact rfl | exact oR | exact orB rfl | exact oL); (first | done | fail))) | (refine call_b (hpl) ?_ ?_ ?_ ?_ ?_ ?_; iterate 5 (focus (repeat' first | exact trivial | refine ⟨?_, ?_⟩ | exact rfl | exact oR | exact orB rfl | exact oL); (first | done | fail))) | (refine call_b (hdo') ?_ ?_ ?_ ?_ ?_ ?_; iterate 5 (focus (repeat' first | exact trivial | refine ⟨?_, ?_⟩ | exact rfl | exact oR | exact orB rfl | exact oL); (first | done | fail))) | (refine ⟨(i + 1, t2, d2, p2), ⟨by dsimp only; omega, h4, dok_mono h5' (by dsimp only; omega)⟩, by dsimp only; omega, ?_⟩) | ((first | refine fin_au rfl ?_ | apply WkF.au); (conv => whnf); ((repeat' first | exact trivial | refine ⟨?_, ?_⟩ | exact rfl | exact oR | exact orB rfl | exact oL) <;> (try conv => whnf) <;> (try first | apply cgB | apply cgI | apply cgS | apply cgR | apply cgD | refine cgL ?_) <;> (try (rw [wrap_i64 (by omega) (by omega)]; first | rfl | omega)))) | apply altl))
   · rw [if_neg hi] at h4
     subst h4
     (repeat' ((conv => whnf); first | (apply nx; intro s) | (apply rg; intro s k) | ((first | refine cas (fun h => ?_) (fun h => ?_) | refine may (fun h => ?_) ?_) <;> (try simp [-List.getD_eq_getElem?_getD] at h)) | (refine giv fun hg => ?_; (try simp only [byE] at hg)) | refine need (by first | kernel_rfl | omega | (simp; done) | (simp; omega)) ?_ | (exfalso; omega) | (refine call_g [0] (hs) rfl rfl rfl ?_ ?_ ?_ ?_ ?_; iterate 4 (focus (repeat' first | exact trivial | refine ⟨?_, ?_⟩ | exact rfl | exact oR | exact orB rfl | exact oL); (first | done | fail))) | ((first | refine fin_au rfl ?_ | apply WkF.au); (conv => whnf); ((repeat' first | exact trivial | refine ⟨?_, ?_⟩ | exact rfl | exact oR | exact orB rfl | exact oL) <;> (try conv => whnf) <;> (try first | apply cgB | apply cgI | apply cgS | apply cgR | apply cgD | refine cgL ?_) <;> (try (rw [wrap_i64 (by omega) (by omega)]; first | rfl | omega)))) | apply altl))
end Go.Proofs.YthbpdhppelaihaaGreat