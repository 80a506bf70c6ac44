/- ONE OPERATION: what its condition says holds in every state that agrees where the operation looks. Conditions: none. -/
import Derived.Test.YthbpdhppelaihaaGreatG3
set_option linter.unusedVariables false
set_option linter.unusedSimpArgs false
namespace Go.Proofs.YthbpdhppelaihaaGreat
open Go.RowKit
variable {P : Program} {T : List (Nat × TI)}

theorem pickA_pin {c a b : A} {K : A → Prop} (h : pickA c a b K) : ∃ r, K r ∧ pickA c a b (fun x => x = r) := by
  unfold pickA at h
  split at h
  · exact ⟨_, h, rfl⟩
  · exact ⟨_, h, rfl⟩
  · rename_i t
    cases ha : bOf a with
    | none => simp [ha] at h
    | some p =>
      cases hb : bOf b with
      | none => simp [ha, hb] at h
      | some q =>
        simp only [ha, hb] at h
        exact ⟨_, h, by simp [pickA, ha, hb]⟩
  · exact h.elim
theorem binI_pin {op : BinOp} {k : IntKind} {x y : Int} {K : A → Prop} (h : binI op k x y K) : ∃ r, K r ∧ binI op k x y (fun z => z = r) := by
  cases op <;> simp only [binI] at h <;> first | exact h.elim | exact ⟨_, h, rfl⟩ | exact ⟨_, h.2, h.1, rfl⟩
theorem binS_pin {op : BinOp} {x y : List UInt8} {K : A → Prop} (h : binS op x y K) : ∃ r, K r ∧ binS op x y (fun z => z = r) := by
  cases op <;> simp only [binS] at h <;> first | exact h.elim | exact ⟨_, h, rfl⟩ | exact ⟨_, h.2, h.1, rfl⟩
theorem binA_pin {op : BinOp} {tb : Bool} {a b : A} {K : A → Prop} (h : binA op tb a b K) : ∃ r, K r ∧ binA op tb a b (fun z => z = r) := by
  unfold binA at h
  split at h
  · rename_i k x k' y
    split at h
    · exact ⟨_, h.2, h.1, rfl⟩
    · exact ⟨_, h.2, h.1, rfl⟩
    · rename_i h1 h2
      split at h
      · rename_i hk
        obtain ⟨r, h3, h4⟩ := binI_pin h
        refine ⟨r, h3, ?_⟩
        cases op <;> simp only [binA, hk] <;> first | exact h4 | exact (h1 rfl).elim | exact (h2 rfl).elim
      · exact h.elim
  · exact binS_pin h
  · rename_i h1 h2
    split at h
    · rename_i p q hp hq
      refine ⟨_, h, ?_⟩
      unfold binA
      split
      · rename_i k x k' y; exact (h1 _ _ _ _ rfl rfl).elim
      · rename_i s t; exact (h2 _ _ rfl rfl).elim
      · simp [hp, hq]
    · rename_i p q hp hq
      refine ⟨_, h, ?_⟩
      unfold binA
      split
      · rename_i k x k' y; exact (h1 _ _ _ _ rfl rfl).elim
      · rename_i s t; exact (h2 _ _ rfl rfl).elim
      · simp [hp, hq]
    · exact h.elim
theorem unA_pin {op : UnOp} {a : A} {K : A → Prop} (h : unA op a K) : ∃ r, K r ∧ unA op a (fun z => z = r) := by
  unfold unA at h
  split at h <;> first | exact ⟨_, h, rfl⟩ | exact h.elim
theorem loadA_pin {hh : Nat → Option Ob} {p : A} {n : Nat} {agg : Bool} {K : A → Prop} (h : loadA hh p n agg K) : ∃ r, K r ∧ loadA hh p n agg (fun z => z = r) := by
  unfold loadA at h
  split at h
  · split at h
    · rename_i hg
      split at h
      · rename_i hc; exact ⟨_, h, by simp only [loadA, hg, hc]⟩
      · exact h.elim
    · exact h.elim
  · split at h
    · rename_i hc; exact ⟨_, h, by simp only [loadA, hc]⟩
    · exact h.elim
  · split at h
    · rename_i hg
      split at h
      · rename_i hb
        obtain ⟨h1, h⟩ := h
        split at h
        · rename_i hc; exact ⟨_, h, by simp only [loadA, hg, hb, hc]; exact ⟨h1, trivial⟩⟩
        · exact h.elim
      · exact h.elim
    · rename_i hg
      split at h
      · rename_i hb
        obtain ⟨h1, h⟩ := h
        split at h
        · rename_i hc; exact ⟨_, h, by simp only [loadA, hg, hb, hc]; exact ⟨h1, trivial⟩⟩
        · exact h.elim
      · exact h.elim
    · rename_i hg
      split at h
      · rename_i hb
        obtain ⟨h1, h⟩ := h
        split at h
        · rename_i hc; exact ⟨_, h, by simp only [loadA, hg, hb, hc]; exact ⟨h1, trivial⟩⟩
        · exact h.elim
      · exact h.elim
    · exact h.elim
  · exact h.elim
theorem fieldA_pin {p : A} {off : Nat} {K : A → Prop} (h : fieldA p off K) : ∃ r, K r ∧ fieldA p off (fun z => z = r) := by
  unfold fieldA at h
  split at h <;> first | exact ⟨_, h, rfl⟩ | exact h.elim
theorem indexS_pin {x i : A} {K : A → Prop} (h : indexS x i K) : ∃ r, K r ∧ indexS x i (fun z => z = r) := by
  unfold indexS at h
  split at h <;> first | exact ⟨_, h.2, h.1, rfl⟩ | exact h.elim
theorem fresh_ok {h : Nat → Option Ob} {nx : Nat} {K : Prop} (hf : fresh h nx K) : h nx = none ∧ K := by
  unfold fresh at hf
  split at hf
  · rename_i he; exact ⟨he, hf⟩
  · exact hf.elim
theorem lookAll_congr {h h' : Nat → Option Ob} {ρ : Nat → Nat} : ∀ {l : Hp}, (∀ id ∈ keys (renH ρ l), h id = h' id) → lookAll h' ρ l → lookAll h ρ l
  | [], _, _ => trivial
  | (k, ob) :: l, hh, hl => by
    simp only [lookAll, renH, keys, List.mem_cons] at *
    exact ⟨by rw [hh _ (.inl rfl)]; exact hl.1, lookAll_congr (fun id hid => hh id (.inr hid)) hl.2⟩
theorem newAll_congr {h h' : Nat → Option Ob} {ids : List Nat} {nx : Nat} : ∀ {l : Hp}, (∀ id ∈ keys (renH (renId ids nx) l), h id = h' id) → newAll h' ids.length nx l → newAll h ids.length nx l
  | [], _, _ => trivial
  | (k, ob) :: l, hh, hl => by
    simp only [newAll, renH, keys, List.mem_cons] at *
    refine ⟨?_, newAll_congr (fun id hid => hh id (.inr hid)) hl.2⟩
    rcases Nat.lt_or_ge k ids.length with h1 | h1
    · exact .inl h1
    · rcases hl.1 with h2 | h2
      · exact .inl h2
      · rw [hh _ (.inl (renId_ge h1).symm)]
        exact .inr h2
/-- The states agree where the operation looks. -/
def Agr (σ σ0 : St) (o : Op) (rd : List Nat) (dh : Hp) : Prop := (∀ x ∈ o.operands.toList, ev σ x = ev σ0 x) ∧ ∀ id, id ∈ rd ∨ id ∈ keys dh → get σ.hp id = get σ0.hp id
def Snd (P : Program) (n : Nat) (o : Oper) (σ0 : St) (r : A) (dh : Hp) (rd : List Nat) : Prop := ∀ σ, Agr σ σ0 o.op rd dh → Val P n o σ (σ.upd o.dst r dh)

/-- Those that only yield a value out of their operands. -/
theorem snd_of {n : Nat} {o : Oper} {σ0 : St} {r : A} {rd : List Nat} (h : ∀ σ, (∀ x ∈ o.op.operands.toList, ev σ x = ev σ0 x) → (∀ id ∈ rd, get σ.hp id = get σ0.hp id) → Val P n o σ (σ.upd o.dst r [])) : Snd P n o σ0 r [] rd :=
  fun σ hs => h σ hs.1 (fun id hid => hs.2 id (.inl hid))
theorem pin_eq {n : Nat} {o : Oper} {σ : St} {r : A} (h : ∃ x, x = r ∧ Val P n o σ (σ.upd o.dst x [])) : Val P n o σ (σ.upd o.dst r []) := by
  obtain ⟨x, rfl, h⟩ := h
  exact h
variable (hT : ∀ t i, get T t = some i → TOk P t i)
section
variable {n : Nat} {o : Oper} (hd : ∀ d, o.dst = some d → d < n) {σ0 : St} {K : A → Hp → List Nat → Prop}
include hd
theorem snd_move {x : Operand} (ho : o.op = .move x ∨ o.op = .assign x) (hv : K (ev σ0 x) [] []) : ∃ r dh rd, K r dh rd ∧ Snd P n o σ0 r dh rd :=
  ⟨_, _, _, hv, snd_of fun σ h1 _ => by
    have : ev σ x = ev σ0 x := by rcases ho with ho | ho <;> (rw [ho] at h1; exact h1 x (by simp [Op.operands]))
    have h2 : Val P n o σ (σ.upd o.dst (ev σ x) []) := val_move hd ho
    rw [this] at h2
    exact h2⟩
theorem snd_pick {c x y : Operand} (ho : o.op = .pick c x y) (hv : pickA (ev σ0 c) (ev σ0 x) (ev σ0 y) fun r => K r [] []) : ∃ r dh rd, K r dh rd ∧ Snd P n o σ0 r dh rd := by
  obtain ⟨r, h1, h2⟩ := pickA_pin hv
  refine ⟨_, _, _, h1, snd_of fun σ h3 _ => ?_⟩
  rw [ho] at h3
  simp only [Op.operands, List.mem_cons, List.not_mem_nil, or_false, forall_eq_or_imp, forall_eq] at h3
  exact pin_eq (val_pick hd ho (K := fun x => x = r) (by rw [h3.1, h3.2.1, h3.2.2]; exact h2))
include hT
theorem snd_bin {op : BinOp} {t t' : TypeId} {x y : Operand} (ho : o.op = .binOp op t x y t') (hv : binA op (isBoolT T t) (ev σ0 x) (ev σ0 y) fun r => K r [] []) : ∃ r dh rd, K r dh rd ∧ Snd P n o σ0 r dh rd := by
  obtain ⟨r, h1, h2⟩ := binA_pin hv
  refine ⟨_, _, _, h1, snd_of fun σ h3 _ => ?_⟩
  rw [ho] at h3
  simp only [Op.operands, List.mem_cons, List.not_mem_nil, or_false, forall_eq_or_imp, forall_eq] at h3
  exact pin_eq (val_bin hT hd ho (K := fun x => x = r) (by rw [h3.1, h3.2]; exact h2))
omit hT in
theorem snd_un {op : UnOp} {t : TypeId} {x : Operand} (ho : o.op = .unOp op t x) (hv : unA op (ev σ0 x) fun r => K r [] []) : ∃ r dh rd, K r dh rd ∧ Snd P n o σ0 r dh rd := by
  obtain ⟨r, h1, h2⟩ := unA_pin hv
  refine ⟨_, _, _, h1, snd_of fun σ h3 _ => ?_⟩
  rw [ho] at h3
  simp only [Op.operands, List.mem_cons, List.not_mem_nil, or_false, forall_eq_or_imp, forall_eq] at h3
  exact pin_eq (val_un hd ho (K := fun x => x = r) (by rw [h3]; exact h2))
omit hT in
theorem snd_nil {x : Operand} (ho : o.op = .nilCheck x) (hv : match ev σ0 x with
    | .pt id o => K (.pt id o) [] []
    | .el e y o => K (.el e y o) [] []
    | .re sz id i o => K (.re sz id i o) [] []
    | .fn f l => K (.fn f l) [] []
    | _ => False) : ∃ r dh rd, K r dh rd ∧ Snd P n o σ0 r dh rd := by
  have key : ((∃ id o', ev σ0 x = .pt id o') ∨ (∃ e y o', ev σ0 x = .el e y o') ∨ (∃ s i j o', ev σ0 x = .re s i j o') ∨ ∃ f l, ev σ0 x = .fn f l) ∧ K (ev σ0 x) [] [] := by
    split at hv <;> rename_i hx <;> first | exact hv.elim | (rw [hx]; simp; exact hv)
  refine ⟨_, _, _, key.2, snd_of fun σ h3 _ => ?_⟩
  rw [ho] at h3
  simp only [Op.operands, List.mem_cons, List.not_mem_nil, or_false, forall_eq_or_imp, forall_eq] at h3
  have h4 : Val P n o σ (σ.upd o.dst (ev σ x) []) := val_nil (P := P) hd ho (σ := σ) (by rw [h3]; exact key.1)
  rw [h3] at h4
  exact h4
theorem snd_load {t : TypeId} {p : Operand} {i : TI} (hi : get T t = some i) (ho : o.op = .load t p) (hv : loadA (get σ0.hp) (ev σ0 p) i.sz i.k.agg fun r => K r [] (rdOf (ev σ0 p))) : ∃ r dh rd, K r dh rd ∧ Snd P n o σ0 r dh rd := by
  obtain ⟨r, h1, h2⟩ := loadA_pin hv
  refine ⟨_, _, _, h1, snd_of fun σ h3 h4 => ?_⟩
  rw [ho] at h3
  simp only [Op.operands, List.mem_cons, List.not_mem_nil, or_false, forall_eq_or_imp, forall_eq] at h3
  exact pin_eq (val_load hT hd hi ho (K := fun x => x = r) (h := get σ0.hp) (by rw [h3]; exact h4) (by rw [h3]; exact h2))
theorem snd_fieldAddr {t f off ft : Nat} {x : Operand} {i fi : TI} {fs : List (Nat × Nat)} (hi : get T t = some i) (hk : i.k = .st fs) (hf : fs[f]? = some (off, ft)) (hfi : get T ft = some fi) (hz : Nat.beq fi.sz 0 = false) (ho : o.op = .fieldAddr t x f) (hv : fieldA (ev σ0 x) off fun r => K r [] []) : ∃ r dh rd, K r dh rd ∧ Snd P n o σ0 r dh rd := by
  obtain ⟨r, h1, h2⟩ := fieldA_pin hv
  refine ⟨_, _, _, h1, snd_of fun σ h3 _ => ?_⟩
  rw [ho] at h3
  simp only [Op.operands, List.mem_cons, List.not_mem_nil, or_false, forall_eq_or_imp, forall_eq] at h3
  exact pin_eq (val_fieldAddr hT hd hi hk hf hfi hz ho (K := fun x => x = r) (by rw [h3]; exact h2))
theorem snd_index {t : Nat} {x j : Operand} {i : TI} (hi : get T t = some i) (hk : i.k = .str) (ho : o.op = .index t x j) (hv : indexS (ev σ0 x) (ev σ0 j) fun r => K r [] []) : ∃ r dh rd, K r dh rd ∧ Snd P n o σ0 r dh rd := by
  obtain ⟨r, h1, h2⟩ := indexS_pin hv
  refine ⟨_, _, _, h1, snd_of fun σ h3 _ => ?_⟩
  rw [ho] at h3
  simp only [Op.operands, List.mem_cons, List.not_mem_nil, or_false, forall_eq_or_imp, forall_eq] at h3
  exact pin_eq (val_index hT hd hi hk ho (K := fun x => x = r) (by rw [h3.1, h3.2]; exact h2))
end
end Go.Proofs.YthbpdhppelaihaaGreat
