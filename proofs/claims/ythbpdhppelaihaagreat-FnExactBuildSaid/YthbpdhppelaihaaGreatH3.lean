/- THE TYPES' TABLE, checked by a Bool. Conditions: none. -/
import Derived.Test.YthbpdhppelaihaaGreatH2
import Derived.KernelRfl
set_option linter.unusedVariables false
set_option linter.unusedSimpArgs false
namespace Go.Proofs.YthbpdhppelaihaaGreat
open Go.RowKit
variable {P : Program}

def zChk : List Value → List A → Bool
  | [], [] => true
  | v :: us, a :: l => (match v, a with
    | .int k n, .c (.int k' n') => eqK k k' && decide (n = n')
    | .bool b, .kb b' => (b == b')
    | .string s, .c (.str []) => match s.data.toList with | [] => true | _ => false
    | .slice none 0 0, .nl => true
    | v, .un => v.oneCell'
    | _, _ => false) && zChk us l
  | _, _ => false
def nnEq : List (Nat × Nat) → List (Nat × Nat) → Bool
  | [], [] => true
  | (a, b) :: l, (c, d) :: l' => Nat.beq a c && Nat.beq b d && nnEq l l'
  | _, _ => false
def TK.chk (u : Option TypeDesc) : TK → Bool
  | .int k => match u with | some (.int k') => eqK k k' | _ => false
  | .bool => match u with | some .bool => true | _ => false
  | .str => match u with | some .string => true | _ => false
  | .ptr => match u with | some (.pointer _) => true | _ => false
  | .fn => match u with | some (.func _ _ _) => true | _ => false
  | .sl _ et => match u with | some (.slice e) => Nat.beq e et | _ => false
  | .st fs => match u with | some (.struct fields) => nnEq (fields.toList.map fun f => (f.offset, f.type)) fs | _ => false
def chkT (P : Program) (t : Nat) (i : TI) : Bool :=
  i.k.chk (P.underlying t) && (match P.info? t with
    | some y => Nat.beq y.size i.sz && Nat.beq y.bytes i.by_ && (match y.zero with
      | some z => zChk z.cells.toList i.z && Nat.beq z.cells.size i.sz
      | none => false)
    | none => false)
def chkAll (P : Program) : List (Nat × TI) → Bool
  | [] => true
  | (t, i) :: l => chkT P t i && chkAll P l
theorem nnEq_eq : ∀ {l l' : List (Nat × Nat)}, nnEq l l' = true → l = l'
  | [], [], _ => rfl
  | [], _ :: _, h => by simp [nnEq] at h
  | _ :: _, [], h => by simp [nnEq] at h
  | (a, b) :: l, (c, d) :: l', h => by
    simp only [nnEq, Bool.and_eq_true] at h
    obtain ⟨⟨h1, h2⟩, h3⟩ := h
    rw [Nat.eq_of_beq_eq_true h1, Nat.eq_of_beq_eq_true h2, nnEq_eq h3]
theorem zChk_ok : ∀ {us : List Value} {l : List A}, zChk us l = true → ZOk us l
  | [], [], _ => .nil
  | [], _ :: _, h => by simp [zChk] at h
  | _ :: _, [], h => by simp [zChk] at h
  | v :: us, a :: l, h => by
    simp only [zChk, Bool.and_eq_true] at h
    obtain ⟨h1, h2⟩ := h
    have ih := zChk_ok h2
    split at h1
    · simp only [Bool.and_eq_true, decide_eq_true_eq] at h1
      obtain ⟨hk, rfl⟩ := h1
      obtain rfl := eqK_eq hk
      exact .int _ _ ih
    · have := eq_of_beq h1; subst this; exact .bool _ ih
    · rename_i s
      split at h1
      · rename_i he
        obtain ⟨⟨d⟩⟩ := s
        simp only at he
        subst he
        exact .str ih
      · cases h1
    · exact .nl ih
    · exact .oth _ h1 ih
    · cases h1
theorem TK.chk_ok {t : Nat} {k : TK} (h : k.chk (P.underlying t) = true) : k.desc P t := by
  cases k <;> simp only [TK.chk] at h <;> split at h <;> try (cases h; done)
  · rename_i hu; obtain rfl := eqK_eq h; exact hu
  · rename_i hu; exact hu
  · rename_i hu; exact hu
  · rename_i hu; exact ⟨_, hu⟩
  · rename_i hu; exact ⟨_, _, _, hu⟩
  · rename_i hu; simp only [TK.desc]; rw [hu, Nat.eq_of_beq_eq_true h]
  · rename_i hu; exact ⟨_, hu, nnEq_eq h⟩
theorem chkT_ok {t : Nat} {i : TI} (h : chkT P t i = true) : TOk P t i := by
  simp only [chkT, Bool.and_eq_true] at h
  obtain ⟨h1, h2⟩ := h
  refine ⟨TK.chk_ok h1, ?_⟩
  split at h2
  · rename_i y hy
    simp only [Bool.and_eq_true] at h2
    obtain ⟨⟨h3, h4⟩, h5⟩ := h2
    split at h5
    · rename_i z hz
      simp only [Bool.and_eq_true] at h5
      exact ⟨y, z, hy, Nat.eq_of_beq_eq_true h3, Nat.eq_of_beq_eq_true h4, hz, zChk_ok h5.1, Nat.eq_of_beq_eq_true h5.2⟩
    · cases h5
  · cases h2
theorem chkAll_ok : ∀ {T : List (Nat × TI)}, chkAll P T = true → ∀ t i, get T t = some i → TOk P t i
  | [], _, t, i, h => by simp [get] at h
  | (t', i') :: l, hc, t, i, h => by
    simp only [chkAll, Bool.and_eq_true] at hc
    rw [get_cons] at h
    split at h
    · rename_i e; subst e; cases h; exact chkT_ok hc.1
    · exact chkAll_ok hc.2 t i h
theorem nx {σ : St} {K : St → Prop} (h : let s := σ; K s) : Nx σ K := ⟨h⟩
theorem rg {σ : St} {K : St → Prop} {f : St → (St → Prop) → Prop} (h : let s := σ; let k := K; f s k) : Rg σ K f := ⟨h⟩
theorem need {p K : Prop} (h : p) (k : K) : Need p K := ⟨h, k⟩
theorem giv {p K : Prop} (k : p → K) : Giv p K := ⟨k⟩
theorem may {t : Bool} {x y : Prop} (h : t = true → x) (k : y) : Maybe t x y := ⟨h, k⟩
theorem cutl {p q : Prop} (h : p) : AltC p q := .l h
theorem cutr {p q : Prop} (h : q) : AltC p q := .r h
theorem altl {p q : Prop} (h : p) : Alt p q := .l h
theorem altr {p q : Prop} (h : q) : Alt p q := .r h
theorem cas {t : Bool} {x y : Prop} (h : t = true → x) (k : t = false → y) : Case t x y := ⟨h, k⟩
end Go.Proofs.YthbpdhppelaihaaGreat
