/- What it means that a value reads as a datum in a world; the readings outlive whatever turns other blocks. Conditions: none. -/
import Derived.Test.YthbpdhppelaihaaGreatD
import Derived.WalkKit
import Derived.Maps.AppendAt
set_option linter.unusedVariables false
namespace Go.Proofs.YthbpdhppelaihaaGreat
open Go.RowKit
def CellsAt (w : World) (a : Addr) (us : List Value) : Prop := ∀ j u, us[j]? = some u → w.cell? (a.add j) = some u
mutual
inductive RepC (F : Nat → Prop) (w : World) : Value → C → Prop
 | int (k : IntKind) (n : Int) : RepC F w (.int k n) (.int k n)
 | bool (b : Bool) : RepC F w (.bool b) (.bool b)
 | str (s : ByteArray) (hs : s.size ≤ 9223372036854775807) : RepC F w (.string s) (.str s.data.toList)
 | sl (e : Ty) (xs : List (El e)) (A : Option Addr) (c : Nat) (us : List Value) (hc : xs.length ≤ c) (hb : xs.length * byE e ≤ 140737488355328)
    (hA : 0 < xs.length → ∃ ad, A = some ad ∧ F ad.block ∧ CellsAt w ad us)
    (hr : RepL F w us (xs.flatMap (cells e))) : RepC F w (.slice A xs.length c) (.sl e xs)
inductive RepL (F : Nat → Prop) (w : World) : List Value → List C → Prop
 | nil : RepL F w [] []
 | cons {u : Value} {us : List Value} {c : C} {cs : List C} (h : RepC F w u c) (t : RepL F w us cs) : RepL F w (u :: us) (c :: cs)
end
theorem CellsAt.move {F : Nat → Prop} {w w' : World} (hm : ∀ b, F b → w'.heap[b]? = w.heap[b]?) {a : Addr} {us : List Value} (ha : F a.block) (h : CellsAt w a us) : CellsAt w' a us := by
 intro j u hj
 have hb : (a.add j).block = a.block := by unfold Addr.add; split <;> rfl
 rw [World.cell?_of_block (w := w) (by rw [hb]; exact hm _ ha)]
 exact h j u hj
theorem addr_block (a : Addr) (n : Nat) : (a.add n).block = a.block := by unfold Addr.add; split <;> rfl
theorem addr_add (a : Addr) (n m : Nat) : (a.add n).add m = a.add (n + m) := by
 unfold Addr.add
 by_cases h1 : n = 0 <;> by_cases h2 : m = 0 <;> simp [h1, h2, Nat.add_assoc]
theorem RepL.length {F : Nat → Prop} {w : World} : ∀ {us : List Value} {cs : List C}, RepL F w us cs → us.length = cs.length
 | [], _, h => by cases h; rfl
 | _ :: us, _, h => by cases h with | cons _ t => simp [RepL.length t]
theorem RepL.append {F : Nat → Prop} {w : World} : ∀ {us : List Value} {cs : List C}, RepL F w us cs → ∀ {us' : List Value} {cs' : List C}, RepL F w us' cs' → RepL F w (us ++ us') (cs ++ cs')
 | [], _, h, _, _, h' => by cases h; exact h'
 | _ :: _, _, h, _, _, h' => by cases h with | cons h t => exact .cons h (RepL.append t h')
theorem RepL.take {F : Nat → Prop} {w : World} : ∀ {us : List Value} {cs : List C}, RepL F w us cs → ∀ n, RepL F w (us.take n) (cs.take n)
 | [], _, h, n => by cases h; simpa using RepL.nil
 | _ :: _, _, h, n => by
   cases h with
   | cons h t => cases n with
     | zero => exact .nil
     | succ n => exact .cons h (RepL.take t n)
theorem RepL.drop {F : Nat → Prop} {w : World} : ∀ {us : List Value} {cs : List C}, RepL F w us cs → ∀ n, RepL F w (us.drop n) (cs.drop n)
 | [], _, h, n => by cases h; simpa using RepL.nil
 | _ :: _, _, h, n => by
   cases n with
   | zero => exact h
   | succ n => cases h with | cons h t => exact RepL.drop t n
mutual
theorem RepC.move {F F' : Nat → Prop} {w w' : World} (hF : ∀ b, F b → F' b) (hm : ∀ b, F b → w'.heap[b]? = w.heap[b]?) : ∀ {v : Value} {c : C}, RepC F w v c → RepC F' w' v c
 | _, _, .int k n => .int k n
 | _, _, .bool b => .bool b
 | _, _, .str s hs => .str s hs
 | _, _, .sl e xs A c us hc hb hA hr => .sl e xs A c us hc hb (fun hp => by
    obtain ⟨ad, h1, h2, h3⟩ := hA hp
    exact ⟨ad, h1, hF _ h2, h3.move hm h2⟩) (RepL.move hF hm hr)
theorem RepL.move {F F' : Nat → Prop} {w w' : World} (hF : ∀ b, F b → F' b) (hm : ∀ b, F b → w'.heap[b]? = w.heap[b]?) : ∀ {us : List Value} {cs : List C}, RepL F w us cs → RepL F' w' us cs
 | _, _, .nil => .nil
 | _, _, .cons h t => .cons (RepC.move hF hm h) (RepL.move hF hm t)
end
theorem RepC.one {F : Nat → Prop} {w : World} {v : Value} {c : C} (h : RepC F w v c) : v.oneCell' = true := by cases h <;> rfl
theorem RepL.one {F : Nat → Prop} {w : World} : ∀ {us : List Value} {cs : List C}, RepL F w us cs → ∀ u ∈ us, u.oneCell' = true
 | _, _, .nil, u, hu => by simp at hu
 | _, _, .cons h t, u, hu => by
   rcases List.mem_cons.1 hu with rfl | hu
   · exact h.one
   · exact RepL.one t u hu
end Go.Proofs.YthbpdhppelaihaaGreat