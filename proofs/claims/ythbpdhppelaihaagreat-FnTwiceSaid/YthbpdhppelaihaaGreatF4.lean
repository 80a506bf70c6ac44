/- What one operation comes to on the abstract states: a condition, which is computed. Conditions: none. -/
import Derived.Test.YthbpdhppelaihaaGreatF3
set_option linter.unusedVariables false
namespace Go.Proofs.YthbpdhppelaihaaGreat
open Go.RowKit
structure Need (p K : Prop) : Prop where
 l : p
 r : K
structure Giv (p K : Prop) : Prop where
 h : p → K
structure Case (t : Bool) (x y : Prop) : Prop where
 l : t = true → x
 r : t = false → y
structure Maybe (t : Bool) (x y : Prop) : Prop where
 l : t = true → x
 r : y
inductive Alt (p q : Prop) : Prop where
 | l (h : p)
 | r (h : q)
inductive AltC (p q : Prop) : Prop where
 | l (h : p)
 | r (h : q)
def ofConst : Value → A
 | .int k n => .c (.int k n)
 | .bool b => .kb b
 | .string s => match Nat.ble s.size 9223372036854775807 with | true => .c (.str s.data.toList) | false => .un
 | .slice none 0 0 => .nl
 | _ => .un
def ev (σ : St) : Operand → A
 | .tmp t => σ.tmp t
 | .const v => ofConst v
 | .global _ => .un
 | .func f => .fn f []
def bOf : A → Option Bool
 | .kb b => some b
 | .c (.bool b) => some b
 | _ => none
def isRow (h : Nat → Option Ob) : A → Option ((e : Ty) × List (El e))
 | .c (.sl e xs) => some ⟨e, xs⟩
 | .rw id => match h id with
   | some (.row e xs) => some ⟨e, xs⟩
   | some (.fz e xs) => some ⟨e, xs⟩
   | _ => none
 | _ => none
def rdOf : A → List Nat
 | .rw id => [id]
 | .pt id _ => [id]
 | .re _ id _ _ => [id]
 | _ => []
def eqK : IntKind → IntKind → Bool
 | .i8, .i8 | .i16, .i16 | .i32, .i32 | .i64, .i64 | .u8, .u8 | .u16, .u16 | .u32, .u32 | .u64, .u64 => true
 | _, _ => false
def binI (op : BinOp) (k : IntKind) (a b : Int) (K : A → Prop) : Prop :=
 match op with
 | .add => K (.c (.int k (k.wrap (a + b))))
 | .sub => K (.c (.int k (k.wrap (a - b))))
 | .mul => K (.c (.int k (k.wrap (a * b))))
 | .quo => Need (b ≠ 0) (K (.c (.int k (k.wrap (a.tdiv b)))))
 | .rem => Need (b ≠ 0) (K (.c (.int k (a.tmod b))))
 | .eql => K (.c (.bool (decide (a = b))))
 | .neq => K (.c (.bool (!decide (a = b))))
 | .lss => K (.c (.bool (decide (a < b))))
 | .leq => K (.c (.bool (decide (a ≤ b))))
 | .gtr => K (.c (.bool (decide (b < a))))
 | .geq => K (.c (.bool (decide (b ≤ a))))
 | .and => K (.c (.int k (k.wrap (BitVec.ofInt k.bits a &&& BitVec.ofInt k.bits b).toNat)))
 | .or => K (.c (.int k (k.wrap (BitVec.ofInt k.bits a ||| BitVec.ofInt k.bits b).toNat)))
 | .xor => K (.c (.int k (k.wrap (BitVec.ofInt k.bits a ^^^ BitVec.ofInt k.bits b).toNat)))
 | _ => False
def binS (op : BinOp) (s t : List UInt8) (K : A → Prop) : Prop :=
 match op with
 | .add => Need (s.length + t.length ≤ 9223372036854775807) (K (.c (.str (s ++ t))))
 | .eql => K (.c (.bool (decide (s = t))))
 | .neq => K (.c (.bool (!decide (s = t))))
 | _ => False
def binA (op : BinOp) (tb : Bool) (a b : A) (K : A → Prop) : Prop :=
 match a, b with
 | .c (.int k x), .c (.int k' y) => match op with
   | .shl => Need (0 ≤ y) (K (.c (.int k (k.wrap (x * 2 ^ (min y.toNat k.bits))))))
   | .shr => Need (0 ≤ y) (K (.c (.int k (x.fdiv (2 ^ (min y.toNat k.bits))))))
   | _ => match eqK k k' with
     | true => binI op k x y K
     | false => False
 | .c (.str s), .c (.str t) => binS op s t K
 | a, b => match tb, bOf a, bOf b, op with
   | true, some p, some q, .eql => K (.c (.bool (p == q)))
   | true, some p, some q, .neq => K (.c (.bool (!(p == q))))
   | _, _, _, _ => False
def isBoolT (T : List (Nat × TI)) (t : Nat) : Bool := match get T t with
 | some i => match i.k with
   | .bool => true
   | _ => false
 | none => false
def unA (op : UnOp) (a : A) (K : A → Prop) : Prop :=
 match op, a with
 | .neg, .c (.int k x) => K (.c (.int k (k.wrap (0 - x))))
 | .not, .kb b => K (.kb (!b))
 | .not, .c (.bool b) => K (.c (.bool (!b)))
 | _, _ => False
def pickA (c a b : A) (K : A → Prop) : Prop :=
 match c with
 | .kb true => K a
 | .kb false => K b
 | .c (.bool t) => match bOf a, bOf b with
   | some p, some q => K (.c (.bool (if t then p else q)))
   | _, _ => False
 | _ => False
def cellsOf (l : List A) (o n : Nat) (agg : Bool) : Option A :=
 match agg with
 | true => match Nat.ble (o + n) l.length with
   | true => some (.ag ((l.drop o).take n))
   | false => none
 | false => l[o]?
def csOf (l : List C) (o n : Nat) (agg : Bool) : Option A :=
 match agg with
 | true => match Nat.ble (o + n) l.length with
   | true => some (.ag (((l.drop o).take n).map .c))
   | false => none
 | false => match l[o]? with
   | some c => some (.c c)
   | none => none
def unC : C → A
 | .sl _ _ => .un
 | .int k n => .c (.int k n)
 | .bool b => .c (.bool b)
 | .str s => .c (.str s)
def unL : List C → List A
 | [] => []
 | c :: l => unC c :: unL l
def loadA (h : Nat → Option Ob) (p : A) (n : Nat) (agg : Bool) (K : A → Prop) : Prop :=
 match p with
 | .pt id o => match h id with
   | some (.box cs) => match cellsOf cs o n agg with
     | some a => K a
     | none => False
   | _ => False
 | .el e x o => match csOf (cells e x) o n agg with
   | some a => K a
   | none => False
 | .re sz id i o => match h id with
   | some (.row e xs) => match Nat.beq sz (szE e) with
     | true => Need (i < xs.length) (match csOf (cells e (xs.getD i (dflt e))) o n agg with
       | some a => K a
       | none => False)
     | false => False
   | some (.dp e xs) => match Nat.beq sz (szE e) with
     | true => Need (i < xs.length) (match cellsOf (unL (cells e (xs.getD i (dflt e)))) o n agg with
       | some a => K a
       | none => False)
     | false => False
   | some (.fo e pre cs post) => match Nat.beq sz (szE e) with
     | true => Need (i = pre.length) (match cellsOf cs o n agg with
       | some a => K a
       | none => False)
     | false => False
   | _ => False
 | _ => False
def toC (h : Nat → Option Ob) (d : C) : A → Option C
 | .c c => some c
 | .kb b => some (.bool b)
 | .nl => match d with
   | .sl e [] => some (.sl e [])
   | _ => none
 | .rw id => match h id with
   | some (.row e xs) => some (.sl e xs)
   | some (.fz e xs) => some (.sl e xs)
   | some (.dp e xs) => some (.sl e xs)
   | _ => none
 | _ => none
def toCs (h : Nat → Option Ob) : List C → List A → Option (List C)
 | [], [] => some []
 | d :: ds, a :: l => match toC h d a, toCs h ds l with
   | some c, some cs => some (c :: cs)
   | _, _ => none
 | _, _ => none
def frz (h : Nat → Option Ob) : List A → Hp
 | [] => []
 | .rw id :: l => match h id with
   | some (.row e xs) => (id, .fz e xs) :: frz h l
   | some (.dp e xs) => (id, .fz e xs) :: frz h l
   | _ => frz h l
 | _ :: l => frz h l
def idsL : List A → List Nat
 | [] => []
 | .rw id :: l => id :: idsL l
 | _ :: l => idsL l
def keys : Hp → List Nat
 | [] => []
 | (k, _) :: l => k :: keys l
def fresh (h : Nat → Option Ob) (nx : Nat) (K : Prop) : Prop :=
 match h nx with
 | none => K
 | some _ => False
def memN : Nat → List Nat → Bool
 | _, [] => false
 | n, k :: l => match Nat.beq n k with
   | true => true
   | false => memN n l
def nodupN : List Nat → Bool
 | [] => true
 | n :: l => match memN n l with
   | true => false
   | false => nodupN l
def flat : Ty → Bool
 | .tr | .nd | .rp | .lint | .lms | .ltr => false
 | _ => true
def okD (h : Nat → Option Ob) : A → Bool
 | .c (.sl _ _) => false
 | .c _ => true
 | .kb _ => true
 | .nl => true
 | .rw id => match h id with
   | some (.dp _ _) => true
   | some (.row e xs) => match flat e, xs with
     | true, _ => true
     | false, [] => true
     | _, _ => false
   | _ => false
 | _ => false
def okDs (h : Nat → Option Ob) : List A → Bool
 | [] => true
 | a :: l => match okD h a with
   | true => okDs h l
   | false => false
def hasD (h : Nat → Option Ob) : List A → Bool
 | [] => false
 | .rw id :: l => match h id with
   | some (.dp _ _) => true
   | _ => hasD h l
 | _ :: l => hasD h l
def kill : List Nat → Hp
 | [] => []
 | id :: l => (id, .gone) :: kill l
def storeA (h : Nat → Option Ob) (p v : A) (n : Nat) (K : Hp → List Nat → Prop) : Prop :=
 match cellsA v with
 | some l => match Nat.beq l.length n with
   | true => match p with
     | .pt id o => match h id with
       | some (.box cs) => match Nat.ble (o + n) cs.length with
         | true => K [(id, .box (spl cs o l))] []
         | false => False
       | _ => False
     | .re sz id i o => match h id with
       | some (.row e xs) => match Nat.beq sz (szE e), Nat.ble (o + n) (szE e), (get (frz h l) id).isNone with
         | true, true, true => match toCs h (((cells e (dflt e)).drop o).take n) l with
           | some cs => Need (i < xs.length) (Need (cells e (mkE e (spl (cells e (xs.getD i (dflt e))) o cs)) = spl (cells e (xs.getD i (dflt e))) o cs) (K ((id, .row e (xs.set i (mkE e (spl (cells e (xs.getD i (dflt e))) o cs)))) :: frz h l) (idsL l)))
           | none => False
         | _, _, _ => False
       | some (.dp e xs) => match Nat.beq sz (szE e), Nat.ble (o + n) (szE e), okDs h l, nodupN (id :: idsL l) with
         | true, true, true, true => match toCs h (((cells e (dflt e)).drop o).take n) l with
           | some cs => Need (i < xs.length) (Need (cells e (mkE e (spl (cells e (xs.getD i (dflt e))) o cs)) = spl (cells e (xs.getD i (dflt e))) o cs) (K ((id, .dp e (xs.set i (mkE e (spl (cells e (xs.getD i (dflt e))) o cs)))) :: kill (idsL l)) (idsL l)))
           | none => False
         | _, _, _, _ => False
       | some (.fo e pre cs post) => match Nat.beq sz (szE e), Nat.ble (o + n) (szE e) with
         | true, true => Need (i = pre.length) (K [(id, .fo e pre (spl cs o l) post)] [])
         | _, _ => False
       | _ => False
     | _ => False
   | false => False
 | none => False
def fieldA (p : A) (off : Nat) (K : A → Prop) : Prop :=
 match p with
 | .pt id o => K (.pt id (o + off))
 | .el e x o => K (.el e x (o + off))
 | .re sz id i o => K (.re sz id i (o + off))
 | _ => False
def indexE (e : Ty) (xs : List (El e)) (n : Int) (sz : Nat) (K : A → Prop) : Prop :=
 match Nat.beq (szE e) sz with
 | true => Need (0 ≤ n ∧ n < xs.length) (Giv (xs.length * byE e ≤ 140737488355328) (K (.el e (xs.getD n.toNat (dflt e)) 0)))
 | false => False
def indexA (h : Nat → Option Ob) (x i : A) (sz : Nat) (K : A → Prop) : Prop :=
 match i with
 | .c (.int k n) => match x with
   | .c (.sl e xs) => indexE e xs n sz K
   | .rw id => match h id with
     | some (.row e xs) => match Nat.beq (szE e) sz with
       | true => Need (0 ≤ n ∧ n < xs.length) (Giv (xs.length * byE e ≤ 140737488355328) (K (.re (szE e) id n.toNat 0)))
       | false => False
     | some (.dp e xs) => match Nat.beq (szE e) sz with
       | true => Need (0 ≤ n ∧ n < xs.length) (Giv (xs.length * byE e ≤ 140737488355328) (K (.re (szE e) id n.toNat 0)))
       | false => False
     | some (.fo e pre cs post) => match Nat.beq (szE e) sz with
       | true => Need (n = pre.length) (K (.re (szE e) id pre.length 0))
       | false => False
     | some (.fz e xs) => indexE e xs n sz K
     | _ => False
   | _ => False
 | _ => False
def indexS (x i : A) (K : A → Prop) : Prop :=
 match x, i with
 | .c (.str s), .c (.int k n) => Need (0 ≤ n ∧ n < s.length) (K (.c (.int .u8 ((s.getD n.toNat 0).toNat : Int))))
 | _, _ => False
def isRowD (h : Nat → Option Ob) : A → Option ((e : Ty) × List (El e))
 | .c (.sl e xs) => some ⟨e, xs⟩
 | .rw id => match h id with
   | some (.row e xs) => some ⟨e, xs⟩
   | some (.fz e xs) => some ⟨e, xs⟩
   | some (.dp e xs) => some ⟨e, xs⟩
   | some (.fo e pre _ post) => some ⟨e, pre ++ dflt e :: post⟩
   | _ => none
 | _ => none
def isVw (h : Nat → Option Ob) : A → Option (Nat × Nat × Nat × Nat × Nat)
 | .rw id => match h id with
   | some (.vw sz b off n) => some (id, sz, b, off, n)
   | _ => none
 | _ => none
def lenA (h : Nat → Option Ob) (x : A) (K : A → Prop) : Prop :=
 match x with
 | .nl => K (.c (.int .i64 0))
 | x => match isRowD h x with
   | some ⟨e, xs⟩ => Giv (xs.length * byE e ≤ 140737488355328) (K (.c (.int .i64 xs.length)))
   | none => match isVw h x with
     | some (_, _, _, _, n) => K (.c (.int .i64 n))
     | none => False
def lenS (x : A) (K : A → Prop) : Prop :=
 match x with
 | .c (.str s) => Giv (s.length ≤ 9223372036854775807) (K (.c (.int .i64 s.length)))
 | _ => False
def chunk (e : Ty) : Nat → List C → List (El e)
 | 0, _ => []
 | n + 1, cs => mkE e (cs.take (szE e)) :: chunk e n (cs.drop (szE e))
def rep {α : Type} : Nat → List α → List α
 | 0, _ => []
 | n + 1, l => l ++ rep n l
def litA (h : Nat → Option Ob) (e : Ty) (z : List A) (n : Nat) (parts : List (Nat × A)) (nx : Nat) (K : A → Hp → List Nat → Prop) : Prop :=
 match Nat.ble (n * szE e) 16777216, fillA (fun i => some (i * szE e, szE e)) (rep n z) parts with
 | true, some l => match toCs h (rep n (cells e (dflt e))) l with
   | some cs => match hasD h l with
     | false => Need ((chunk e n cs).flatMap (cells e) = cs) (fresh h nx (K (.rw nx) ((nx, .row e (chunk e n cs)) :: frz h l) (idsL l)))
     | true => match okDs h l, nodupN (idsL l) with
       | true, true => Need ((chunk e n cs).flatMap (cells e) = cs) (fresh h nx (K (.rw nx) ((nx, .dp e (chunk e n cs)) :: kill (idsL l)) (idsL l)))
       | _, _ => False
   | none => False
 | _, _ => False
def castTy : (e e' : Ty) → List (El e') → Option (List (El e))
 | .int, .int, l => some l
 | .bool, .bool, l => some l
 | .u8, .u8, l => some l
 | .str, .str, l => some l
 | .pr, .pr, l => some l
 | .ms, .ms, l => some l
 | .tr, .tr, l => some l
 | .cm, .cm, l => some l
 | .dn, .dn, l => some l
 | .en, .en, l => some l
 | .nd, .nd, l => some l
 | .rp, .rp, l => some l
 | .ld, .ld, l => some l
 | .su, .su, l => some l
 | .wr, .wr, l => some l
 | .lint, .lint, l => some l
 | .lms, .lms, l => some l
 | .ltr, .ltr, l => some l
 | _, _, _ => none
def appD (h : Nat → Option Ob) (e : Ty) (s : A) (idx : Nat) (zs : List (El e)) (nx : Nat) (K : A → Hp → List Nat → Prop) : Prop :=
 match s with
 | .nl => fresh h nx (K (.rw nx) ((nx, .dp e zs) :: kill [idx]) [])
 | .rw id => match h id, Nat.beq id idx with
   | some (.dp e1 ws), false => match castTy e e1 ws with
     | some xs => Need ((xs.length + zs.length) * byE e ≤ 140737488355328) (fresh h nx (K (.rw nx) ((nx, .dp e (xs ++ zs)) :: kill [id, idx]) []))
     | none => False
   | some (.row e1 []), false => match castTy e e1 [] with
     | some _ => fresh h nx (K (.rw nx) ((nx, .dp e zs) :: kill [id, idx]) [])
     | none => False
   | _, _ => False
 | _ => False
def isDp (h : Nat → Option Ob) : A → Option (Nat × ((e : Ty) × List (El e)))
 | .rw id => match h id with
   | some (.dp e xs) => some (id, ⟨e, xs⟩)
   | _ => none
 | _ => none
def appV (h : Nat → Option Ob) (e : Ty) (s x : A) (nx : Nat) (K : A → Hp → List Nat → Prop) : Prop :=
 match isVw h s, isVw h x with
 | some (i, z, b, o, n), some (j, z', b', o', n') => match Nat.beq b b', Nat.beq z (szE e), Nat.beq z' (szE e), h b with
   | true, true, true, some (.row e1 ws) => match castTy e e1 ws with
     | some xs => Need (o = 0 ∧ n + n' ≤ xs.length ∧ o' + n' ≤ xs.length ∧ 0 < xs.length) (fresh h nx (K (.rw nx) [(b, .row e (xs.take n ++ ((xs.drop o').take n' ++ xs.drop (n + n')))), (nx, .vw (szE e) b 0 (n + n'))] [i, j, b]))
     | none => False
   | _, _, _, _ => False
 | _, _ => False
def appZ (h : Nat → Option Ob) (e : Ty) (s x : A) (nx : Nat) (K : A → Hp → List Nat → Prop) : Prop :=
 match s, x with
 | .nl, .c (.int .i64 n) => Need (0 < n ∧ n * byE e ≤ 140737488355328) (fresh h nx (K (.rw nx) [(nx, .row e (List.replicate n.toNat (dflt e)))] []))
 | _, _ => False
def clearA (h : Nat → Option Ob) (e : Ty) (x : A) (K : A → Hp → List Nat → Prop) : Prop :=
 match isVw h x with
 | some (i, z, b, o, n) => match Nat.beq z (szE e), h b with
   | true, some (.row e1 ws) => match castTy e e1 ws with
     | some xs => Need (o + n ≤ xs.length) (K (.tp []) [(b, .row e (xs.take o ++ (List.replicate n (dflt e) ++ xs.drop (o + n))))] [i, b])
     | none => False
   | _, _ => False
 | none => False
def appA (h : Nat → Option Ob) (e : Ty) (s x : A) (nx : Nat) (K : A → Hp → List Nat → Prop) : Prop :=
 match isDp h x with
 | some (idx, ⟨e', ys⟩) => match castTy e e' ys with
   | some zs => appD h e s idx zs nx K
   | none => False
 | none => match (match x with
   | .nl => some ⟨e, []⟩
   | x => isRow h x : Option ((e : Ty) × List (El e))) with
 | some ⟨e', ys⟩ => match s with
   | .nl => match castTy e e' ys with
     | some zs => fresh h nx (K (.rw nx) [(nx, .row e zs)] (rdOf x))
     | none => False
   | .rw id => match h id with
     | some (.row e1 ws) => match castTy e e1 ws, castTy e e' ys with
       | some xs, some zs => Need ((xs.length + zs.length) * byE e ≤ 140737488355328) (fresh h nx (K (.rw nx) [(id, .gone), (nx, .row e (xs ++ zs))] (rdOf x)))
       | _, _ => False
     | _ => False
   | _ => False
 | none => appV h e s x nx K
def makeA (h : Nat → Option Ob) (e : Ty) (n m : A) (nx : Nat) (K : A → Hp → Prop) : Prop :=
 match n, m with
 | .c (.int .i64 n), .c (.int .i64 m) => Need (n = m) (Need (0 ≤ n ∧ n * byE e ≤ 140737488355328) (fresh h nx (match flat e with
   | true => K (.rw nx) [(nx, .row e (List.replicate n.toNat (dflt e)))]
   | false => K (.rw nx) [(nx, .dp e (List.replicate n.toNat (dflt e)))])))
 | _, _ => False
def iOf (d : Int) : Option A → Option Int
 | none => some d
 | some (.c (.int _ n)) => some n
 | _ => none
def sliceR (h : Nat → Option Ob) (sz : Nat) (x : A) (lo hi mx : Option A) (K : A → Hp → Prop) : Prop :=
 match mx, isRow h x with
 | none, some ⟨e, xs⟩ => match Nat.beq sz (szE e), iOf 0 lo, iOf xs.length hi with
   | true, some l, some r => Need (0 ≤ l ∧ l ≤ r ∧ r ≤ xs.length) (K (.c (.sl e ((xs.take r.toNat).drop l.toNat))) (frz h [x]))
   | _, _, _ => False
 | _, _ => False
def sliceV (h : Nat → Option Ob) (sz : Nat) (e : Ty) (tot b off n : Nat) (lo hi : Option A) (nx : Nat) (rd : List Nat) (K : A → Hp → List Nat → Prop) : Prop :=
 match Nat.beq sz (szE e), iOf 0 lo, iOf n hi with
 | true, some l, some r => Need (0 ≤ l ∧ l ≤ r ∧ off + r.toNat ≤ tot ∧ 0 < tot) (fresh h nx (K (.rw nx) [(nx, .vw sz b (off + l.toNat) (r.toNat - l.toNat))] rd))
 | _, _, _ => False
def sliceX (h : Nat → Option Ob) (sz : Nat) (x : A) (lo hi mx : Option A) (nx : Nat) (K : A → Hp → List Nat → Prop) : Prop :=
 match x with
 | .rw id => match h id with
   | some (.row e xs) => match mx with
     | none => Alt (sliceR h sz (.rw id) lo hi none fun r dh => K r dh [id]) (sliceV h sz e xs.length id 0 xs.length lo hi nx [id] K)
     | some m => match iOf 0 lo, hi, m with
       | some l, some (.c (.int _ r)), .c (.int _ m) => Need (0 ≤ l ∧ l ≤ r ∧ r ≤ m ∧ m ≤ xs.length) (K .un [] [id])
       | _, _, _ => False
   | some (.vw z b off n) => match mx, h b, Nat.beq z sz with
     | none, some (.row e xs), true => sliceV h sz e xs.length b off n lo hi nx [id, b] K
     | _, _, _ => False
   | _ => sliceR h sz (.rw id) lo hi mx fun r dh => K r dh [id]
 | .nl => match mx, iOf 0 lo, iOf 0 hi with
   | none, some l, some r => Need (l = 0 ∧ r = 0) (K .nl [] [])
   | _, _, _ => False
 | x => sliceR h sz x lo hi mx fun r dh => K r dh (rdOf x)
def isSlT (T : List (Nat × TI)) (t : Nat) : Bool := match get T t with
 | some i => match i.k with
   | .sl _ _ => true
   | _ => false
 | none => false
def nilQ (h : Nat → Option Ob) (sl : Bool) (op : BinOp) (x y : A) : Option Bool :=
 match op, y, sl with
 | .eql, .nl, true => match isRowD h x with
   | some ⟨_, xs⟩ => some xs.isEmpty
   | none => none
 | _, _, _ => none
def sameI : List A → List A → Option Bool
 | [], [] => some true
 | .c (.int .i64 a) :: l, .c (.int .i64 b) :: l' => match sameI l l' with
   | some t => some (decide (a = b) && t)
   | none => none
 | _, _ => none
def cellsI : List A → List Value
 | [] => []
 | .c (.int k n) :: l => .int k n :: cellsI l
 | _ :: l => undef :: cellsI l
def EqT (P : Program) (t n : Nat) : Prop := ∀ (l l' : List A) (b : Bool) (w : World), l.length = n → sameI l l' = some b → (Op.equal t (.agg (cellsI l).toArray) (.agg (cellsI l').toArray)).run P w = .ok b w ∧ (∀ x y : Operand, ∀ op, (eqGuard op t x y (.agg (cellsI l).toArray) (.agg (cellsI l').toArray)).run P w = .ok () w)
def structQ (P : Program) (op : BinOp) (t : Nat) (x y : A) (K : A → Prop) (other : Prop) : Prop :=
 match op, x, y with
 | .eql, .ag l, .ag l' => match sameI l l' with
   | some b => Need (EqT P t l.length) (K (.c (.bool b)))
   | none => False
 | .neq, .ag l, .ag l' => match sameI l l' with
   | some b => Need (EqT P t l.length) (K (.c (.bool (!b))))
   | none => False
 | _, _, _ => other
def sliceS (x : A) (lo hi mx : Option A) (K : A → Prop) : Prop :=
 match mx, x with
 | none, .c (.str s) => match iOf 0 lo, iOf s.length hi with
   | some l, some r => Need (0 ≤ l ∧ l ≤ r ∧ r ≤ s.length) (K (.c (.str ((s.take r.toNat).drop l.toNat))))
   | _, _ => False
 | _, _ => False
def convA (h : Nat → Option Ob) (src dst : TK) (x : A) (K : A → List Nat → Prop) : Prop :=
 match dst with
 | .int k => match x with
   | .c (.int _ n) => K (.c (.int k (k.wrap n))) []
   | _ => False
 | .str => match x with
   | .c (.int _ n) => K (.c (.str (Utf8.encode n).data.toList)) []
   | x => match src with
     | .sl .u8 _ => match isRow h x with
       | some ⟨.u8, xs⟩ => K (.c (.str xs)) (rdOf x)
       | _ => False
     | _ => False
 | _ => False
mutual
def A.ren (ρ : Nat → Nat) : A → A
 | .ag l => .ag (renL ρ l)
 | .tp l => .tp (renL ρ l)
 | .pt id o => .pt (ρ id) o
 | .rw id => .rw (ρ id)
 | .re sz id i o => .re sz (ρ id) i o
 | .fn f l => .fn f (renL ρ l)
 | .un => .un
 | .nl => .nl
 | .kb b => .kb b
 | .c c => .c c
 | .el e x o => .el e x o
def renL (ρ : Nat → Nat) : List A → List A
 | [] => []
 | a :: l => a.ren ρ :: renL ρ l
end
def Ob.ren (ρ : Nat → Nat) : Ob → Ob
 | .box cs => .box (renL ρ cs)
 | .fo e pre cs post => .fo e pre (renL ρ cs) post
 | .vw sz id off n => .vw sz (ρ id) off n
 | o => o
def renId : List Nat → Nat → Nat → Nat
 | [], nx, k => nx + k
 | i :: _, _, 0 => i
 | _ :: r, nx, k + 1 => renId r nx k
def renH (ρ : Nat → Nat) : Hp → Hp
 | [] => []
 | (k, ob) :: l => (ρ k, ob.ren ρ) :: renH ρ l
def Ent (P : Program) (f : Nat) : Prop := ∃ fn, P.funcs[f]? = some fn ∧ fn.body.isNone = false ∧ (fn.name == "runtime.NumGoroutine") = false
def Ret (P : Program) (f : Nat) (as : List A) (hin : Hp) (r : A) (hout : Hp) : Prop :=
 Ent P f ∧ ∀ (F : Nat → Prop) (V : Nat → Value) (B : Nat → List Nat) (w : World) (args : List Value), (∀ b, F b → b < w.heap.size) → (∀ id, (V id).oneCell' = true) → HeapOk F V B w hin → RepAs F V w args as → allL (Def hin) as →
  Calls P f args.toArray w fun e w' => ∃ (v : Value) (F' : Nat → Prop) (V' : Nat → Value) (B' : Nat → List Nat), e = .returned v ∧ RepA F' V' w' v r ∧ r.all (Def hout) ∧ HeapOk F' V' B' w' hout ∧ (∀ id, (V' id).oneCell' = true) ∧
   (∀ id, Def hin id → V' id = V id ∧ Def hout id) ∧ (∀ b, F b → F' b) ∧ (∀ b, F' b → F b ∨ w.heap.size ≤ b ∨ ∃ id, owns hin V B id b) ∧ (∀ b, F' b → b < w'.heap.size) ∧
   (∀ id b, owns hout V' B' id b → w.heap.size ≤ b ∨ ∃ id', owns hin V B id' b) ∧ Fr (fun b => ∃ id, owns hin V B id b) w w'
def lookAll (h : Nat → Option Ob) (ρ : Nat → Nat) : Hp → Prop
 | [] => True
 | (k, ob) :: l => h (ρ k) = some (ob.ren ρ) ∧ lookAll h ρ l
def newAll (h : Nat → Option Ob) (m nx : Nat) : Hp → Prop
 | [] => True
 | (k, _) :: l => (k < m ∨ h (nx + (k - m)) = none) ∧ newAll h m nx l
def obsIds (D : Nat → Prop) : Hp → Prop
 | [] => True
 | (_, ob) :: l => obIds D ob ∧ obsIds D l
mutual
def leA (h : Nat → Option Ob) (ρ : Nat → Nat) (a : A) : A → Prop
 | .un => True
 | .c c' => match a with
   | .c c => c = c'
   | .kb b => C.bool b = c'
   | .nl => ∃ e, C.sl e [] = c'
   | .rw id => match h id with
     | some (.fz e xs) => C.sl e xs = c'
     | _ => False
   | _ => False
 | .kb b' => match a with
   | .kb b => b = b'
   | .c c => c = .bool b'
   | _ => False
 | .ag l' => match a with
   | .ag l => leL h ρ l l'
   | _ => False
 | .tp l' => match a with
   | .tp l => leL h ρ l l'
   | _ => False
 | .nl => a = .nl
 | .pt id off => a = .pt (ρ id) off
 | .el e x off => a = .el e x off
 | .rw id => match h (ρ id) with
   | none => a = .nl
   | some _ => a = .rw (ρ id)
 | .re sz id i off => a = .re sz (ρ id) i off
 | .fn f l => a = .fn f (renL ρ l)
def leL (h : Nat → Option Ob) (ρ : Nat → Nat) : List A → List A → Prop
 | l, [] => l = []
 | l, a' :: l' => match l with
   | a :: l => leA h ρ a a' ∧ leL h ρ l l'
   | [] => False
end
def lent (h : Nat → Option Ob) (id : Nat) : Option Ob :=
 match h id with
 | some (.row e xs) => some (.fz e xs)
 | some (.dp e xs) => some (.fz e xs)
 | o => o
mutual
def ffA : A → Prop
 | .c (.sl _ _) => False
 | .c (.int _ _) => True
 | .c (.bool _) => True
 | .c (.str _) => True
 | .kb _ => True
 | .nl => True
 | .un => True
 | .rw _ => True
 | .ag l => ffL l
 | .tp l => ffL l
 | .pt _ _ => False
 | .el _ _ _ => False
 | .re _ _ _ _ => False
 | .fn _ _ => False
def ffL : List A → Prop
 | [] => True
 | a :: l => ffA a ∧ ffL l
end
def ffH : Hp → Prop
 | [] => True
 | (_, .dp _ _) :: l => ffH l
 | (_, .gone) :: l => ffH l
 | (_, .row e xs) :: l => (flat e = true ∨ xs = []) ∧ ffH l
 | (_, .box _) :: _ => False
 | (_, .fz _ _) :: _ => False
 | (_, .fo _ _ _ _) :: _ => False
 | (_, .vw _ _ _ _) :: _ => False
 | (_, .mb _) :: _ => False
mutual
def rwsA : A → List Nat
 | .rw id => [id]
 | .ag l => rwsL l
 | .tp l => rwsL l
 | .un => []
 | .nl => []
 | .kb _ => []
 | .c _ => []
 | .pt _ _ => []
 | .el _ _ _ => []
 | .re _ _ _ _ => []
 | .fn _ _ => []
def rwsL : List A → List Nat
 | [] => []
 | a :: l => rwsA a ++ rwsL l
end
def callB (P : Program) (h : Nat → Option Ob) (nx : Nat) (f : Nat) (args : List A) (K : A → Hp → List Nat → Prop) : Prop :=
 ∃ (as : List A) (r : A) (hout : Hp), Ret P f as [] r hout ∧ leL (lent h) id args as ∧ ffA r ∧ ffH hout ∧ newAll h 0 nx hout ∧ allL (fun _ => False) as ∧
  K (r.ren (renId [] nx)) (renH (renId [] nx) hout) (rwsL args)
def callF (P : Program) (h : Nat → Option Ob) (nx : Nat) (f : Nat) (args : List A) (K : A → Hp → List Nat → Prop) : Prop :=
 ∃ (as : List A) (r : A) (hout : Hp), Ret P f as [] r hout ∧ leL (lent h) id args as ∧ newAll h 0 nx hout ∧ allL (fun _ => False) as ∧
  K (r.ren (renId [] nx)) (renH (renId [] nx) hout ++ frz h ((rwsL args).map .rw)) (rwsL args)
def callA (P : Program) (h : Nat → Option Ob) (nx : Nat) (f : Nat) (args : List A) (K : A → Hp → List Nat → Prop) : Prop :=
 (∃ (as : List A) (hin : Hp) (r : A) (hout : Hp) (ids : List Nat), Ret P f as hin r hout ∧ args = renL (renId ids nx) as ∧ ids.Nodup ∧ (∀ k, Def hin k ↔ k < ids.length) ∧ lookAll h (renId ids nx) hin ∧ newAll h ids.length nx hout ∧ allL (Def hin) as ∧ obsIds (Def hin) hin ∧
   K (r.ren (renId ids nx)) (renH (renId ids nx) hout) (keys (renH (renId ids nx) hin))) ∨ callB P h nx f args K ∨ callF P h nx f args K
def placeS (T : List (Nat × TI)) (fs : List (Nat × Nat)) (j : Nat) : Option (Nat × Nat) :=
 match fs[j]? with
 | some (o, ft) => (match get T ft with
   | some fi => some (o, fi.sz)
   | none => none)
 | none => none
def u8ok (T : List (Nat × TI)) (k : TK) : Bool := match k with
 | .sl .u8 et => match get T et with
   | some ie => match ie.k with
     | .int .u8 => true
     | _ => false
   | none => false
 | _ => true
def convB (T : List (Nat × TI)) (h : Nat → Option Ob) (nx : Nat) (src dst : TK) (x : A) (K : A → Hp → List Nat → Prop) (other : Prop) : Prop :=
 match dst with
 | .sl .u8 et => match src, x, u8ok T (.sl .u8 et), Nat.beq et (etOf .u8) with
   | .str, .c (.str s), true, true => Need (s.length ≤ 140737488355328) (fresh h nx (K (.rw nx) [(nx, .fz .u8 s)] []))
   | _, _, _, _ => False
 | _ => other
/-! Values written out before they are put away (the same propositions: what follows is told the same things, computed) -/
def fcN : Nat → (Nat → Prop) → Prop
 | 0, K => K 0
 | n + 1, K => fcN n fun m => K (m + 1)
def fcC (c : C) (K : C → Prop) : Prop := match c with
 | .int k n => K (.int k n)
 | .bool b => K (.bool b)
 | .str s => K (.str s)
 | .sl e xs => K (.sl e xs)
mutual
def fcA : A → (A → Prop) → Prop
 | .ag l, K => fcL l fun l => K (.ag l)
 | .tp l, K => fcL l fun l => K (.tp l)
 | .fn f l, K => fcL l fun l => K (.fn f l)
 | .pt id off, K => fcN id fun id => fcN off fun off => K (.pt id off)
 | .rw id, K => fcN id fun id => K (.rw id)
 | .re sz id i off, K => fcN sz fun sz => fcN id fun id => fcN off fun off => K (.re sz id i off)
 | .el e x off, K => fcN off fun off => K (.el e x off)
 | .c c, K => fcC c fun c => K (.c c)
 | .un, K => K .un
 | .nl, K => K .nl
 | .kb b, K => K (.kb b)
def fcL : List A → (List A → Prop) → Prop
 | [], K => K []
 | a :: l, K => fcA a fun a => fcL l fun l => K (a :: l)
end
def fcO (o : Ob) (K : Ob → Prop) : Prop := match o with
 | .box cs => fcL cs fun cs => K (.box cs)
 | .fo e pre cs post => fcL cs fun cs => K (.fo e pre cs post)
 | .row e xs => K (.row e xs)
 | .fz e xs => K (.fz e xs)
 | .dp e xs => K (.dp e xs)
 | .vw sz id off n => fcN sz fun sz => fcN id fun id => K (.vw sz id off n)
 | .mb c => K (.mb c)
 | .gone => K .gone
def fcH : Hp → (Hp → Prop) → Prop
 | [], K => K []
 | (k, o) :: l, K => fcN k fun k => fcO o fun o => fcH l fun l => K ((k, o) :: l)
theorem fcN_eq : ∀ (n : Nat) (K : Nat → Prop), fcN n K = K n
 | 0, _ => rfl
 | n + 1, K => by simp only [fcN]; rw [fcN_eq n]
theorem fcC_eq (c : C) (K : C → Prop) : fcC c K = K c := by cases c <;> rfl
mutual
theorem fcA_eq : ∀ (a : A) (K : A → Prop), fcA a K = K a
 | .ag l, K => by simp only [fcA]; rw [fcL_eq l]
 | .tp l, K => by simp only [fcA]; rw [fcL_eq l]
 | .fn f l, K => by simp only [fcA]; rw [fcL_eq l]
 | .pt id off, K => by simp only [fcA]; rw [fcN_eq, fcN_eq]
 | .rw id, K => by simp only [fcA]; rw [fcN_eq]
 | .re sz id i off, K => by simp only [fcA]; rw [fcN_eq, fcN_eq, fcN_eq]
 | .el e x off, K => by simp only [fcA]; rw [fcN_eq]
 | .c c, K => by simp only [fcA]; rw [fcC_eq]
 | .un, _ => rfl
 | .nl, _ => rfl
 | .kb _, _ => rfl
theorem fcL_eq : ∀ (l : List A) (K : List A → Prop), fcL l K = K l
 | [], _ => rfl
 | a :: l, K => by simp only [fcL]; rw [fcA_eq a, fcL_eq l]
end
theorem fcO_eq (o : Ob) (K : Ob → Prop) : fcO o K = K o := by
 cases o <;> simp only [fcO, fcN_eq] <;> rw [fcL_eq]
theorem fcH_eq : ∀ (l : Hp) (K : Hp → Prop), fcH l K = K l
 | [], _ => rfl
 | (k, o) :: l, K => by simp only [fcH]; rw [fcN_eq, fcO_eq, fcH_eq l]
def opRes (P : Program) (T : List (Nat × TI)) (ρ : Operand → A) (h : Nat → Option Ob) (nx : Nat) (o : Op) (K : A → Hp → List Nat → Prop) : Prop :=
 match o with
 | .move x => K (ρ x) [] []
 | .assign x => match isVw h (ρ x) with
   | some (i, z, b, o, n) => match h b with
     | some (.row e xs) => AltC (K (ρ x) [] []) (match Nat.beq z (szE e), Nat.beq o 0 with
       | true, true => Need (n ≤ xs.length) (fresh h nx (K (.rw nx) [(b, .gone), (nx, .row e (xs.take n))] [i, b]))
       | _, _ => False)
     | _ => K (ρ x) [] []
   | none => K (ρ x) [] []
 | .pick c a b => pickA (ρ c) (ρ a) (ρ b) fun r => K r [] []
 | .nilCheck x => match ρ x with
   | .pt id o => K (.pt id o) [] []
   | .el e y o => K (.el e y o) [] []
   | .re sz id i o => K (.re sz id i o) [] []
   | .fn f l => K (.fn f l) [] []
   | _ => False
 | .alloc t => match get T t with
   | some i => fresh h nx (K (.pt nx 0) [(nx, .box i.z)] [])
   | none => False
 | .box _ x => match cellsA (ρ x) with
   | some l => fresh h nx (K (.pt nx 0) [(nx, .box l)] [])
   | none => False
 | .build t parts => match get T t with
   | some i => match i.k with
     | .st fs => match fs.all (fun p => (get T p.2).isSome), fillA (placeS T fs) i.z (parts.toList.map fun p => (p.1, ρ p.2)) with
       | true, some l => K (.ag l) [] []
       | _, _ => False
     | _ => False
   | none => False
 | .buildSlice t n parts => match get T t with
   | some i => match i.k with
     | .sl e et => match get T et with
       | some ie => match Nat.beq ie.sz (szE e), Nat.beq et (etOf e) with
         | true, true => litA h e ie.z n (parts.toList.map fun p => (p.1, ρ p.2)) nx K
         | _, _ => False
       | none => False
     | _ => False
   | none => False
 | .load t p => match get T t with
   | some i => loadA h (ρ p) i.sz i.k.agg fun r => K r [] (rdOf (ρ p))
   | none => False
 | .store t p v => match get T t with
   | some i => storeA h (ρ p) (ρ v) i.sz fun dh rd => K .un dh rd
   | none => False
 | .binOp op t x y _ => match nilQ h (isSlT T t) op (ρ x) (ρ y) with
   | some c => fresh h nx (K (.rw nx) [(nx, .mb c)] (rdOf (ρ x)))
   | none => structQ P op t (ρ x) (ρ y) (fun r => K r [] []) (binA op (isBoolT T t) (ρ x) (ρ y) fun r => K r [] [])
 | .unOp op _ x => unA op (ρ x) fun r => K r [] []
 | .convert s d x => match get T s, get T d with
   | some is, some id => convB T h nx is.k id.k (ρ x) K (match u8ok T is.k with
     | true => convA h is.k id.k (ρ x) fun r rd => K r [] rd
     | false => False)
   | _, _ => False
 | .makeFunc (.func f) first caps => match first.toList with
   | [] => K (.fn f (caps.toList.map ρ)) [] []
   | _ => False
 | .makeSlice t n m => match get T t with
   | some i => match i.k with
     | .sl e et => match get T et with
       | some ie => match Nat.beq ie.sz (szE e), Nat.beq ie.by_ (byE e), Nat.beq et (etOf e), toCs (fun _ => none) (cells e (dflt e)) ie.z with
         | true, true, true, some cs => Need (cs = cells e (dflt e)) (makeA h e (ρ n) (ρ m) nx fun r dh => K r dh [])
         | _, _, _, _ => False
       | none => False
     | _ => False
   | none => False
 | .slice t x lo hi mx => match get T t with
   | some i => match i.k with
     | .sl _ et => match get T et with
       | some ie => sliceX h ie.sz (ρ x) (lo.map ρ) (hi.map ρ) (mx.map ρ) nx K
       | none => False
     | .str => sliceS (ρ x) (lo.map ρ) (hi.map ρ) (mx.map ρ) fun r => K r [] []
     | _ => False
   | none => False
 | .fieldAddr t x f => match get T t with
   | some i => match i.k with
     | .st fs => match fs[f]? with
       | some (o, ft) => match get T ft with
         | some fi => match Nat.beq fi.sz 0 with
           | false => fieldA (ρ x) o fun r => K r [] []
           | true => False
         | none => False
       | none => False
     | _ => False
   | none => False
 | .field t x f => match get T t with
   | some i => match i.k with
     | .st fs => match fs[f]?, ρ x with
       | some (o, ft), .ag l => match get T ft with
         | some fi => match cellsOf l o fi.sz fi.k.agg with
           | some a => K a [] []
           | none => False
         | none => False
       | _, _ => False
     | _ => False
   | none => False
 | .indexAddr t x i => match get T t with
   | some it => match it.k with
     | .sl _ et => match get T et with
       | some ie => indexA h (ρ x) (ρ i) ie.sz fun r => K r [] (rdOf (ρ x))
       | none => False
     | _ => False
   | none => False
 | .index t x i => match get T t with
   | some it => match it.k with
     | .str => indexS (ρ x) (ρ i) fun r => K r [] []
     | _ => False
   | none => False
 | .extract x j => match ρ x with
   | .tp l => match l[j]? with
     | some a => K a [] []
     | none => False
   | _ => False
 | .call c => match c.callee with
   | .value f => match ρ f with
     | .fn g caps => fcL (c.args.toList.map ρ ++ caps) fun as => callA P h nx g as K
     | _ => False
   | .builtin .len => match c.args.toList, c.argTypes.toList with
     | [x], [t] => match get T t with
       | some i => match i.k with
         | .sl _ _ => lenA h (ρ x) fun r => K r [] (rdOf (ρ x))
         | .str => lenS (ρ x) fun r => K r [] []
         | _ => False
       | none => False
     | _, _ => False
   | .builtin .max => match c.args.toList with
     | [x, y] => match ρ x, ρ y with
       | .c (.int k a), .c (.int k' b) => match eqK k k' with
         | true => K (.c (.int k (if b > a then b else a))) [] []
         | false => False
       | _, _ => False
     | _ => False
   | .builtin .min => match c.args.toList with
     | [x, y] => match ρ x, ρ y with
       | .c (.int k a), .c (.int k' b) => match eqK k k' with
         | true => K (.c (.int k (if b < a then b else a))) [] []
         | false => False
       | _, _ => False
     | _ => False
   | .builtin .append => match c.args.toList, c.argTypes.toList with
     | [s, x], [t, t'] => match get T t with
       | some i => match i.k with
         | .sl e et => match get T et with
           | some ie => match Nat.beq ie.sz (szE e), Nat.beq ie.by_ (byE e), Nat.beq et (etOf e) with
             | true, true, true => match Nat.beq t t' with
               | true => appA h e (ρ s) (ρ x) nx K
               | false => match get T t', toCs (fun _ => none) (cells e (dflt e)) ie.z with
                 | some i', some cs => match i'.k with
                   | .int .i64 => Need (cs = cells e (dflt e)) (appZ h e (ρ s) (ρ x) nx K)
                   | _ => False
                 | _, _ => False
             | _, _, _ => False
           | none => False
         | _ => False
       | none => False
     | _, _ => False
   | .builtin .cap => match c.args.toList, c.argTypes.toList with
     | [x], [t] => match get T t with
       | some i => match i.k with
         | .sl _ _ => match ρ x with
           | .nl => K (.c (.int .i64 0)) [] []
           | _ => False
         | _ => False
       | none => False
     | _, _ => False
   | .builtin .clear => match c.args.toList, c.argTypes.toList with
     | [x], [t] => match get T t with
       | some i => match i.k with
         | .sl e et => match get T et with
           | some ie => match Nat.beq ie.sz (szE e), Nat.beq et (etOf e), toCs (fun _ => none) (cells e (dflt e)) ie.z with
             | true, true, some cs => Need (cs = cells e (dflt e)) (clearA h e (ρ x) K)
             | _, _, _ => False
           | none => False
         | _ => False
       | none => False
     | _, _ => False
   | _ => False
 | _ => False
attribute [irreducible] callA
end Go.Proofs.YthbpdhppelaihaaGreat