/- The plain data that the program's values are read as: numbers, texts, pairs, messages, trees and what is made of them. No program in sight. -/
import Derived.Below
set_option linter.unusedVariables false
namespace Go.Proofs.YthbpdhppelaihaaGreat
structure Pr where
 k : Int
 v : Int
structure Ms where
 op : Int
 k : Int
 v : Int
structure Tr where
 leaf : Bool
 pairs : List Pr
 cuts : List Int
 kids : List Tr
 buf : List Ms
structure Cm where
 client : Int
 seq : Int
 m : Ms
structure Dn where
 client : Int
 seq : Int
 v : Int
 has : Bool
structure Mc where
 t : Tr
 last : List Dn
structure En where
 term : Int
 c : Cm
structure Lg where
 base : Int
 baseTerm : Int
 list : List En
structure Nd where
 id : Int
 term : Int
 vote : Int
 log : Lg
 snap : Mc
 role : Int
 votes : List Bool
 next : List Int
 mtch : List Int
 commit : Int
 now : Mc
structure Rp where
 kind : Int
 frm : Int
 to : Int
 term : Int
 index : Int
 indexTerm : Int
 commit : Int
 ok : Bool
 entries : List En
 snap : Mc
structure Ld where
 term : Int
 id : Int
structure Su where
 ver : Int
 root : Int
structure Wr where
 at_ : Int
 text : List UInt8
 sup : Su
inductive Ty where
 | int | bool | u8 | str | pr | ms | tr | cm | dn | en | nd | rp | ld | su | wr | lint | lms | ltr
abbrev El : Ty → Type
 | .int => Int
 | .bool => Bool
 | .u8 => UInt8
 | .str => List UInt8
 | .pr => Pr
 | .ms => Ms
 | .tr => Tr
 | .cm => Cm
 | .dn => Dn
 | .en => En
 | .nd => Nd
 | .rp => Rp
 | .ld => Ld
 | .su => Su
 | .wr => Wr
 | .lint => List Int
 | .lms => List Ms
 | .ltr => List Tr
inductive C where
 | int (k : IntKind) (n : Int)
 | bool (b : Bool)
 | str (s : List UInt8)
 | sl (e : Ty) (xs : List (El e))
abbrev Ms.cells (x : Ms) : List C := [.int .i64 x.op, .int .i64 x.k, .int .i64 x.v]
abbrev Tr.cells (x : Tr) : List C := [.bool x.leaf, .sl .pr x.pairs, .sl .int x.cuts, .sl .tr x.kids, .sl .ms x.buf]
abbrev Cm.cells (x : Cm) : List C := [.int .i64 x.client, .int .i64 x.seq, .int .i64 x.m.op, .int .i64 x.m.k, .int .i64 x.m.v]
abbrev En.cells (x : En) : List C := [.int .i64 x.term, .int .i64 x.c.client, .int .i64 x.c.seq, .int .i64 x.c.m.op, .int .i64 x.c.m.k, .int .i64 x.c.m.v]
abbrev Nd.cells (x : Nd) : List C := [.int .i64 x.id, .int .i64 x.term, .int .i64 x.vote, .int .i64 x.log.base, .int .i64 x.log.baseTerm, .sl .en x.log.list,
 .bool x.snap.t.leaf, .sl .pr x.snap.t.pairs, .sl .int x.snap.t.cuts, .sl .tr x.snap.t.kids, .sl .ms x.snap.t.buf, .sl .dn x.snap.last, .int .i64 x.role, .sl .bool x.votes, .sl .int x.next, .sl .int x.mtch,
 .int .i64 x.commit, .bool x.now.t.leaf, .sl .pr x.now.t.pairs, .sl .int x.now.t.cuts, .sl .tr x.now.t.kids, .sl .ms x.now.t.buf, .sl .dn x.now.last]
abbrev Rp.cells (x : Rp) : List C := [.int .i64 x.kind, .int .i64 x.frm, .int .i64 x.to, .int .i64 x.term, .int .i64 x.index, .int .i64 x.indexTerm, .int .i64 x.commit, .bool x.ok, .sl .en x.entries,
 .bool x.snap.t.leaf, .sl .pr x.snap.t.pairs, .sl .int x.snap.t.cuts, .sl .tr x.snap.t.kids, .sl .ms x.snap.t.buf, .sl .dn x.snap.last]
abbrev cells : (e : Ty) → El e → List C
 | .int, n => [.int .i64 n]
 | .bool, b => [.bool b]
 | .u8, n => [.int .u8 (n.toNat : Int)]
 | .str, s => [.str s]
 | .pr, x => [.int .i64 x.k, .int .i64 x.v]
 | .ms, x => Ms.cells x
 | .tr, x => Tr.cells x
 | .cm, x => Cm.cells x
 | .dn, x => [.int .i64 x.client, .int .i64 x.seq, .int .i64 x.v, .bool x.has]
 | .en, x => En.cells x
 | .nd, x => Nd.cells x
 | .rp, x => Rp.cells x
 | .ld, x => [.int .i64 x.term, .int .i64 x.id]
 | .su, x => [.int .i64 x.ver, .int .i64 x.root]
 | .wr, x => [.int .i64 x.at_, .str x.text, .int .i64 x.sup.ver, .int .i64 x.sup.root]
 | .lint, x => [.sl .int x]
 | .lms, x => [.sl .ms x]
 | .ltr, x => [.sl .tr x]
abbrev Tr0 : Tr := ⟨false, [], [], [], []⟩
abbrev Ms0 : Ms := ⟨0, 0, 0⟩
abbrev Cm0 : Cm := ⟨0, 0, Ms0⟩
abbrev Mc0 : Mc := ⟨Tr0, []⟩
abbrev dflt : (e : Ty) → El e
 | .int => 0
 | .bool => false
 | .u8 => 0
 | .str => []
 | .pr => ⟨0, 0⟩
 | .ms => Ms0
 | .tr => Tr0
 | .cm => Cm0
 | .dn => ⟨0, 0, 0, false⟩
 | .en => ⟨0, Cm0⟩
 | .nd => ⟨0, 0, 0, ⟨0, 0, []⟩, Mc0, 0, [], [], [], 0, Mc0⟩
 | .rp => ⟨0, 0, 0, 0, 0, 0, 0, false, [], Mc0⟩
 | .ld => ⟨0, 0⟩
 | .su => ⟨0, 0⟩
 | .wr => ⟨0, [], ⟨0, 0⟩⟩
 | .lint => []
 | .lms => []
 | .ltr => []
abbrev szE : Ty → Nat
 | .int | .bool | .u8 | .str | .lint | .lms | .ltr => 1
 | .pr | .ld | .su => 2
 | .ms => 3
 | .tr | .cm => 5
 | .dn | .wr => 4
 | .en => 6
 | .nd => 23
 | .rp => 15
abbrev byE : Ty → Nat
 | .int => 8 | .bool => 1 | .u8 => 1 | .str => 16 | .pr => 16 | .ms => 24 | .tr => 104 | .cm => 40 | .dn => 32 | .en => 48
 | .nd => 408 | .rp => 216 | .ld => 16 | .su => 16 | .wr => 40 | .lint => 24 | .lms => 24 | .ltr => 24
theorem cells_len (e : Ty) (x : El e) : (cells e x).length = szE e := by cases e <;> rfl
theorem szE_pos (e : Ty) : 0 < szE e := by cases e <;> decide
theorem byE_pos (e : Ty) : 0 < byE e := by cases e <;> decide
abbrev C.n : C → Int
 | .int _ n => n
 | _ => 0
abbrev C.b : C → Bool
 | .bool b => b
 | _ => false
abbrev C.s : C → List UInt8
 | .str s => s
 | _ => []
abbrev Ms.mk3 (a b c : C) : Ms := ⟨a.n, b.n, c.n⟩
abbrev Tr.mk5 : C → C → C → C → C → Tr
 | .bool l, .sl .pr p, .sl .int c, .sl .tr k, .sl .ms m => ⟨l, p, c, k, m⟩
 | _, _, _, _, _ => Tr0
abbrev dnL : C → List Dn
 | .sl .dn l => l
 | _ => []
abbrev enL : C → List En
 | .sl .en l => l
 | _ => []
abbrev inL : C → List Int
 | .sl .int l => l
 | _ => []
abbrev blL : C → List Bool
 | .sl .bool l => l
 | _ => []
abbrev msL : C → List Ms
 | .sl .ms l => l
 | _ => []
abbrev trL : C → List Tr
 | .sl .tr l => l
 | _ => []
abbrev mkE : (e : Ty) → List C → El e
 | .int, [a] => a.n
 | .bool, [a] => a.b
 | .u8, [a] => UInt8.ofNat a.n.toNat
 | .str, [a] => a.s
 | .pr, [a, b] => ⟨a.n, b.n⟩
 | .ms, [a, b, c] => Ms.mk3 a b c
 | .tr, [a, b, c, d, e] => Tr.mk5 a b c d e
 | .cm, [a, b, c, d, e] => ⟨a.n, b.n, Ms.mk3 c d e⟩
 | .dn, [a, b, c, d] => ⟨a.n, b.n, c.n, d.b⟩
 | .en, [t, a, b, c, d, e] => ⟨t.n, ⟨a.n, b.n, Ms.mk3 c d e⟩⟩
 | .nd, [a0, a1, a2, a3, a4, a5, b0, b1, b2, b3, b4, b5, a6, a7, a8, a9, a10, c0, c1, c2, c3, c4, c5] =>
   ⟨a0.n, a1.n, a2.n, ⟨a3.n, a4.n, enL a5⟩, ⟨Tr.mk5 b0 b1 b2 b3 b4, dnL b5⟩, a6.n, blL a7, inL a8, inL a9, a10.n, ⟨Tr.mk5 c0 c1 c2 c3 c4, dnL c5⟩⟩
 | .rp, [a0, a1, a2, a3, a4, a5, a6, a7, a8, b0, b1, b2, b3, b4, b5] => ⟨a0.n, a1.n, a2.n, a3.n, a4.n, a5.n, a6.n, a7.b, enL a8, ⟨Tr.mk5 b0 b1 b2 b3 b4, dnL b5⟩⟩
 | .ld, [a, b] => ⟨a.n, b.n⟩
 | .su, [a, b] => ⟨a.n, b.n⟩
 | .wr, [a, b, c, d] => ⟨a.n, b.s, ⟨c.n, d.n⟩⟩
 | .lint, [a] => inL a
 | .lms, [a] => msL a
 | .ltr, [a] => trL a
 | e, _ => dflt e
end Go.Proofs.YthbpdhppelaihaaGreat