/- An interpreter of the model's code over deep, immutable data and a small heap of its own: definitions. -/
import GoSem.Core.World
import GoSem.Core.View
namespace Go.Proofs.YtlhajccbfapieaaGreatDoor.Ab
open Go
inductive DV where
 | bool (b : Bool)
 | int (k : IntKind) (n : Int)
 | str (s : List UInt8)
 | nilp
 | nilsl
 | nilmap
 | nilf
 | nili
 | sl (sz : Nat) (rows : List (List DV))
 deriving Inhabited
inductive Mode where
 | pure | drop | opn
 deriving DecidableEq, Inhabited
inductive AV where
 | d (v : DV)
 | ptr (i c : Nat)
 | ept (i g r c : Nat)
 | rpt (row : List DV) (c : Nat)
 | osl (i g lo hi : Nat)
 | agg (cs : List AV)
 | tup (vs : List AV)
 | fn (m : Mode) (f : Nat) (first cap : List AV)
 | yld (m : Mode) (num i : Nat)
 | ifc (t : Nat) (v : AV)
 | junk
 deriving Inhabited
inductive Own where
 | mine | lent | frozen
 deriving DecidableEq, Inhabited
inductive OB where
 | fix (cs : List AV)
 | arr (nl : Bool) (g sz : Nat) (rows : List (List DV))
 | lp (num s : Nat) (caps : List AV)
 deriving Inhabited
structure Obj where
 own : Own
 ty : Nat
 b : OB
 deriving Inhabited
abbrev Heap := List Obj
@[irreducible] def iadd (k : IntKind) (a b : Int) : Int := k.wrap (a + b)
@[irreducible] def isub (k : IntKind) (a b : Int) : Int := k.wrap (a - b)
@[irreducible] def imul (k : IntKind) (a b : Int) : Int := k.wrap (a * b)
@[irreducible] def iquo (k : IntKind) (a b : Int) : Int := k.wrap (a.tdiv b)
@[irreducible] def irem (a b : Int) : Int := a.tmod b
@[irreducible] def iand (k : IntKind) (a b : Int) : Int := k.wrap (BitVec.ofInt k.bits a &&& BitVec.ofInt k.bits b).toNat
@[irreducible] def ior (k : IntKind) (a b : Int) : Int := k.wrap (BitVec.ofInt k.bits a ||| BitVec.ofInt k.bits b).toNat
@[irreducible] def ixor (k : IntKind) (a b : Int) : Int := k.wrap (BitVec.ofInt k.bits a ^^^ BitVec.ofInt k.bits b).toNat
@[irreducible] def iandn (k : IntKind) (a b : Int) : Int := k.wrap (BitVec.ofInt k.bits a &&& ~~~(BitVec.ofInt k.bits b)).toNat
@[irreducible] def ishl (k : IntKind) (a : Int) (n : Nat) : Int := k.wrap (a * 2 ^ (min n k.bits))
@[irreducible] def ishr (k : IntKind) (a : Int) (n : Nat) : Int := a.fdiv (2 ^ (min n k.bits))
@[irreducible] def icast (k : IntKind) (a : Int) : Int := k.wrap a
@[irreducible] def ilt (a b : Int) : Bool := decide (a < b)
@[irreducible] def ile (a b : Int) : Bool := decide (a ≤ b)
@[irreducible] def ieq (a b : Int) : Bool := a == b
@[irreducible] def imin (a b : Int) : Int := if b < a then b else a
@[irreducible] def imax (a b : Int) : Int := if b > a then b else a
@[irreducible] def seq (a b : List UInt8) : Bool := a == b
def bless : List UInt8 → List UInt8 → Bool
 | _, [] => false
 | [], _ :: _ => true
 | a :: x, b :: y => a < b || (a == b && bless x y)
@[irreducible] def slt (a b : List UInt8) : Bool := bless a b
@[irreducible] def iz (b : Int) : Bool := b == 0
@[irreducible] def iget {α : Type} (l : List α) (n : Int) : Option α := if 0 ≤ n then l[n.toNat]? else none
@[irreducible] def icut {α : Type} (l : List α) (lo hi : Int) : Option (List α) :=
 if 0 ≤ lo ∧ lo ≤ hi ∧ hi ≤ l.length then some ((l.take hi.toNat).drop lo.toNat) else none
@[irreducible] def room (n bytes : Nat) : Bool := decide (n * bytes ≤ 140737488355328)
@[irreducible] def roomS (n : Nat) : Bool := decide (n ≤ 9223372036854775807)
def slOf (nl : Bool) (sz : Nat) (rows : List (List DV)) (lo hi : Nat) : DV :=
 match nl, rows with
 | true, [] => .nilsl
 | _, rows => .sl sz ((rows.take hi).drop lo)
inductive Opd where
 | t (i : Nat)
 | k (v : AV)
 deriving Inhabited
inductive EqK where
 | nil (k : Nat)
 | bool
 | cells (n : Nat) (l : List (Nat × Nat))
 deriving Inhabited
inductive Act where
 | mv
 | pick
 | new (e : Nat) (zs : List AV)
 | box (e : Nat)
 | build (z : List AV) (ps : List (Nat × Nat))
 | bsl (e sz : Nat) (z : List DV) (n : Nat) (ps : List Nat)
 | load (n : Option Nat)
 | store (n : Nat)
 | nilck
 | bin (op : BinOp) (q : EqK)
 | un (op : UnOp)
 | cvi (k : IntKind)
 | cvs
 | cvu
 | cvp (u n : Nat)
 | s2b (e : Nat)
 | b2s
 | mki (t : Nat)
 | mkf (m : Mode) (f nf : Nat)
 | mks (e sz bytes : Nat) (z : List DV)
 | cuts (lo hi : Bool)
 | cutr (sz : Nat) (lo hi : Bool)
 | cuta (len sz : Nat) (lo hi : Bool)
 | fad (off : Nat)
 | fld (off : Nat) (n : Option Nat)
 | iad (sz : Nat)
 | iadA (len sz : Nat)
 | idxs
 | idxA (len sz : Nat) (n : Option Nat)
 | ext (i : Nat)
 | tas (t : Nat) (ok : Bool) (z : AV)
 | call (pure : Bool)
 | callD (ls : List Nat)
 | app (e sz bytes : Nat)
 | appT (e sz bytes : Nat)
 | appZ (e sz bytes : Nat) (z : List DV)
 | capn
 | len
 | lens
 | min
 | max
 | copy (sz : Nat)
 | dfr
 | panic
 | recov
 | sdat
 | ustr (e : Nat)
 | bslT (e sz : Nat) (z : List DV) (n : Nat) (ps : List Nat)
 | storeT (n : Nat)
 deriving Inhabited
structure Ins where
 dst : Option Nat
 gd : Option (Nat × Bool)
 act : Act
 xs : List Opd
 deriving Inhabited
inductive CC where
 | skip
 | reg (draw : Option (List (Nat × Nat × Nat × Nat))) (is : List Ins)
 | seq (a b : CC)
 | cond (c : Opd) (x y : CC)
 | block (id : Nat) (c : CC)
 | rng (num : Nat) (keep : List Nat) (f : Opd)
 | loop (keep : List Nat) (c : CC)
 | fgt (keep : List Nat)
 | exit (id : Nat)
 | ret
 | bad
 deriving Inhabited
inductive RV where
 | tmp (t : Nat)
 | cell (a : Nat) (n : Option Nat)
 deriving Inhabited
structure CFn where
 body : CC
 res : List RV
 deriving Inhabited
structure RFn where
 keep : List Nat
 ps : List Nat
 assign : CC
 body : CC
 deriving Inhabited
inductive Fn where
 | code (c : CFn)
 | round (c : RFn)
 | known (g : List AV → Option AV)
abbrev I (n : Int) : AV := .d (.int .i64 n)
abbrev B (b : Bool) : AV := .d (.bool b)
abbrev S (s : List UInt8) : AV := .d (.str s)
inductive OR where
 | v (x : AV) (h : Heap)
 | pan (x : AV)
 | call (pure : Bool) (m : Mode) (f : Nat) (args : List AV)
 | dfr (m : Mode) (f : Nat) (args : List AV)
 | recov
 deriving Inhabited
def force : AV → Option AV
 | .d v => some (.d v)
 | .ptr i c => some (.ptr i c)
 | .ept i g r c => some (.ept i g r c)
 | .rpt r c => some (.rpt r c)
 | .osl i g lo hi => some (.osl i g lo hi)
 | .agg cs => some (.agg cs)
 | .tup vs => some (.tup vs)
 | .fn m f a b => some (.fn m f a b)
 | .yld m n i => some (.yld m n i)
 | .ifc t v => some (.ifc t v)
 | .junk => none
def cellsOf : AV → List AV
 | .agg cs => cs
 | x => [x]
def celly : AV → Bool
 | .agg _ | .tup _ | .junk => false
 | _ => true
def deepRow : List AV → Option (List DV)
 | [] => some []
 | .d v :: l => (deepRow l).map (v :: ·)
 | _ :: _ => none
def splice {α : Type} (cs : List α) (off : Nat) (vs : List α) : List α := cs.take off ++ vs ++ cs.drop (off + vs.length)
def fill (cells : List AV) : List (Nat × Nat) → List AV → Option (List AV)
 | [], [] => some cells
 | (off, n) :: ps, x :: xs =>
  match Nat.beq (cellsOf x).length n && Nat.ble (off + n) cells.length && (cellsOf x).all celly with
  | true => fill (splice cells off (cellsOf x)) ps xs
  | false => none
 | _, _ => none
def fillRows (sz : Nat) (rows : List (List DV)) : List Nat → List AV → Option (List (List DV))
 | [], [] => some rows
 | i :: is, x :: xs =>
  match deepRow (cellsOf x) with
  | some r => match Nat.beq r.length sz && Nat.blt i rows.length with
   | true => fillRows sz (rows.set i r) is xs
   | false => none
  | none => none
 | _, _ => none
def part (cs : List AV) (off : Nat) : Option Nat → Option AV
 | none => cs[off]?
 | some n => match Nat.ble (off + n) cs.length with
  | true => some (.agg ((cs.drop off).take n))
  | false => none
def partD (cs : List DV) (off : Nat) : Option Nat → Option AV
 | none => (cs[off]?).map .d
 | some n => match Nat.ble (off + n) cs.length with
  | true => some (.agg (((cs.drop off).take n).map .d))
  | false => none
def loadA (h : Heap) (n : Option Nat) : AV → Option AV
 | .ptr i c => match h[i]? with
  | some ⟨_, _, .fix cs⟩ => part cs c n
  | _ => none
 | .ept i g r c => match h[i]? with
  | some ⟨_, _, .arr _ g' _ rows⟩ => match Nat.beq g g' with
   | true => match rows[r]? with
    | some row => partD row c n
    | none => none
   | false => none
  | _ => none
 | .rpt row c => partD row c n
 | _ => none
def storeA (h : Heap) (n : Nat) (x : AV) : AV → Option Heap
 | .ptr i c => match h[i]? with
  | some ⟨.mine, ty, .fix cs⟩ =>
   match Nat.beq (cellsOf x).length n && Nat.ble (c + n) cs.length && (cellsOf x).all celly with
   | true => some (h.set i ⟨.mine, ty, .fix (splice cs c (cellsOf x))⟩)
   | false => none
  | _ => none
 | .ept i g r c => match h[i]? with
  | some ⟨.mine, ty, .arr nl g' sz rows⟩ => match Nat.beq g g', rows[r]?, deepRow (cellsOf x) with
   | true, some row, some vs =>
    match Nat.beq vs.length n && Nat.ble (c + n) row.length with
    | true => some (h.set i ⟨.mine, ty, .arr nl g' sz (rows.set r (splice row c vs))⟩)
    | false => none
   | _, _, _ => none
  | _ => none
 | _ => none
def isNil (h : Heap) : AV → Option Bool
 | .d .nilp => some true
 | .d .nilsl => some true
 | .d .nilmap => some true
 | .d .nilf => some true
 | .d .nili => some true
 | .d (.sl _ _) => some false
 | .ptr _ _ => some false
 | .ept _ _ _ _ => some false
 | .rpt _ _ => some false
 | .fn _ _ _ _ => some false
 | .ifc _ _ => some false
 | .osl i g _ _ => match h[i]? with
  | some ⟨_, _, .arr nl g' _ rows⟩ => match Nat.beq g g', nl, rows with
   | true, true, [] => some true
   | true, _, _ => some false
   | false, _, _ => none
  | _ => none
 | _ => none
def eqD : Nat → DV → DV → Option Bool
 | 0, .bool a, .bool b => some (a == b)
 | 1, .int k a, .int k' b => match decide (k = k') with
  | true => some (ieq a b)
  | false => none
 | 2, .str a, .str b => some (seq a b)
 | _, _, _ => none
def eqCell (xs ys : List AV) (i k : Nat) : Option Bool :=
 match xs[i]?, ys[i]? with
 | some (.d x), some (.d y) => eqD k x y
 | _, _ => none
def eqCells (xs ys : List AV) : List (Nat × Nat) → Option Bool
 | [] => some true
 | (i, k) :: l => match l with
  | [] => eqCell xs ys i k
  | l => match eqCell xs ys i k, eqCells xs ys l with
   | some a, some b => some (a && b)
   | _, _ => none
def litNil : AV → Bool
 | .d .nilp | .d .nilsl | .d .nilmap | .d .nilf | .d .nili => true
 | _ => false
def nilKind : AV → Nat
 | .d .nilp => 0
 | .d .nilsl => 1
 | .d (.sl _ _) => 1
 | .d .nilmap => 2
 | .d .nilf => 3
 | .d .nili => 4
 | .ptr _ _ => 0
 | .ept _ _ _ _ => 0
 | .rpt _ _ => 0
 | .osl _ _ _ _ => 1
 | .fn _ _ _ _ => 3
 | .ifc _ _ => 4
 | _ => 9
def sameP : Nat → AV → AV → Option Bool
 | 0, .ptr i c, .ptr j d => match Nat.beq i j && Nat.beq c d with
  | true => some true
  | false => none
 | _, _, _ => none
def eqA (h : Heap) : EqK → AV → AV → Option Bool
 | .cells n l, .agg xs, .agg ys => match Nat.beq xs.length n && Nat.beq ys.length n with
  | true => eqCells xs ys l
  | false => none
 | .bool, .d (.bool a), .d (.bool b) => some (a == b)
 | .nil k, x, y => match Nat.beq (nilKind x) k && Nat.beq (nilKind y) k with
  | true => match litNil x, litNil y with
   | true, _ => isNil h y
   | false, true => isNil h x
   | false, false => sameP k x y
  | false => none
 | _, _, _ => none
def binI (op : BinOp) (k : IntKind) (a b : Int) : Option DV :=
 match op with
 | .add => some (.int k (iadd k a b))
 | .sub => some (.int k (isub k a b))
 | .mul => some (.int k (imul k a b))
 | .quo => match iz b with
  | true => none
  | false => some (.int k (iquo k a b))
 | .rem => match iz b with
  | true => none
  | false => some (.int k (irem a b))
 | .and => some (.int k (iand k a b))
 | .or => some (.int k (ior k a b))
 | .xor => some (.int k (ixor k a b))
 | .andNot => some (.int k (iandn k a b))
 | .eql => some (.bool (ieq a b))
 | .neq => some (.bool (!ieq a b))
 | .lss => some (.bool (ilt a b))
 | .leq => some (.bool (ile a b))
 | .gtr => some (.bool (ilt b a))
 | .geq => some (.bool (ile b a))
 | _ => none
def binS (op : BinOp) (a b : List UInt8) : Option DV :=
 match op with
 | .add => match roomS (a.length + b.length) with
  | true => some (.str (a ++ b))
  | false => none
 | .eql => some (.bool (seq a b))
 | .neq => some (.bool (!seq a b))
 | .lss => some (.bool (slt a b))
 | .leq => some (.bool (slt a b || seq a b))
 | .gtr => some (.bool (!(slt a b || seq a b)))
 | .geq => some (.bool (!slt a b))
 | _ => none
def shiftI (op : BinOp) (k : IntKind) (a : Int) : Int → Option DV
 | .ofNat n => match op with
  | .shl => some (.int k (ishl k a n))
  | .shr => some (.int k (ishr k a n))
  | _ => none
 | .negSucc _ => none
def isShift : BinOp → Bool
 | .shl | .shr => true
 | _ => false
def binE (h : Heap) (op : BinOp) (q : EqK) (x y : AV) : Option AV :=
 match op with
 | .eql => (eqA h q x y).map fun b => .d (.bool b)
 | .neq => (eqA h q x y).map fun b => .d (.bool (!b))
 | _ => none
def binA (h : Heap) (op : BinOp) (q : EqK) (x y : AV) : Option AV :=
 match x, y with
 | .d (.int k a), .d (.int k' b) =>
  match isShift op with
  | true => (shiftI op k a b).map .d
  | false => match decide (k = k') with
   | true => (binI op k a b).map .d
   | false => none
 | .d (.str a), .d (.str b) => (binS op a b).map .d
 | x, y => binE h op q x y
def unA : UnOp → AV → Option AV
 | .neg, .d (.int k n) => some (.d (.int k (isub k 0 n)))
 | .not, .d (.bool b) => some (.d (.bool (!b)))
 | .xor, .d (.int k n) => some (.d (.int k (ixor k (if k.signed then -1 else k.max) n)))
 | _, _ => none
def rowsOf (h : Heap) (sz : Nat) : AV → Option (List (List DV))
 | .d .nilsl => some []
 | .d (.sl sz' rows) => match Nat.beq sz sz' with
  | true => some rows
  | false => none
 | .osl i g lo hi => match h[i]? with
  | some ⟨_, _, .arr _ g' sz' rows⟩ => match Nat.beq g g' && Nat.beq sz sz' with
   | true => some ((rows.take hi).drop lo)
   | false => none
  | _ => none
 | _ => none
def byteRow (b : UInt8) : List DV := [.int .u8 b.toNat]
def rowByte : List DV → Option UInt8
 | [.int .u8 n] => some (UInt8.ofNat n.toNat)
 | _ => none
@[irreducible] def textOf (rows : List (List DV)) : Option (List UInt8) := rows.mapM rowByte
def moreOf (h : Heap) (sz : Nat) : AV → Option (List (List DV))
 | .d (.str s) => match Nat.beq sz 1 with
  | true => some (s.map byteRow)
  | false => none
 | x => rowsOf h sz x
def appA (e sz bytes : Nat) (h : Heap) (more : List (List DV)) : AV → Option (AV × Heap)
 | .d .nilsl =>
  match room more.length bytes with
  | true => some (.osl h.length 0 0 more.length, h ++ [⟨.mine, e, .arr true 0 sz more⟩])
  | false => none
 | .osl i g lo hi => match h[i]? with
  | some ⟨.mine, ty, .arr nl g' sz' rows⟩ =>
   match Nat.beq g g' && Nat.beq lo 0 && Nat.beq sz sz' && Nat.beq e ty, ieq hi rows.length, room (rows.length + more.length) bytes with
   | true, true, true => some (.osl i (g + 1) 0 (rows.length + more.length), h.set i ⟨.mine, e, .arr nl (g + 1) sz (rows ++ more)⟩)
   | _, _, _ => none
  | _ => none
 | _ => none
def truncA (h : Heap) : AV → Option (AV × Heap)
 | .osl i g lo hi => match h[i]? with
  | some ⟨.mine, ty, .arr _ g' sz rows⟩ => match Nat.beq g g' && Nat.blt hi rows.length with
   | true => some (.osl i (g + 1) lo hi, h.set i ⟨.mine, ty, .arr false (g + 1) sz (rows.take hi)⟩)
   | false => none
  | _ => none
 | _ => none
def lenA : AV → Option Int
 | .d .nilsl => some 0
 | .d (.sl _ rows) => some rows.length
 | .osl _ _ lo hi => some ((hi : Int) - lo)
 | _ => none
def optInt : Bool → List AV → Int → Option (Int × List AV)
 | false, l, n => some (n, l)
 | true, .d (.int _ n) :: l, _ => some (n, l)
 | true, _, _ => none
def bounds (lo hi : Bool) (xs : List AV) (len : Int) : Option (Int × Int) :=
 match optInt lo xs 0 with
 | some (a, xs) => match optInt hi xs len with
  | some (b, []) => some (a, b)
  | _ => none
 | none => none
def minL : AV → List AV → Option AV
 | .d (.int k a), [] => some (.d (.int k a))
 | .d (.int k a), .d (.int k' b) :: l => match decide (k = k') with
  | true => minL (.d (.int k (imin a b))) l
  | false => none
 | _, _ => none
def maxL : AV → List AV → Option AV
 | .d (.int k a), [] => some (.d (.int k a))
 | .d (.int k a), .d (.int k' b) :: l => match decide (k = k') with
  | true => maxL (.d (.int k (imax a b))) l
  | false => none
 | _, _ => none
def val (h : Heap) : Option AV → Option OR
 | some x => some (.v x h)
 | none => none
def deep (h : Heap) : AV → Option (AV × List Nat)
 | .d v => some (.d v, [])
 | .osl i g lo hi => match h[i]? with
  | some ⟨own, _, .arr nl g' sz rows⟩ => match Nat.beq g g', decide (own = .lent) with
   | true, false => some (.d (slOf nl sz rows lo hi), [i])
   | _, _ => none
  | _ => none
 | .agg cs => (deepL h cs).map fun (cs, l) => (.agg cs, l)
 | .tup vs => (deepL h vs).map fun (vs, l) => (.tup vs, l)
 | .ifc t v => (deep h v).map fun (v, l) => (.ifc t v, l)
 | x => some (x, [])
where deepL (h : Heap) : List AV → Option (List AV × List Nat)
 | [] => some ([], [])
 | x :: l => match deep h x, deepL h l with
  | some (x, a), some (l, b) => some (x :: l, a ++ b)
  | _, _ => none
def freeze (h : Heap) : List Nat → Heap
 | [] => h
 | i :: l => match h[i]? with
  | some o => freeze (h.set i ⟨.frozen, o.ty, o.b⟩) l
  | none => freeze h l
def deepRows (sz : Nat) : Nat → List AV → Option (List (List DV))
 | 0, _ => some []
 | n + 1, cs => match Nat.ble sz cs.length, deepRow (cs.take sz), deepRows sz n (cs.drop sz) with
  | true, some r, some l => some (r :: l)
  | _, _, _ => none
def opSem (h : Heap) : Act → List AV → Option OR
 | .mv, [x] => val h (force x)
 | .pick, [.d (.bool c), a, b] => match c with
  | true => val h (force a)
  | false => val h (force b)
 | .new e zs, [] => some (.v (.ptr h.length 0) (h ++ [⟨.mine, e, .fix zs⟩]))
 | .box e, [x] => match (cellsOf x).all celly with
  | true => some (.v (.ptr h.length 0) (h ++ [⟨.mine, e, .fix (cellsOf x)⟩]))
  | false => none
 | .build z ps, xs => match fill z ps xs with
  | some cs => some (.v (.agg cs) h)
  | none => none
 | .bsl e sz z n ps, xs => match fillRows sz (List.replicate n z) ps xs with
  | some rows => some (.v (.osl h.length 0 0 n) (h ++ [⟨.mine, e, .arr false 0 sz rows⟩]))
  | none => none
 | .load n, [a] => val h (match loadA h n a with | some x => force x | none => none)
 | .store n, [a, x] => match storeA h n x a with
  | some h' => some (.v (.tup []) h')
  | none => none
 | .bslT e sz z n ps, xs => match deep.deepL h xs with
  | some (xs, l) => match fillRows sz (List.replicate n z) ps xs with
   | some rows => some (.v (.osl (freeze h l).length 0 0 n) (freeze h l ++ [⟨.mine, e, .arr false 0 sz rows⟩]))
   | none => none
  | none => none
 | .storeT n, [a, x] => match a with
  | .ept i g r c => match deep h x with
   | some (x, l) => match storeA (freeze h l) n x (.ept i g r c) with
    | some h' => some (.v (.tup []) h')
    | none => none
   | none => none
  | a => match storeA h n x a with
   | some h' => some (.v (.tup []) h')
   | none => none
 | .nilck, [x] => match isNil [] x with
  | some false => val h (force x)
  | _ => none
 | .bin op q, [x, y] => val h (binA h op q x y)
 | .un op, [x] => val h (unA op x)
 | .cvi k, [.d (.int _ n)] => some (.v (.d (.int k (icast k n))) h)
 | .cvs, [.d (.str s)] => some (.v (.d (.str s)) h)
 | .cvu, [.ptr i c] => match h[i]? with
  | some ⟨_, _, .fix cs⟩ => match Nat.blt c cs.length with
   | true => some (.v (.ptr i c) h)
   | false => none
  | _ => none
 | .cvp u n, [.ptr i 0] => match h[i]? with
  | some ⟨_, ty, .fix cs⟩ => match Nat.beq ty u && Nat.beq cs.length n with
   | true => some (.v (.ptr i 0) h)
   | false => none
  | _ => none
 | .s2b e, [.d (.str s)] => some (.v (.osl h.length 0 0 s.length) (h ++ [⟨.mine, e, .arr false 0 1 (s.map byteRow)⟩]))
 | .b2s, [x] => match rowsOf h 1 x with
  | some rows => match textOf rows with
   | some s => some (.v (.d (.str s)) h)
   | none => none
  | none => none
 | .mki t, [x] => val h ((force x).map (.ifc t))
 | .mkf m f nf, xs => some (.v (.fn m f (xs.take nf) (xs.drop nf)) h)
 | .mks e sz bytes z, [.d (.int _ (.ofNat n)), .d (.int _ c)] => match ieq n c, room n bytes with
  | true, true => some (.v (.osl h.length 0 0 n) (h ++ [⟨.mine, e, .arr false 0 sz (List.replicate n z)⟩]))
  | _, _ => none
 | .cuts lo hi, .d (.str s) :: xs => match bounds lo hi xs s.length with
  | some (a, b) => match icut s a b with
   | some s' => some (.v (.d (.str s')) h)
   | none => none
  | none => none
 | .cutr sz lo hi, x :: xs => match x with
  | .d .nilsl => match bounds lo hi xs 0 with
   | some (a, b) => match ieq a 0 && ieq b 0 with
    | true => some (.v (.d .nilsl) h)
    | false => none
   | none => none
  | .d (.sl sz' rows) => match Nat.beq sz sz', bounds lo hi xs rows.length with
   | true, some (a, b) => match icut rows a b with
    | some rows' => some (.v (.d (.sl sz rows')) h)
    | none => none
   | _, _ => none
  | .osl i g l0 h0 => match h[i]? with
   | some ⟨_, _, .arr _ g' sz' _⟩ => match Nat.beq g g' && Nat.beq sz sz', bounds lo hi xs ((h0 : Int) - l0) with
    | true, some (a, b) => match ile 0 a && ile a b && ile b ((h0 : Int) - l0) && (ieq a 0 || ilt a ((h0 : Int) - l0)) with
     | true => some (.v (.osl i g (l0 + a.toNat) (l0 + b.toNat)) h)
     | false => none
    | _, _ => none
   | _ => none
  | _ => none
 | .cuta len sz lo hi, .ptr i c :: xs => match h[i]? with
  | some ⟨own, ty, .fix cs⟩ => match decide (own = .lent), deepRows sz len (cs.drop c), bounds lo hi xs len with
   | false, some rows, some (a, b) => match icut rows a b with
    | some rows' => some (.v (.d (.sl sz rows')) (h.set i ⟨.frozen, ty, .fix cs⟩))
    | none => none
   | _, _, _ => none
  | _ => none
 | .fad off, [.ptr i c] => some (.v (.ptr i (c + off)) h)
 | .fad off, [.ept i g r c] => some (.v (.ept i g r (c + off)) h)
 | .fad off, [.rpt row c] => some (.v (.rpt row (c + off)) h)
 | .fld off n, [.agg cs] => val h (match part cs off n with | some x => force x | none => none)
 | .iad sz, [.d (.sl sz' rows), .d (.int _ n)] => match Nat.beq sz sz', iget rows n with
  | true, some row => some (.v (.rpt row 0) h)
  | _, _ => none
 | .iad sz, [.osl i g lo hi, .d (.int _ n)] => match h[i]? with
  | some ⟨_, _, .arr _ g' sz' rows⟩ => match Nat.beq g g' && Nat.beq sz sz', iget ((rows.take hi).drop lo) n with
   | true, some _ => some (.v (.ept i g (lo + n.toNat) 0) h)
   | _, _ => none
  | _ => none
 | .iadA len sz, [.ptr i c, .d (.int _ n)] => match ile 0 n && ilt n len with
  | true => some (.v (.ptr i (c + n.toNat * sz)) h)
  | false => none
 | .iadA len sz, [.ept i g r c, .d (.int _ n)] => match ile 0 n && ilt n len with
  | true => some (.v (.ept i g r (c + n.toNat * sz)) h)
  | false => none
 | .iadA len sz, [.rpt row c, .d (.int _ n)] => match ile 0 n && ilt n len with
  | true => some (.v (.rpt row (c + n.toNat * sz)) h)
  | false => none
 | .idxs, [.d (.str s), .d (.int _ n)] => match iget s n with
  | some b => some (.v (.d (.int .u8 b.toNat)) h)
  | none => none
 | .idxA len sz n, [.agg cs, .d (.int _ i)] => match ile 0 i && ilt i len with
  | true => val h (match part cs (i.toNat * sz) n with | some x => force x | none => none)
  | false => none
 | .ext i, [.tup vs] => val h (match vs[i]? with | some x => force x | none => none)
 | .tas t ok z, [x] => match x with
  | .ifc t' v => match Nat.beq t t', ok with
   | true, true => (force v).map fun v => .v (.tup [v, B true]) h
   | true, false => val h (force v)
   | false, true => some (.v (.tup [z, B false]) h)
   | false, false => none
  | .d .nili => match ok with
   | true => some (.v (.tup [z, B false]) h)
   | false => none
  | _ => none
 | .call p, .fn m f first cap :: args => match Nat.blt f 1048576 with
  | true => some (.call p m f (first ++ args ++ cap))
  | false => none
 | .callD _, .fn m f first cap :: args => match Nat.blt f 1048576 with
  | true => some (.call false m f (first ++ args ++ cap))
  | false => none
 | .call p, .yld m num i :: args => some (.call p m (1048576 + num) (.yld m num i :: args))
 | .app e sz bytes, [x, y] => match moreOf h sz y with
  | some more => match appA e sz bytes h more x with
   | some (v, h') => some (.v v h')
   | none => none
  | none => none
 | .appT e sz bytes, [x, y] => match truncA h x with
  | some (x, h) => match moreOf h sz y with
   | some more => match appA e sz bytes h more x with
    | some (v, h') => some (.v v h')
    | none => none
   | none => none
  | none => match moreOf h sz y with
   | some more => match appA e sz bytes h more x with
    | some (v, h') => some (.v v h')
    | none => none
   | none => none
 | .appZ e sz bytes z, [.d .nilsl, .d (.int _ (.ofNat n))] => match Nat.blt 0 n, room n bytes with
  | true, true => some (.v (.osl h.length 0 0 n) (h ++ [⟨.mine, e, .arr false 0 sz (List.replicate n z)⟩]))
  | _, _ => none
 | .capn, [.d .nilsl] => some (.v (I 0) h)
 | .lens, [.d (.str s)] => some (.v (I s.length) h)
 | .len, [x] => match lenA x with
  | some n => some (.v (I n) h)
  | none => none
 | .min, x :: xs => val h (minL x xs)
 | .max, x :: xs => val h (maxL x xs)
 | .dfr, .fn m f first cap :: args => match Nat.blt f 1048576 with
  | true => some (.dfr m f (first ++ args ++ cap))
  | false => none
 | .panic, [.ifc t v] => some (.pan (.ifc t v))
 | .recov, [] => some .recov
 | .sdat, [x] => match Nat.beq (nilKind x) 1, isNil h x with
  | true, some true => some (.v (.d .nilp) h)
  | true, some false => match x with
   | .osl i g lo hi => match Nat.blt lo hi with
    | true => some (.v (.ept i g lo 0) h)
    | false => none
   | _ => none
  | _, _ => none
 | .ustr e, [p, .d (.int .i64 n)] => match iz n with
  | true => match p with
   | .d .nilp => some (.v (S []) h)
   | .ept _ _ _ _ => some (.v (S []) h)
   | _ => none
  | false => match p with
   | .ept i g r 0 => match h[i]? with
    | some ⟨.mine, ty, .arr _ g' sz rows⟩ => match Nat.beq g g' && Nat.beq sz 1 && Nat.beq ty e, icut rows r (r + n), roomS n.toNat with
     | true, some part, true => match textOf part with
      | some s => some (.v (S s) (h.set i ⟨.mine, ty, .arr true (g + 1) 1 []⟩))
      | none => none
     | _, _, _ => none
    | _ => none
   | _ => none
 | _, _ => none
def refs : AV → List Nat
 | .ptr i _ => [i]
 | .ept i _ _ _ => [i]
 | .osl i _ _ _ => [i]
 | .agg cs => refsL cs
 | .tup vs => refsL vs
 | .fn _ _ a b => refsL a ++ refsL b
 | .yld _ _ i => [i]
 | .ifc _ v => refs v
 | _ => []
where refsL : List AV → List Nat
 | [] => []
 | x :: l => refs x ++ refsL l
def refsO : OB → List Nat
 | .fix cs => refs.refsL cs
 | .lp _ _ cs => refs.refsL cs
 | .arr .. => []
def memb (i : Nat) : List Nat → Bool
 | [] => false
 | j :: l => match Nat.beq i j with
  | true => true
  | false => memb i l
def reach (h : Heap) : Nat → List Nat → List Nat → Option (List Nat)
 | _, [], acc => some acc
 | 0, _ :: _, _ => none
 | n + 1, i :: todo, acc =>
  match memb i acc with
  | true => reach h n todo acc
  | false => match h[i]? with
   | some o => reach h n (todo ++ refsO o.b) (acc ++ [i])
   | none => none
def place (i : Nat) : List Nat → Option Nat
 | [] => none
 | j :: l => match Nat.beq i j with
  | true => some 0
  | false => match place i l with
   | some k => some (k + 1)
   | none => none
def ren (m : Nat → Option Nat) : AV → Option AV
 | .d v => some (.d v)
 | .ptr i c => (m i).map (.ptr · c)
 | .ept i g r c => (m i).map (.ept · g r c)
 | .rpt r c => some (.rpt r c)
 | .osl i g lo hi => (m i).map (.osl · g lo hi)
 | .agg cs => (renL m cs).map .agg
 | .tup vs => (renL m vs).map .tup
 | .fn md f a b => match renL m a, renL m b with
  | some a, some b => some (.fn md f a b)
  | _, _ => none
 | .yld md num i => (m i).map (.yld md num ·)
 | .ifc t v => (ren m v).map (.ifc t)
 | .junk => some .junk
where renL (m : Nat → Option Nat) : List AV → Option (List AV)
 | [] => some []
 | x :: l => match ren m x, renL m l with
  | some x, some l => some (x :: l)
  | _, _ => none
def renO (m : Nat → Option Nat) : OB → Option OB
 | .fix cs => (ren.renL m cs).map .fix
 | .lp num s cs => (ren.renL m cs).map (.lp num s)
 | .arr nl g sz rows => some (.arr nl g sz rows)
def renH (m : Nat → Option Nat) (own : Own → Own) : Heap → Option Heap
 | [] => some []
 | o :: l => match renO m o.b, renH m own l with
  | some b, some l => some (⟨own o.own, o.ty, b⟩ :: l)
  | _, _ => none
def gather (h : Heap) : List Nat → Option Heap
 | [] => some []
 | i :: l => match h[i]?, gather h l with
  | some o, some l => some (o :: l)
  | _, _ => none
def lend : Own → Own
 | .frozen => .frozen
 | _ => .lent
inductive CR where
 | ret (v : AV)
 | pan (v : AV)
 deriving Inhabited
inductive Rec where
 | no
 | calm
 | live (v : AV)
 | took
 | rnd
 deriving Inhabited
structure CRes where
 r : CR
 h : Heap
 rc : Rec
 deriving Inhabited
abbrev CallF := Nat → List AV → Heap → Rec → Option CRes
def CR.val : CR → AV
 | .ret v => v
 | .pan v => v
def CR.map (f : AV → Option AV) : CR → Option CR
 | .ret v => (f v).map .ret
 | .pan v => (f v).map .pan
def deepOwn (n : Nat) (h : Heap) : AV → Option AV
 | .d v => some (.d v)
 | .osl i g lo hi => match Nat.blt i n with
  | true => some (.osl i g lo hi)
  | false => (deep h (.osl i g lo hi)).map (·.1)
 | .ptr i c => match Nat.blt i n with
  | true => some (.ptr i c)
  | false => none
 | .ept i g r c => match Nat.blt i n with
  | true => some (.ept i g r c)
  | false => none
 | .rpt r c => some (.rpt r c)
 | .agg cs => (deepOwnL n h cs).map .agg
 | .tup vs => (deepOwnL n h vs).map .tup
 | .fn m f a b => match deepOwnL n h a, deepOwnL n h b with
  | some a, some b => some (.fn m f a b)
  | _, _ => none
 | .yld m num i => match Nat.blt i n with
  | true => some (.yld m num i)
  | false => none
 | .ifc t v => (deepOwn n h v).map (.ifc t)
 | .junk => some .junk
where deepOwnL (n : Nat) (h : Heap) : List AV → Option (List AV)
 | [] => some []
 | x :: l => match deepOwn n h x, deepOwnL n h l with
  | some x, some l => some (x :: l)
  | _, _ => none
def deepOwnH (n : Nat) (h : Heap) : Heap → Option Heap
 | [] => some []
 | ⟨own, ty, .fix cs⟩ :: l => match deepOwn.deepOwnL n h cs, deepOwnH n h l with
  | some cs, some l => some (⟨own, ty, .fix cs⟩ :: l)
  | _, _ => none
 | ⟨own, ty, .lp num s cs⟩ :: l => match deepOwn.deepOwnL n h cs, deepOwnH n h l with
  | some cs, some l => some (⟨own, ty, .lp num s cs⟩ :: l)
  | _, _ => none
 | o :: l => match deepOwnH n h l with
  | some l => some (o :: l)
  | none => none
def joinOwn : Own → Own → Own
 | _, .frozen => .frozen
 | a, _ => a
def putBack (h : Heap) : List Nat → Heap → Option Heap
 | [], [] => some h
 | i :: is, o :: os => match h[i]? with
  | some o' => putBack (h.set i ⟨joinOwn o'.own o.own, o.ty, o.b⟩) is os
  | none => none
 | _, _ => none
structure Handed where
 args : List AV
 h : Heap
 fp : List Nat
 told : List Nat
 deriving Inhabited
def disj (l : List Nat) : List Nat → Bool
 | [] => true
 | i :: r => match memb i l with
  | true => false
  | false => disj l r
def handRest (own : Own → Own) (h : Heap) (args : List AV) (told : List Nat) : Option Handed :=
 match reach h 100 (refs.refsL args) [] with
 | some fp => match disj fp told, gather h fp, ren.renL (place · fp) args with
  | true, some g, some args => match renH (place · fp) own g with
   | some g => some ⟨args, g, fp, told⟩
   | none => none
  | _, _, _ => none
 | none => none
def hand (m : Mode) (h : Heap) (args : List AV) : Option Handed :=
 match m with
 | .pure => match deep.deepL h args with
  | some (args, told) => handRest lend h args told
  | none => none
 | .drop => handRest id h args []
 | .opn => handRest id h args []
def loose : AV → Bool
 | .d (.sl _ _) => false
 | .d _ => true
 | .agg cs => looseL cs
 | .tup vs => looseL vs
 | .ifc _ v => loose v
 | _ => false
where looseL : List AV → Bool
 | [] => true
 | x :: l => loose x && looseL l
def Rec.loose : Rec → Bool
 | .live v => Ab.loose v
 | _ => true
def opnum (n : Nat) (fp : List Nat) (m : Nat) (k : Nat) : Option Nat :=
 match fp[k]? with
 | some i => some i
 | none => match Nat.blt k m with
  | true => some (n + (k - fp.length))
  | false => none
def back (m : Mode) (h : Heap) (x : Handed) (r : CRes) : Option CRes :=
 match m with
 | .pure => match r.r.map (deepOwn 0 r.h) with
  | some c => match Ab.loose c.val, x.told with
   | false, _ :: _ => some ⟨c, freeze h x.told, r.rc⟩
   | _, _ => some ⟨c, h, r.rc⟩
  | none => none
 | .drop => match r.r.map (deepOwn x.fp.length r.h), deepOwnH x.fp.length r.h (r.h.take x.fp.length) with
  | some c, some g => match renH (x.fp[·]?) id g, c.map (ren (x.fp[·]?)) with
   | some g, some c => match putBack h x.fp g with
    | some h => some ⟨c, h, r.rc⟩
    | none => none
   | _, _ => none
  | _, _ => none
 | .opn => match renH (opnum h.length x.fp r.h.length) id r.h, r.r.map (ren (opnum h.length x.fp r.h.length)) with
  | some g, some c => match putBack h x.fp (g.take x.fp.length) with
   | some h' => some ⟨c, h' ++ g.drop x.fp.length, r.rc⟩
   | none => none
  | _, _ => none
structure St where
 fr : Nat → AV
 h : Heap
 ds : List (Mode × Nat × List AV)
 rc : Rec
 n0 : Nat
inductive Ex where
 | nor
 | exit (id : Nat)
 | ret
 | pan (v : AV)
 deriving Inhabited
def upd (f : Nat → AV) (t : Nat) (v : AV) : Nat → AV := fun x => match Nat.beq x t with
 | true => v
 | false => f x
def put (f : Nat → AV) : Option Nat → AV → Nat → AV
 | some t, v => upd f t v
 | none, _ => f
def ev (f : Nat → AV) : Opd → AV
 | .t i => f i
 | .k v => v
def evs (f : Nat → AV) : List Opd → List AV
 | [] => []
 | x :: l => ev f x :: evs f l
def wanted (want : Bool) : AV → Option Bool
 | .d (.bool b) => match want with
  | true => some b
  | false => some (!b)
 | .tup [] => some false
 | _ => none
def look : List (Nat × AV) → Nat → AV
 | [], _ => .junk
 | (u, v) :: l, t => match Nat.beq t u with
  | true => v
  | false => look l t
def gcv (fp : List Nat) (fr : Nat → AV) : List Nat → Option (List (Nat × AV))
 | [] => some []
 | t :: l => match ren (place · fp) (fr t), gcv fp fr l with
  | some v, some r => some ((t, v) :: r)
  | _, _ => none
def gcd (fp : List Nat) : List (Mode × Nat × List AV) → Option (List (Mode × Nat × List AV))
 | [] => some []
 | (m, f, args) :: l => match ren.renL (place · fp) args, gcd fp l with
  | some args, some r => some ((m, f, args) :: r)
  | _, _ => none
def preOk : Nat → List Nat → Bool
 | 0, _ => true
 | n + 1, fp => preOk n fp && (match fp[n]? with
  | some i => Nat.beq i n
  | none => false)
def frRefs (fr : Nat → AV) : List Nat → List Nat
 | [] => []
 | t :: l => refs (fr t) ++ frRefs fr l
def dsRefs : List (Mode × Nat × List AV) → List Nat
 | [] => []
 | (_, _, args) :: l => refs.refsL args ++ dsRefs l
def upto : Nat → List Nat
 | 0 => []
 | n + 1 => upto n ++ [n]
def gc (keep : List Nat) (st : St) : Option St :=
 match reach st.h 1000 (upto st.n0 ++ frRefs st.fr keep ++ dsRefs st.ds) [] with
 | some fp => match preOk st.n0 fp, gather st.h fp, gcv fp st.fr keep, gcd fp st.ds with
  | true, some g, some vs, some ds => match renH (place · fp) id g with
   | some g => some ⟨look vs, g, ds, st.rc, st.n0⟩
   | none => none
  | _, _, _, _ => none
 | none => none
structure Ext where
 call : CallF
 loop : List Nat → CC → St → Option (Ex × St)
def callM (X : CallF) (p : Bool) (m : Mode) (f : Nat) (args : List AV) (h : Heap) (rc : Rec) : Option CRes :=
 match p, m with
 | true, .drop => none
 | true, .opn => none
 | _, m => match hand m h args with
  | some x => match rc.loose with
   | false => none
   | true => match X f x.args x.h rc with
    | some r => match back m h x r with
     | some q => match p, x.told, Ab.loose q.r.val with
      | true, _ :: _, false => none
      | _, _, _ => some q
     | none => none
    | none => none
  | none => none
def offA (fp : List Nat) : AV → Bool
 | .ptr i _ => !memb i fp
 | .ept i _ _ _ => !memb i fp
 | .osl i _ _ _ => !memb i fp
 | .rpt _ _ => true
 | .d _ => true
 | _ => false
def offs (fr : Nat → AV) (fp : List Nat) : List Nat → Bool
 | [] => true
 | t :: l => match offA fp (fr t) with
  | true => offs fr fp l
  | false => false
def clearL (fr : Nat → AV) (h : Heap) (xs : List AV) : List Nat → Bool
 | [] => true
 | ls => match xs with
  | .fn _ _ first cap :: args => match reach h 100 (refs.refsL (first ++ args ++ cap)) [] with
   | some fp => offs fr fp ls
   | none => false
  | _ => false
def clearI (act : Act) (fr : Nat → AV) (h : Heap) (xs : List AV) : Bool := match act with
 | .callD ls => clearL fr h xs ls
 | _ => true
def isD : Act → Bool
 | .callD _ => true
 | _ => false
def stepI (X : Ext) (draw : Bool) (i : Ins) (st : St) : Option (Ex × St) :=
 match clearI i.act st.fr st.h (evs st.fr i.xs) with
 | false => none
 | true => match opSem st.h i.act (evs st.fr i.xs) with
  | some (.v x h) => some (.nor, { st with fr := put st.fr i.dst x, h := h })
  | some (.pan x) => match draw with
   | true => none
   | false => some (.pan x, st)
  | some (.call p m f args) => match callM X.call p m f args st.h .no with
   | some ⟨.ret x, h, _⟩ => some (.nor, { st with fr := put st.fr i.dst x, h := h })
   | some ⟨.pan x, h, _⟩ => match draw, isD i.act with
    | true, false => none
    | _, _ => some (.pan x, { st with h := h })
   | none => none
  | some (.dfr m f args) => match draw, st.rc with
   | true, _ => none
   | false, .rnd => none
   | false, _ => some (.nor, { st with fr := put st.fr i.dst (.tup []), ds := (m, f, args) :: st.ds })
  | some .recov => match draw, st.rc with
   | true, _ => none
   | false, .rnd => none
   | false, .live v => some (.nor, { st with fr := put st.fr i.dst v, rc := .took })
   | false, _ => some (.nor, { st with fr := put st.fr i.dst (.d .nili) })
  | none => none
def guarded (i : Ins) (st : St) : Option Bool :=
 match i.gd with
 | none => some true
 | some (g, w) => wanted w (st.fr g)
def runI (X : Ext) (draw : Bool) : List Ins → St → Option (Ex × St)
 | [], st => some (.nor, st)
 | i :: is, st => match guarded i st with
  | some true => match stepI X draw i st with
   | some (.nor, st) => runI X draw is st
   | r => r
  | some false => runI X draw is { st with fr := put st.fr i.dst (.tup []) }
  | none => none
def apart (x : AV) (n : Nat) (y : AV) (m : Nat) : Bool :=
 match x, y with
 | .rpt _ _, _ => true
 | .ptr i c, .ptr j d => match Nat.beq i j with
  | true => Nat.ble (c + n) d || Nat.ble (d + m) c
  | false => true
 | .ptr i _, .ept j _ _ _ => !Nat.beq i j
 | .ept i _ _ _, .ptr j _ => !Nat.beq i j
 | .ept i _ r _, .ept j _ s _ => !Nat.beq i j || !Nat.beq r s
 | .ptr _ _, .osl _ _ _ _ => true
 | .ept i _ _ _, .osl j _ _ _ => !Nat.beq i j
 | .ptr _ _, .d _ => true
 | .d _, _ => true
 | .osl i _ _ _, .osl j _ _ _ => !Nat.beq i j
 | .osl _ _ _ _, .d _ => true
 | _, _ => false
def checks (f : Nat → AV) : List (Nat × Nat × Nat × Nat) → Bool
 | [] => true
 | (t, n, u, m) :: l => match apart (f t) n (f u) m with
  | true => checks f l
  | false => false
def evT (fr : Nat → AV) : List Nat → List AV
 | [] => []
 | t :: l => fr t :: evT fr l
def rngEnd (i : Nat) (h : Heap) : Option (Ex × Heap) :=
 match h[i]? with
 | some ⟨.mine, ty, .lp num s _⟩ => match s with
  | 0 => some (.nor, h.set i ⟨.mine, ty, .lp num 3 []⟩)
  | 2 => some (.ret, h.set i ⟨.mine, ty, .lp num 3 []⟩)
  | id + 7 => some (.exit id, h.set i ⟨.mine, ty, .lp num 3 []⟩)
  | _ => none
 | _ => none
def rngH (num : Nat) (keep : List Nat) (fr : Nat → AV) (h : Heap) : Heap := h ++ [⟨.mine, 0, .lp 0 5 []⟩, ⟨.mine, 0, .lp num 0 (evT fr keep)⟩]
def rngDs (n : Nat) : Mode × Nat × List AV := (.pure, 2097152, [.yld .pure 0 n])
def junkD : List Ins → (Nat → AV) → Nat → AV
 | [], f => f
 | i :: is, f => put (junkD is f) i.dst .junk
def runC (X : Ext) : CC → St → Option (Ex × St)
 | .skip, st => some (.nor, st)
 | .reg none is, st => runI X false is st
 | .reg (some chk) is, st => match runI X true is st with
  | some (.nor, st) => match checks st.fr chk with
   | true => some (.nor, st)
   | false => none
  | some (.pan v, st) => some (.pan v, { st with fr := junkD is st.fr })
  | _ => none
 | .seq a b, st => match runC X a st with
  | some (.nor, st) => runC X b st
  | r => r
 | .cond c x y, st => match ev st.fr c with
  | .d (.bool true) => runC X x st
  | .d (.bool false) => runC X y st
  | _ => none
 | .block id c, st => match runC X c st with
  | some (.exit id', st) => match Nat.beq id id' with
   | true => some (.nor, st)
   | false => some (.exit id', st)
  | r => r
 | .rng num keep f, st => match ev st.fr f, st.rc with
  | _, .rnd => none
  | .fn m ff first cap, _ => match Nat.blt ff 1048576 with
   | true => match callM X.call false m ff (first ++ [.yld .opn num (st.h.length + 1)] ++ cap) (rngH num keep st.fr st.h) .no with
    | some ⟨.ret _, h, _⟩ => match rngEnd (st.h.length + 1) h with
     | some (ex, h) => some (ex, { st with h := h, ds := rngDs st.h.length :: st.ds })
     | none => none
    | _ => none
   | false => none
  | _, _ => none
 | .loop keep c, st => match gc keep st with
  | some st => X.loop keep c st
  | none => none
 | .fgt keep, st => match gc keep st with
  | some st => some (.nor, st)
  | none => none
 | .exit id, st => some (.exit id, st)
 | .ret, st => some (.ret, st)
 | .bad, _ => none
def takeD (h : Heap) : List AV → Option Heap
 | [.yld _ _ j] => match h[j]? with
  | some ⟨.mine, ty, .lp num 5 _⟩ => some (h.set j ⟨.mine, ty, .lp num 6 []⟩)
  | _ => none
 | _ => none
def unwind (X : CallF) : List (Mode × Nat × List AV) → Option AV → Heap → Option (Option AV × Heap)
 | [], p, h => some (p, h)
 | (m, f, args) :: ds, p, h => match Nat.beq f 2097152 with
  | true => match takeD h args with
   | some h => unwind X ds p h
   | none => none
  | false => match p with
   | none => match callM X false m f args h .calm with
    | some ⟨.ret _, h, .calm⟩ => unwind X ds none h
    | _ => none
   | some v => match callM X false m f args h (.live v) with
    | some ⟨.ret _, h, .took⟩ => unwind X ds none h
    | some ⟨.ret _, h, .live v⟩ => unwind X ds (some v) h
    | _ => none
def readRes (fr : Nat → AV) (h : Heap) : List RV → Option (List AV)
 | [] => some []
 | .tmp t :: l => match force (fr t), readRes fr h l with
  | some x, some l => some (x :: l)
  | _, _ => none
 | .cell a n :: l => match loadA h n (fr a) with
  | some x => match force x, readRes fr h l with
   | some x, some l => some (x :: l)
   | _, _ => none
  | none => none
def oneOf : List AV → AV
 | [x] => x
 | l => .tup l
def finish (X : CallF) (res : List RV) (ex : Ex) (st : St) : Option CRes :=
 match ex with
 | .exit _ => none
 | .pan v => match unwind X st.ds (some v) st.h with
  | some (some v, h) => some ⟨.pan v, h, st.rc⟩
  | some (none, h) => match readRes st.fr h res with
   | some l => some ⟨.ret (oneOf l), h, st.rc⟩
   | none => none
  | none => none
 | _ => match unwind X st.ds none st.h with
  | some (none, h) => match readRes st.fr h res with
   | some l => some ⟨.ret (oneOf l), h, st.rc⟩
   | none => none
  | _ => none
def args0 : List AV → Nat → AV
 | [], _ => .tup []
 | x :: _, 0 => x
 | _ :: l, n + 1 => args0 l n
def zipT : List Nat → List AV → List (Nat × AV) → List (Nat × AV)
 | t :: l, x :: xs, r => (t, x) :: zipT l xs r
 | _, _, r => r
def exNum : Ex → Option Nat
 | .nor => some 0
 | .ret => some 2
 | .exit id => some (id + 7)
 | .pan _ => none
def rndIn (i : Nat) (h : Heap) : Option Heap :=
 match h[i]? with
 | some ⟨.mine, ty, .lp num 0 caps⟩ => some (h.set i ⟨.mine, ty, .lp num 1 caps⟩)
 | _ => none
def rndOut (i : Nat) (ex : Ex) (st : St) : Option CRes :=
 match exNum ex, st.ds, st.h[i]? with
 | some s, [], some ⟨.mine, ty, .lp num 1 caps⟩ => some ⟨.ret (B (Nat.beq s 0)), st.h.set i ⟨.mine, ty, .lp num s caps⟩, .no⟩
 | _, _, _ => none
def bodyR (X : Ext) (rf : RFn) (f : Nat) (args : List AV) (h : Heap) (rc : Rec) : Option CRes :=
 match rc, args with
 | .no, .yld _ num i :: rest => match h[i]? with
  | some ⟨.mine, _, .lp _ 0 caps⟩ => match Nat.beq f (1048576 + num) && Nat.beq rest.length rf.ps.length && Nat.beq caps.length rf.keep.length with
   | true => match runC X rf.assign ⟨look (zipT rf.ps rest (zipT rf.keep caps [])), h, [], .rnd, h.length⟩ with
    | some (.nor, st) => match rndIn i st.h with
     | some h => match runC X rf.body { st with h := h } with
      | some (ex, st) => rndOut i ex st
      | none => none
     | none => none
    | _ => none
   | false => none
  | _ => none
 | _, _ => none
def bodyF (F : Nat → Option Fn) (X : Ext) : CallF := fun f args h rc =>
 match F f with
 | none => none
 | some (.round rf) => bodyR X rf f args h rc
 | some (.known g) => match rc, g args with
  | .no, some v => some ⟨.ret v, h, .no⟩
  | _, _ => none
 | some (.code cf) => match runC X cf.body ⟨args0 args, h, [], rc, h.length⟩ with
  | some (ex, st) => finish X.call cf.res ex st
  | none => none
def loopF (X : Ext) (keep : List Nat) (c : CC) (st : St) : Option (Ex × St) :=
 match runC X c st with
 | some (.nor, st) => match gc keep st with
  | some st => X.loop keep c st
  | none => none
 | r => r
def ext (F : Nat → Option Fn) : Nat → Ext
 | 0 => ⟨fun _ _ _ _ => none, fun _ _ _ => none⟩
 | n + 1 => ⟨bodyF F (ext F n), loopF (ext F n)⟩
end Go.Proofs.YtlhajccbfapieaaGreatDoor.Ab
