import GoSem.Step
set_option linter.constructorNameAsVariable false
set_option linter.unusedVariables false
set_option linter.unusedSimpArgs false
set_option linter.unusedVariables false
set_option linter.unusedSimpArgs false
namespace Go.AM
inductive Own where
  | nl | ex | ro | tok (t : Nat)
def eqo : Own → Own → Bool
  | .nl, .nl => true
  | .ex, .ex => true
  | .ro, .ro => true
  | .tok a, .tok b => a.beq b
  | _, _ => false
def _root_.Go.IntKind.toNat : IntKind → Nat
  | .i8 => 0 | .i16 => 1 | .i32 => 2 | .i64 => 3 | .u8 => 4 | .u16 => 5 | .u32 => 6 | .u64 => 7
inductive Val where
  | unk
  | bool (b : Bool)
  | int (k : IntKind) (n : Int)
  | str (s : List UInt8)
  | nilp
  | ptr (b o : Nat)
  | ep (cs : List Val)
  | sl (w : Own) (z : Nat) (l : List Val)
  | ms (b o n c z : Nat)
  | func (f : Nat) (cs : List Val)
  | agg (l : List Val)
  | tup (l : List Val)
  | iface (t : Nat) (v : Val)
  | nili
  | map (b : Nat)
  | nilm
  | nilf
  deriving Inhabited
inductive Blk where
  | cells (l : List Val)
  | tok (n : Nat)
  | map (l : List (Val × Val))
inductive Tr where
  | nil
  | node (v : Option Blk) (l r : Tr)
def Tr.get : Tr → Nat → Option Blk
  | .nil, _ => none
  | .node v l r, n => bif n.beq 0 then v else bif (n % 2).beq 1 then l.get (n / 2) else r.get (n / 2 - 1)
def Tr.setF : Nat → Tr → Nat → Option Blk → Tr
  | 0, t, _, _ => t
  | k + 1, .nil, n, x => bif n.beq 0 then .node x .nil .nil else bif (n % 2).beq 1 then .node none (Tr.setF k .nil (n / 2) x) .nil else .node none .nil (Tr.setF k .nil (n / 2 - 1) x)
  | k + 1, .node v l r, n, x => bif n.beq 0 then .node x l r else bif (n % 2).beq 1 then .node v (Tr.setF k l (n / 2) x) r else .node v l (Tr.setF k r (n / 2 - 1) x)
structure Heap where
  m : Tr
  next : Nat
def Heap.blk (h : Heap) (b : Nat) : Option Blk := h.m.get b
def Heap.put (h : Heap) (b : Nat) (x : Blk) : Heap := { h with m := Tr.setF (b + 1) h.m b (some x) }
def Heap.add (h : Heap) (x : Blk) : Heap := { m := Tr.setF (h.next + 1) h.m h.next (some x), next := h.next + 1 }
abbrev R := Option (Val × Heap)
def cells : Val → List Val
  | .agg l => l
  | .unk => []
  | .tup _ => []
  | v => [v]
def mk (agg : Bool) (cs : List Val) : Val :=
  match agg, cs with
  | true, l => .agg l
  | false, [v] => v
  | _, _ => .unk
def takeN : Nat → List Val → Option (List Val)
  | 0, _ => some []
  | n + 1, x :: l => (takeN n l).map (x :: ·)
  | _ + 1, [] => none
def dropN : Nat → List Val → Option (List Val)
  | 0, l => some l
  | n + 1, _ :: l => dropN n l
  | _ + 1, [] => none
def nthN : Nat → List Val → Option Val
  | 0, x :: _ => some x
  | n + 1, _ :: l => nthN n l
  | _, [] => none
def putN : Nat → List Val → List Val → Option (List Val)
  | 0, [], l => some l
  | 0, x :: xs, _ :: l => (putN 0 xs l).map (x :: ·)
  | n + 1, xs, y :: l => (putN n xs l).map (y :: ·)
  | _, _, [] => none
def Heap.at (h : Heap) (b o n : Nat) : Option (List Val) :=
  match h.blk b with
  | some (.cells l) => (dropN o l).bind (takeN n)
  | _ => none
def Heap.set (h : Heap) (b o : Nat) (xs : List Val) : Option Heap :=
  match h.blk b with
  | some (.cells l) => (putN o xs l).map fun l => h.put b (.cells l)
  | _ => none
def pickC (c a b : Val) (K : Val → R) : R :=
  match c with
  | .bool c => K (bif c then a else b)
  | _ => none
def allocC (cs : List Val) (h : Heap) (K : Val → Heap → R) : R := K (.ptr h.next 0) (h.add (.cells cs))
def ldC (agg : Bool) (n : Nat) (p : Val) (h : Heap) (K : Val → R) : R :=
  match p with
  | .ptr b o => match h.at b o n with
    | some cs => K (mk agg cs)
    | none => none
  | .ep cs => match takeN n cs with
    | some cs => K (mk agg cs)
    | none => none
  | _ => none
def stC (n : Nat) (p x : Val) (h : Heap) (K : Heap → R) : R :=
  match p with
  | .ptr b o => bif (cells x).length.beq n then (match h.set b o (cells x) with
    | some h => K h
    | none => none) else none
  | _ => none
def nilC (p : Val) (K : Val → R) : R :=
  match p with
  | .ptr b o => K (.ptr b o)
  | .ep cs => K (.ep cs)
  | .func f cs => K (.func f cs)
  | _ => none
def faC (off : Nat) (p : Val) (K : Val → R) : R :=
  match p with
  | .ptr b o => K (.ptr b (o + off))
  | .ep cs => match dropN off cs with
    | some cs => K (.ep cs)
    | none => none
  | _ => none
inductive IOp where
  | add | sub | mul | quo | rem | and | or | xor | andNot | shl | shr
def iop (op : IOp) (k : IntKind) (x y : Int) : Option Int :=
  match op with
  | .add => some (k.wrap (x + y))
  | .sub => some (k.wrap (x - y))
  | .mul => some (k.wrap (x * y))
  | .quo => bif y == 0 then none else some (k.wrap (x.tdiv y))
  | .rem => bif y == 0 then none else some (x.tmod y)
  | .and => some (k.wrap ((BitVec.ofInt k.bits x &&& BitVec.ofInt k.bits y).toNat))
  | .or => some (k.wrap ((BitVec.ofInt k.bits x ||| BitVec.ofInt k.bits y).toNat))
  | .xor => some (k.wrap ((BitVec.ofInt k.bits x ^^^ BitVec.ofInt k.bits y).toNat))
  | .andNot => some (k.wrap ((BitVec.ofInt k.bits x &&& ~~~ BitVec.ofInt k.bits y).toNat))
  | .shl => bif decide (y < 0) then none else some (k.wrap (x * 2 ^ (min y.toNat k.bits)))
  | .shr => bif decide (y < 0) then none else some (x.fdiv (2 ^ (min y.toNat k.bits)))
def biC (op : IOp) (x y : Val) (K : Val → R) : R :=
  match x, y with
  | .int k a, .int j b => bif k.toNat.beq j.toNat then (match iop op k a b with
    | some n => K (.int k n)
    | none => none) else none
  | _, _ => none
def shC (op : IOp) (x y : Val) (K : Val → R) : R :=
  match x, y with
  | .int k a, .int _ b => match iop op k a b with
    | some n => K (.int k n)
    | none => none
  | _, _ => none
inductive COp where
  | eq | ne | lt | le | gt | ge
def icmp (op : COp) (x y : Int) : Bool :=
  match op with
  | .eq => x == y
  | .ne => x != y
  | .lt => decide (x < y)
  | .le => decide (x ≤ y)
  | .gt => decide (x > y)
  | .ge => decide (x ≥ y)
def eqB : List UInt8 → List UInt8 → Bool
  | [], [] => true
  | a :: x, b :: y => a.toNat.beq b.toNat && eqB x y
  | _, _ => false
def ltB : List UInt8 → List UInt8 → Bool
  | _, [] => false
  | [], _ :: _ => true
  | a :: x, b :: y => a.toNat.blt b.toNat || (a.toNat.beq b.toNat && ltB x y)
def scmp (op : COp) (x y : List UInt8) : Bool :=
  match op with
  | .eq => eqB x y
  | .ne => !eqB x y
  | .lt => ltB x y
  | .le => ltB x y || eqB x y
  | .gt => !(ltB x y || eqB x y)
  | .ge => !ltB x y
inductive CK where
  | b | i | s | p | l | n | f | m
def eqk : CK → Val → Val → Option Bool
  | .b, .bool a, .bool b => some (a == b)
  | .i, .int k a, .int j b => bif k.toNat.beq j.toNat then some (a == b) else none
  | .s, .str a, .str b => some (eqB a b)
  | .p, .nilp, .nilp => some true
  | .p, .nilp, .ptr _ _ => some false
  | .p, .ptr _ _, .nilp => some false
  | .l, .sl .nl _ _, .sl .nl _ _ => some true
  | .l, .sl .ex _ _, .sl .nl _ _ => some false
  | .l, .sl .ro _ _, .sl .nl _ _ => some false
  | .l, .sl (.tok _) _ _, .sl .nl _ _ => some false
  | .l, .ms _ _ _ _ _, .sl .nl _ _ => some false
  | .n, .nili, .nili => some true
  | .n, .nili, .iface _ _ => some false
  | .n, .iface _ _, .nili => some false
  | .f, .nilf, .nilf => some true
  | .f, .nilf, .func _ _ => some false
  | .f, .func _ _, .nilf => some false
  | .m, .nilm, .nilm => some true
  | .m, .map _, .nilm => some false
  | .m, .nilm, .map _ => some false
  | _, _, _ => none
def eqks : List CK → List Val → List Val → Option Bool
  | [], [], [] => some true
  | k :: ks, a :: x, b :: y => match eqk k a b with
    | some p => match eqks ks x y with
      | some q => some (p && q)
      | none => none
    | none => none
  | _, _, _ => none
def cmC (op : COp) (x y : Val) (K : Val → R) : R :=
  match x, y with
  | .int k a, .int j b => bif k.toNat.beq j.toNat then K (.bool (icmp op a b)) else none
  | .str a, .str b => K (.bool (scmp op a b))
  | _, _ => none
def ceaC (ks : List CK) (ne : Bool) (x y : Val) (K : Val → R) : R :=
  match x, y with
  | .agg a, .agg b => match eqks ks a b with
    | some c => K (.bool (c != ne))
    | none => none
  | _, _ => none
def ceC (k : CK) (ne : Bool) (x y : Val) (K : Val → R) : R :=
  match eqk k x y with
  | some c => K (.bool (c != ne))
  | none => none
def cssC (x : Val) (K : Val → R) : R := match x with | .str s => K (.str s) | _ => none
def addSC (x y : Val) (K : Val → R) : R :=
  match x, y with
  | .str a, .str b => bif decide (a.length + b.length ≤ 4611686018427387904) then K (.str (a ++ b)) else none
  | _, _ => none
def notC (x : Val) (K : Val → R) : R := match x with | .bool b => K (.bool (!b)) | _ => none
def negC (x : Val) (K : Val → R) : R := match x with | .int k n => K (.int k (k.wrap (0 - n))) | _ => none
def cplC (x : Val) (K : Val → R) : R := match x with
  | .int k n => K (.int k (k.wrap ((BitVec.ofInt k.bits (if k.signed then -1 else k.max) ^^^ BitVec.ofInt k.bits n).toNat)))
  | _ => none
def cviC (k : IntKind) (x : Val) (K : Val → R) : R := match x with | .int _ n => K (.int k (k.wrap n)) | _ => none
def byteOf : Val → Option UInt8
  | .int .u8 n => some (UInt8.ofNat n.toNat)
  | _ => none
def bytesOf : List Val → Option (List UInt8)
  | [] => some []
  | v :: l => match byteOf v, bytesOf l with
    | some b, some r => some (b :: r)
    | _, _ => none
def ofBytes (l : List UInt8) : List Val := l.map fun b => .int .u8 b.toNat
def cvsC (x : Val) (h : Heap) (K : Val → R) : R :=
  match x with
  | .sl _ _ l => match bytesOf l with
    | some s => K (.str s)
    | none => none
  | .ms b o n _ _ => match (h.at b o n).bind bytesOf with
    | some s => K (.str s)
    | none => none
  | _ => none
def cvbC (x : Val) (h : Heap) (K : Val → Heap → R) : R :=
  match x with
  | .str s => K (.ms h.next 0 s.length s.length 1) (h.add (.cells (ofBytes s)))
  | _ => none
def bnd (lo : Nat) (hi : Nat) (x : Val) : Option Nat :=
  match x with
  | .int _ n => bif decide ((lo : Int) ≤ n) && decide (n ≤ (hi : Int)) then some n.toNat else none
  | _ => none
def obnd (lo hi dflt : Nat) (x : Option Val) : Option Nat :=
  match x with
  | none => some dflt
  | some v => bnd lo hi v
def takeB : Nat → List UInt8 → List UInt8
  | n + 1, x :: l => x :: takeB n l
  | _, _ => []
def dropB : Nat → List UInt8 → List UInt8
  | n + 1, _ :: l => dropB n l
  | _, l => l
def slsC (x : Val) (lo hi : Option Val) (K : Val → R) : R :=
  match x with
  | .str s => match obnd 0 s.length s.length hi with
    | some b => match obnd 0 b 0 lo with
      | some a => K (.str (dropB a (takeB b s)))
      | none => none
    | none => none
  | _ => none
def ownSl : Own → Option Val → Own
  | .nl, _ => .nl
  | .ex, none => .ex
  | _, _ => .ro
def ownSx : Own → Own
  | .nl => .nl
  | _ => .ex
def sllC (z : Nat) (x : Val) (lo hi : Option Val) (K : Val → R) : R :=
  match x with
  | .sl w z' l => bif z.beq z' then (match obnd 0 l.length l.length hi with
    | some b => match obnd 0 b 0 lo, takeN b l with
      | some a, some l' => match dropN a l' with
        | some l'' => K (.sl (ownSl w hi) z l'')
        | none => none
      | _, _ => none
    | none => none) else none
  | .ms b o n c z' => bif z.beq z' then (match obnd 0 c n hi with
    | some e => match obnd 0 e 0 lo with
      | some a => bif e.ble c then (bif a.beq c then K (.sl .ro z []) else K (.ms b (o + a * z) (e - a) (c - a) z)) else none
      | none => none
    | none => none) else none
  | _ => none
def slxC (z : Nat) (x : Val) (lo : Option Val) (hi mx : Val) (K : Val → R) : R :=
  match x with
  | .sl w z' l => bif z.beq z' then (match bnd 0 l.length hi with
    | some b => match obnd 0 b 0 lo, bnd b b mx, takeN b l with
      | some a, some _, some l' => match dropN a l' with
        | some l'' => K (.sl (ownSx w) z l'')
        | none => none
      | _, _, _ => none
    | none => none) else none
  | _ => none
def slaC (n z : Nat) (x : Val) (lo hi : Option Val) (K : Val → R) : R :=
  match x with
  | .ptr b o => match obnd 0 n n hi with
    | some e => match obnd 0 e 0 lo with
      | some a => bif a.beq n then K (.sl .ex z []) else K (.ms b (o + a * z) (e - a) (n - a) z)
      | none => none
    | none => none
  | _ => none
def ixpC (n z : Nat) (x i : Val) (K : Val → R) : R :=
  match x, i with
  | .ptr b o, .int _ m => bif decide (0 ≤ m) && decide (m < (n : Int)) then K (.ptr b (o + m.toNat * z)) else none
  | .ep cs, .int _ m => bif decide (0 ≤ m) && decide (m < (n : Int)) then (match dropN (m.toNat * z) cs with
    | some cs => K (.ep cs)
    | none => none) else none
  | _, _ => none
def ixsC (z : Nat) (x i : Val) (K : Val → R) : R :=
  match x, i with
  | .ms b o n _ z', .int _ m => bif z.beq z' && decide (0 ≤ m) && decide (m < (n : Int)) then K (.ptr b (o + m.toNat * z)) else none
  | .sl _ z' l, .int _ m => bif z.beq z' && decide (0 ≤ m) then (match nthN m.toNat l with
    | some v => K (.ep (cells v))
    | none => none) else none
  | _, _ => none
def nthB : Nat → List UInt8 → Option UInt8
  | 0, x :: _ => some x
  | n + 1, _ :: l => nthB n l
  | _, [] => none
def ixtC (x i : Val) (K : Val → R) : R :=
  match x, i with
  | .str s, .int _ m => bif decide (0 ≤ m) then (match nthB m.toNat s with
    | some b => K (.int .u8 b.toNat)
    | none => none) else none
  | _, _ => none
def ixaC (agg : Bool) (n z : Nat) (x i : Val) (K : Val → R) : R :=
  match x, i with
  | .agg l, .int _ m => bif decide (0 ≤ m) && decide (m < (n : Int)) then (match (dropN (m.toNat * z) l).bind (takeN z) with
    | some cs => K (mk agg cs)
    | none => none) else none
  | _, _ => none
def fdC (agg : Bool) (off n : Nat) (x : Val) (K : Val → R) : R :=
  match x with
  | .agg l => match (dropN off l).bind (takeN n) with
    | some cs => K (mk agg cs)
    | none => none
  | _ => none
def exC (i : Nat) (x : Val) (K : Val → R) : R :=
  match x with
  | .tup l => match nthN i l with
    | some v => K v
    | none => none
  | _ => none
def lensC (x : Val) (K : Val → R) : R :=
  match x with
  | .str s => K (.int .i64 s.length)
  | _ => none
def lenlC (x : Val) (K : Val → R) : R :=
  match x with
  | .sl _ _ l => K (.int .i64 l.length)
  | .ms _ _ n _ _ => K (.int .i64 n)
  | _ => none
def lenmC (x : Val) (h : Heap) (K : Val → R) : R :=
  match x with
  | .nilm => K (.int .i64 0)
  | .map b => match h.blk b with
    | some (.map l) => K (.int .i64 l.length)
    | _ => none
  | _ => none
def capC (x : Val) (K : Val → R) : R :=
  match x with
  | .sl .nl _ _ => K (.int .i64 0)
  | .sl .ex _ l => K (.int .i64 l.length)
  | _ => none
def elems (agg : Bool) (z : Nat) : Nat → List Val → Option (List Val)
  | 0, [] => some []
  | n + 1, cs => match takeN z cs, dropN z cs with
    | some a, some r => (elems agg z n r).map (mk agg a :: ·)
    | _, _ => none
  | 0, _ :: _ => none
def source (agg : Bool) (z : Nat) (x : Val) (h : Heap) : Option (List Val) :=
  match x with
  | .sl _ z' l => bif z.beq z' then some l else none
  | .ms b o n _ z' => bif z.beq z' then (h.at b o (n * z)).bind (elems agg z n) else none
  | .str s => bif z.beq 1 then some (ofBytes s) else none
  | _ => none
def room : Nat := 2147483648
def appC (agg : Bool) (z : Nat) (s x : Val) (h : Heap) (K : Val → Heap → R) : R :=
  match s, source agg z x h with
  | .sl w z' l, some xs =>
    bif z.beq z' && decide (l.length + xs.length ≤ room) then
      match xs with
      | [] => K (.sl w z l) h
      | x :: xs => match w with
        | .tok t => match h.blk t with
          | some (.tok n) => bif n.beq l.length then K (.sl (.tok t) z (l ++ x :: xs)) (h.put t (.tok (n + xs.length + 1))) else none
          | _ => none
        | .ro => none
        | _ => K (.sl (.tok h.next) z (l ++ x :: xs)) (h.add (.tok (l.length + xs.length + 1)))
    else none
  | _, _ => none
def cpyC (z : Nat) (d x : Val) (h : Heap) (K : Val → Heap → R) : R :=
  match d, source (!z.beq 1) z x h with
  | .ms b o n _ z', some xs =>
    bif z.beq z' then
      match h.set b o ((xs.take n).flatMap cells) with
      | some h => K (.int .i64 ((min xs.length n : Nat) : Int)) h
      | none => none
    else none
  | _, _ => none
def mnC (x y : Val) (K : Val → R) : R := match x, y with | .int k a, .int j b => bif k.toNat.beq j.toNat then K (.int k (bif decide (b < a) then b else a)) else none | _, _ => none
def mxC (x y : Val) (K : Val → R) : R := match x, y with | .int k a, .int j b => bif k.toNat.beq j.toNat then K (.int k (bif decide (b > a) then b else a)) else none | _, _ => none
def reps : Nat → Val → List Val
  | 0, _ => []
  | n + 1, v => v :: reps n v
def repsL : Nat → List Val → List Val
  | 0, _ => []
  | n + 1, v => v ++ repsL n v
def mspC (z : Nat) (v : Val) (n c : Val) (K : Val → R) : R :=
  match n, c with
  | .int _ n, .int _ c => bif n == c && decide (0 ≤ n) && decide (n ≤ (room : Int)) then K (.sl .ex z (reps n.toNat v)) else none
  | _, _ => none
def msmC (z : Nat) (v : Val) (n c : Val) (h : Heap) (K : Val → Heap → R) : R :=
  match n, c with
  | .int _ n, .int _ c => bif decide (0 ≤ n) && decide (n ≤ c) && decide (c ≤ (room : Int)) then K (.ms h.next 0 n.toNat c.toNat z) (h.add (.cells (repsL c.toNat (cells v)))) else none
  | _, _ => none
def findK (ks : List CK) (k : Val) : List (Val × Val) → Option (Option Val)
  | [] => some none
  | (a, v) :: l => match eqks ks (cells a) (cells k) with
    | some true => some (some v)
    | some false => findK ks k l
    | none => none
def putK (ks : List CK) (k x : Val) : List (Val × Val) → List (Val × Val)
  | [] => [(k, x)]
  | (a, v) :: l => match eqks ks (cells a) (cells k) with
    | some true => (a, x) :: l
    | _ => (a, v) :: putK ks k x l
def mkmC (h : Heap) (K : Val → Heap → R) : R := K (.map h.next) (h.add (.map []))
def lkC (ks : List CK) (zero : Val) (ok : Bool) (m k : Val) (h : Heap) (K : Val → R) : R :=
  match m with
  | .nilm => K (bif ok then .tup [zero, .bool false] else zero)
  | .map b => match h.blk b with
    | some (.map l) => match findK ks k l with
      | some (some v) => K (bif ok then .tup [v, .bool true] else v)
      | some none => K (bif ok then .tup [zero, .bool false] else zero)
      | none => none
    | _ => none
  | _ => none
def mpuC (ks : List CK) (m k x : Val) (h : Heap) (K : Heap → R) : R :=
  match m with
  | .map b => match h.blk b with
    | some (.map l) => match findK ks k l with
      | some _ => K (h.put b (.map (putK ks k x l)))
      | none => none
    | _ => none
  | _ => none
abbrev Call := Nat → List Val → Heap → R
def clC (call : Call) (f : Nat) (args : List Val) (h : Heap) (K : Val → Heap → R) : R :=
  match call f args h with
  | some (v, h) => K v h
  | none => none
def cvC (call : Call) (f : Val) (args : List Val) (h : Heap) (K : Val → Heap → R) : R :=
  match f with
  | .func f cs => clC call f (args ++ cs) h K
  | _ => none
def gdC (g : Val) (b : Bool) (h : Heap) (x : (Val → Heap → R) → R) (K : Val → Heap → R) : R :=
  match g with
  | .bool c => match (bif c == b then x (fun v h => some (v, h)) else some (.tup [], h)) with
    | some (v, h) => K v h
    | none => none
  | .tup [] => K (.tup []) h
  | _ => none
mutual
def eqv : Val → Val → Bool
  | .unk, .unk => true
  | .bool a, .bool b => a == b
  | .int j a, .int k b => (j.toNat.beq k.toNat) && a == b
  | .str a, .str b => eqB a b
  | .nilp, .nilp => true
  | .ptr a o, .ptr b q => a.beq b && o.beq q
  | .ep a, .ep b => eqvs a b
  | .sl u z a, .sl w y b => eqo u w && z.beq y && eqvs a b
  | .ms b o n c z, .ms b' o' n' c' z' => b.beq b' && o.beq o' && n.beq n' && c.beq c' && z.beq z'
  | .func f a, .func g b => f.beq g && eqvs a b
  | .agg a, .agg b => eqvs a b
  | .tup a, .tup b => eqvs a b
  | .iface t a, .iface u b => t.beq u && eqv a b
  | .nili, .nili => true
  | .map a, .map b => a.beq b
  | .nilm, .nilm => true
  | .nilf, .nilf => true
  | _, _ => false
def eqvs : List Val → List Val → Bool
  | [], [] => true
  | a :: x, b :: y => eqv a b && eqvs x y
  | _, _ => false
 end
def mkiC (t : Nat) (x : Val) (K : Val → R) : R := match x with | .unk => none | v => K (.iface t v)
def cnd (c : Val) (t e : R) : R :=
  match c with
  | .bool true => t
  | .bool false => e
  | _ => none
inductive X where
  | t (n : Nat)
  | c (v : Val)
inductive Op where
  | mov (x : X)
  | pick (c a b : X)
  | alloc (cs : List Val)
  | box (z : Nat) (x : X)
  | agg (z : List Val) (ps : List (Nat × Nat × X))
  | bsl (z : Nat) (ps : List X)
  | ld (agg : Bool) (n : Nat) (p : X)
  | st (n : Nat) (p x : X)
  | nil (p : X)
  | fa (off : Nat) (p : X)
  | bi (op : IOp) (x y : X)
  | sh (op : IOp) (x y : X)
  | cm (op : COp) (x y : X)
  | ce (k : CK) (ne : Bool) (x y : X)
  | cea (ks : List CK) (ne : Bool) (x y : X)
  | css (x : X)
  | adds (x y : X)
  | not (x : X)
  | neg (x : X)
  | cpl (x : X)
  | cvi (k : IntKind) (x : X)
  | cvs (x : X)
  | cvb (x : X)
  | sls (x : X) (lo hi : Option X)
  | sll (z : Nat) (x : X) (lo hi : Option X)
  | slx (z : Nat) (x : X) (lo : Option X) (hi mx : X)
  | sla (n z : Nat) (x : X) (lo hi : Option X)
  | ixp (n z : Nat) (x i : X)
  | ixs (z : Nat) (x i : X)
  | ixt (x i : X)
  | ixa (agg : Bool) (n z : Nat) (x i : X)
  | fd (agg : Bool) (off n : Nat) (x : X)
  | ex (i : Nat) (x : X)
  | lens (x : X)
  | lenl (x : X)
  | lenm (x : X)
  | cap (x : X)
  | app (agg : Bool) (z : Nat) (s x : X)
  | cpy (z : Nat) (d x : X)
  | min (x y : X)
  | max (x y : X)
  | msp (z : Nat) (v : Val) (n c : X)
  | msm (z : Nat) (v : Val) (n c : X)
  | mkm
  | lk (ks : List CK) (zero : Val) (ok : Bool) (m k : X)
  | mpu (ks : List CK) (m k x : X)
  | mkf (f : Nat) (cs : List X)
  | mki (t : Nat) (x : X)
  | cl (f : Nat) (args : List X)
  | cv (f : X) (args : List X)
  | no
structure Oper where
  d : Option Nat
  op : Op
  g : Option (Nat × Bool) := none
inductive DOp where
  | real (i : Nat) (o : Oper)
  | chk (o : Oper)
inductive Code where
  | skip
  | draw (ops : List DOp)
  | region (ops : List Oper)
  | seq (a b : Code)
  | cond (c : X) (a b : Code)
  | block (id : Nat) (a : Code)
  | scope (a : Code)
  | loop (vs ms : List Nat) (a : Code)
  | exit (id : Nat)
  | ret
  | no
inductive Exit where
  | normal
  | exit (id : Nat)
  | ret
def getN : List Val → Nat → Val
  | x :: _, 0 => x
  | _ :: l, n + 1 => getN l n
  | [], _ => .unk
def setN : List Val → Nat → Val → List Val
  | _ :: l, 0, v => v :: l
  | x :: l, n + 1, v => x :: setN l n v
  | [], _, _ => []
abbrev Slots := List Val
def ev (σ : Slots) : X → Val
  | .t n => getN σ n
  | .c v => v
def evs (σ : Slots) : List X → List Val
  | [] => []
  | x :: l => ev σ x :: evs σ l
def evo (σ : Slots) : Option X → Option Val
  | none => none
  | some x => some (ev σ x)
def putA : List (Nat × Nat × Val) → List Val → Option (List Val)
  | [], acc => some acc
  | (o, n, v) :: l, acc => bif (cells v).length.beq n then (match putN o (cells v) acc with
    | some acc => putA l acc
    | none => none) else none
def aggC (z : List Val) (ps : List (Nat × Nat × Val)) (K : Val → R) : R :=
  match putA ps z with
  | some l => K (.agg l)
  | none => none
def bslC (z : Nat) (vs : List Val) (K : Val → R) : R :=
  bif vs.all (fun v => (cells v).length.beq z) then K (.sl .ex z vs) else none
def boxC (z : Nat) (v : Val) (h : Heap) (K : Val → Heap → R) : R :=
  bif (cells v).length.beq z then K (.ptr h.next 0) (h.add (.cells (cells v))) else none
def evp (σ : Slots) : List (Nat × Nat × X) → List (Nat × Nat × Val)
  | [] => []
  | (o, n, x) :: l => (o, n, ev σ x) :: evp σ l
def step (call : Call) (σ : Slots) (h : Heap) (o : Op) (K : Val → Heap → R) : R :=
  match o with
  | .mov x => K (ev σ x) h
  | .pick c a b => pickC (ev σ c) (ev σ a) (ev σ b) fun v => K v h
  | .alloc cs => allocC cs h K
  | .box z x => boxC z (ev σ x) h K
  | .agg z ps => aggC z (evp σ ps) fun v => K v h
  | .bsl z ps => bslC z (evs σ ps) fun v => K v h
  | .ld g n p => ldC g n (ev σ p) h fun v => K v h
  | .st n p x => stC n (ev σ p) (ev σ x) h fun h => K (.tup []) h
  | .nil p => nilC (ev σ p) fun v => K v h
  | .fa off p => faC off (ev σ p) fun v => K v h
  | .bi op x y => biC op (ev σ x) (ev σ y) fun v => K v h
  | .sh op x y => shC op (ev σ x) (ev σ y) fun v => K v h
  | .cm op x y => cmC op (ev σ x) (ev σ y) fun v => K v h
  | .ce k ne x y => ceC k ne (ev σ x) (ev σ y) fun v => K v h
  | .cea ks ne x y => ceaC ks ne (ev σ x) (ev σ y) fun v => K v h
  | .css x => cssC (ev σ x) fun v => K v h
  | .adds x y => addSC (ev σ x) (ev σ y) fun v => K v h
  | .not x => notC (ev σ x) fun v => K v h
  | .neg x => negC (ev σ x) fun v => K v h
  | .cpl x => cplC (ev σ x) fun v => K v h
  | .cvi k x => cviC k (ev σ x) fun v => K v h
  | .cvs x => cvsC (ev σ x) h fun v => K v h
  | .cvb x => cvbC (ev σ x) h K
  | .sls x lo hi => slsC (ev σ x) (evo σ lo) (evo σ hi) fun v => K v h
  | .sll z x lo hi => sllC z (ev σ x) (evo σ lo) (evo σ hi) fun v => K v h
  | .slx z x lo hi mx => slxC z (ev σ x) (evo σ lo) (ev σ hi) (ev σ mx) fun v => K v h
  | .sla n z x lo hi => slaC n z (ev σ x) (evo σ lo) (evo σ hi) fun v => K v h
  | .ixp n z x i => ixpC n z (ev σ x) (ev σ i) fun v => K v h
  | .ixs z x i => ixsC z (ev σ x) (ev σ i) fun v => K v h
  | .ixt x i => ixtC (ev σ x) (ev σ i) fun v => K v h
  | .ixa g n z x i => ixaC g n z (ev σ x) (ev σ i) fun v => K v h
  | .fd g off n x => fdC g off n (ev σ x) fun v => K v h
  | .ex i x => exC i (ev σ x) fun v => K v h
  | .lens x => lensC (ev σ x) fun v => K v h
  | .lenl x => lenlC (ev σ x) fun v => K v h
  | .lenm x => lenmC (ev σ x) h fun v => K v h
  | .cap x => capC (ev σ x) fun v => K v h
  | .app g z s x => appC g z (ev σ s) (ev σ x) h K
  | .cpy z d x => cpyC z (ev σ d) (ev σ x) h K
  | .min x y => mnC (ev σ x) (ev σ y) fun v => K v h
  | .max x y => mxC (ev σ x) (ev σ y) fun v => K v h
  | .msp z v n c => mspC z v (ev σ n) (ev σ c) fun v => K v h
  | .msm z v n c => msmC z v (ev σ n) (ev σ c) h K
  | .mkm => mkmC h K
  | .lk ks zero ok m k => lkC ks zero ok (ev σ m) (ev σ k) h fun v => K v h
  | .mpu ks m k x => mpuC ks (ev σ m) (ev σ k) (ev σ x) h fun h => K (.tup []) h
  | .mkf f cs => K (.func f (evs σ cs)) h
  | .mki t x => mkiC t (ev σ x) fun v => K v h
  | .cl f args => clC call f (evs σ args) h K
  | .cv f args => cvC call (ev σ f) (evs σ args) h K
  | .no => none
def setD (σ : Slots) : Option Nat → Val → Slots
  | none, _ => σ
  | some d, v => setN σ d v
def operC (call : Call) (σ : Slots) (h : Heap) (o : Oper) (K : Val → Heap → R) : R :=
  match o.g with
  | none => step call σ h o.op K
  | some (g, b) => gdC (getN σ g) b h (step call σ h o.op) K
def ops (call : Call) : List Oper → Slots → Heap → (Slots → Heap → R) → R
  | [], σ, h, K => K σ h
  | o :: os, σ, h, K => operC call σ h o fun v h => ops call os (setD σ o.d v) h K
def dops (call : Call) : List DOp → Slots → Heap → (Slots → Heap → R) → R
  | [], σ, h, K => K σ h
  | .chk o :: os, σ, h, K => operC call σ h o fun u _ => bif eqv u (getN σ (o.d.getD 0)) then dops call os σ h K else none
  | .real _ o :: os, σ, h, K => operC call σ h o fun v h => dops call os (setD σ o.d v) h K
def iter : Nat → ((List Val → Heap → R) → List Val → Heap → R) → List Val → Heap → R
  | 0, _ => fun _ _ => none
  | n + 1, F => fun vs h => F (iter n F) vs h
def pickL (σ : Slots) : List Nat → List Val
  | [] => []
  | n :: l => getN σ n :: pickL σ l
def place (xs : List Val) : List Nat → Nat → Slots → Slots
  | [], _, σ => σ
  | n :: l, i, σ => place xs l (i + 1) (setN σ n (getN xs i))
def mask : List Nat → Slots → Slots
  | [], σ => σ
  | n :: l, σ => mask l (setN σ n .unk)
def exec (call : Call) (fuel : Nat) : Code → (Exit → Slots → Heap → R) → Slots → Heap → R
  | .skip, K, σ, h => K .normal σ h
  | .region l, K, σ, h => ops call l σ h fun σ h => K .normal σ h
  | .draw l, K, σ, h => dops call l σ h fun σ h => K .normal σ h
  | .seq a b, K, σ, h => exec call fuel a (fun e σ h => match e with
      | .normal => exec call fuel b K σ h
      | e => K e σ h) σ h
  | .cond c a b, K, σ, h => cnd (ev σ c) (exec call fuel a K σ h) (exec call fuel b K σ h)
  | .block id a, K, σ, h => exec call fuel a (fun e σ h => match e with
      | .exit id' => bif id'.beq id then K .normal σ h else K (.exit id') σ h
      | e => K e σ h) σ h
  | .scope a, K, σ, h => exec call fuel a K σ h
  | .loop vs ms a, K, σ, h => iter fuel (fun rec xs h => exec call fuel a (fun e σ h => match e with
      | .normal => rec (pickL σ vs) h
      | e => K e σ h) (place xs vs 0 (mask ms σ)) h) (pickL σ vs) h
  | .exit id, K, σ, h => K (.exit id) σ h
  | .ret, K, σ, h => K .ret σ h
  | .no, _, _, _ => none
inductive Res where
  | tmp (t : Nat)
  | cell (agg : Bool) (n t : Nat)
inductive Fn where
  | code (np nt : Nat) (res : List Res) (body : Code)
  | prim (F : List Val → Heap → R)
def resC (σ : Slots) (h : Heap) : List Res → (List Val → R) → R
  | [], K => K []
  | .tmp t :: l, K => resC σ h l fun vs => K (getN σ t :: vs)
  | .cell g n t :: l, K => ldC g n (getN σ t) h fun v => resC σ h l fun vs => K (v :: vs)
def one : List Val → Val
  | [v] => v
  | l => .tup l
def runFn (call : Call) (fuel : Nat) (f : Fn) (args : List Val) (h : Heap) : R :=
  match f with
  | .code np nt res body => bif args.length.beq np then exec call fuel body (fun e σ h => match e with
    | .exit _ => none
    | _ => resC σ h res fun vs => some (one vs, h)) (args ++ reps nt .unk) h else none
  | .prim F => F args h
def run (tbl : Nat → Option Fn) : Nat → Call
  | 0, _, _, _ => none
  | n + 1, f, args, h => match tbl f with
    | some fn => runFn (run tbl n) n fn args h
    | none => none
end Go.AM
