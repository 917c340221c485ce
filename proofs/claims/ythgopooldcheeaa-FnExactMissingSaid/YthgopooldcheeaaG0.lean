/- Part of a proof about the given program: a verified evaluator, and what it tells of the functions (VhCore, VhRel, VhRel2, VhKeep, VhMove, VhTool, VhOps, VhOps2, VhOps3, VhOps4, VhOps5, VhOps6, VhRen, VhStep). Conditions: none beyond the hypotheses that each theorem states. -/
import Derived.Calls
import Derived.Orders
import Derived.Laws.World
import Derived.Laws.Sem
import GoSem.Dispatch
import Derived.Laws.StructEq
set_option linter.unusedSimpArgs false
set_option linter.unusedVariables false
set_option linter.defProp false
section
namespace Go.Proofs.Ythgopooldcheeaa.VH

/- The evaluator: pure values in, pure values out. -/

inductive Tg where
  | fgn | own | snap
  deriving DecidableEq

inductive AV where
  | und
  | val (v : Value)
  | sl (tg : Tg) (z n : Nat) (cap : Option Nat) (cs : List AV)
  | ref (k : Nat) (p : List Nat) (z off n : Nat) (cap : Option Nat)
  | ptr (k : Nat) (p : List Nat) (off : Nat)
  | rp (tg : Tg) (cs : List AV) (off : Nat)
  | agg (xs : List AV)
  | tup (xs : List AV)
  | fn (f : FuncId) (caps : List AV)
  | bx (cs : List AV)
  deriving Inhabited

inductive TD where
  | bool | int (k : IntKind) | string
  | slice (e : TypeId) | struct (fs : List (Nat × TypeId)) | array (n : Nat) (e : TypeId)
  | pointer (e : TypeId) | other
  deriving DecidableEq, Inhabited

structure Row where
  td : TD
  size : Nat
  bytes : Nat
  zero : List Value
  flat : Bool
  deriving Inhabited

def TD.agg : TD → Bool
  | .struct _ | .array .. => true
  | _ => false

abbrev Oracle := FuncId → List AV → List (List AV) → Option (AV × List (Option (List AV)))

structure Env where
  hand : Oracle
  row : TypeId → Option Row
  lend : FuncId → List Bool
  live : FuncId → Nat → List Nat
  body : FuncId → Option (Code × List ResultVar)
  wk : FuncId → Option Nat := fun _ => none
  boxf : FuncId → Bool := fun _ => false
  notef : FuncId → Bool := fun _ => false
  deep : FuncId → Bool := fun _ => false
  cutf : FuncId → Bool := fun _ => false
  insf : FuncId → Option Nat := fun _ => none
  cut : FuncId → Nat → Option (List Nat) := fun _ _ => none

abbrev Heap := Nat → Option (List AV)

def upd (H : Heap) (k : Nat) (c : Option (List AV)) : Heap := fun j => if j = k then c else H j

/-- programs on the heap -/
inductive HM (α : Type) where
  | ret (a : α)
  | fail
  | look (k : Nat) (f : List AV → HM α)
  | put (k : Nat) (c : Option (List AV)) (m : HM α)
  | kill (k : Nat) (m : HM α)

namespace HM
def bind {α β : Type} : HM α → (α → HM β) → HM β
  | .ret a, g => g a
  | .fail, _ => .fail
  | .look k f, g => .look k fun cs => (f cs).bind g
  | .put k c m, g => .put k c (m.bind g)
  | .kill k m, g => .kill k (m.bind g)
end HM

/-- what an operation touched: keys read, keys written, keys whose parts are struck from the slots -/
structure Tr where
  rd : List Nat := []
  wr : List Nat := []
  kl : List Nat := []
  nt : Option (List Nat × Bool) := none

def HM.run {α R : Type} : HM α → Heap → Tr → (α → Heap → Tr → Option R) → Option R
  | .ret a, H, t, K => K a H t
  | .fail, _, _, _ => none
  | .look k f, H, t, K => match H k with
    | some cs => (f cs).run H { t with rd := k :: t.rd } K
    | none => none
  | .put k c m, H, t, K => m.run (upd H k c) { t with wr := k :: t.wr } K
  | .kill k m, H, t, K => m.run H { t with kl := k :: t.kl } K

def LIM : Nat := 2 ^ 39

def sub : List Nat → List AV → Option (List AV)
  | [], cs => some cs
  | c :: p, cs => match cs[c]? with
    | some (.sl .own _ _ _ ds) => sub p ds
    | _ => none

def modp : List Nat → (List AV → List AV) → List AV → List AV
  | [], f, cs => f cs
  | c :: p, f, cs => match cs[c]? with
    | some (.sl .own z n cap ds) => cs.set c (.sl .own z n cap (modp p f ds))
    | _ => cs

def setAt (cs : List AV) (off : Nat) : List AV → List AV
  | [] => cs
  | x :: xs => setAt (cs.set off x) (off + 1) xs

def qb2 (k : Nat) (p : List Nat) : HM (List AV) :=
  .look k fun cs => match sub p cs with
    | some ds => .ret ds
    | none => .fail

/-- what lies at a place, taken out of it -/
def takeOut (k : Nat) (p : List Nat) : HM (List AV) :=
  .look k fun cs => match sub p cs with
    | some ds => match p with
      | [] => .put k none (.ret ds)
      | _ :: _ => .put k (some (modp p.dropLast (fun xs => xs.set (p.getLastD 0) .und) cs)) (.ret ds)
    | none => .fail

def ofOpt {α : Type} : Option α → HM α
  | some a => .ret a
  | none => .fail

def guardB {α : Type} (b : Bool) (m : HM α) : HM α := bif b then m else .fail

def qc4 : Value → Bool
  | .agg _ | .tuple _ => false
  | _ => true

/-- a value as a cell of memory: what it leads to moves with it -/
def qc1 : AV → HM AV
  | .val v => guardB (qc4 v) (.ret (.val v))
  | .sl .fgn z n cap cs => .ret (.sl .fgn z n cap cs)
  | .sl .snap z n cap cs => .ret (.sl .snap z n cap cs)
  | .ref k p z off n _ => (takeOut k p).bind fun ds => guardB (decide (off + n * z ≤ ds.length)) (.ret (.sl .own z n none ((ds.drop off).take (n * z))))
  | _ => .fail

def qc0 : List AV → HM (List AV)
  | [] => .ret []
  | x :: xs => (qc1 x).bind fun y => (qc0 xs).bind fun ys => .ret (y :: ys)

def cellsOf : AV → List AV
  | .agg xs => xs
  | x => [x]

def qb8 : AV → Bool
  | .sl .own .. => true
  | _ => false

def qb6 (k : Nat) (p : List Nat) (i : Nat) : AV → AV
  | .sl .own z n cap _ => .ref k (p ++ [i]) z 0 n cap
  | x => x

def qb7 (tg : Tg) : AV → AV
  | .sl _ z n cap cs => .sl tg z n cap cs
  | x => x

def getR (cs : List AV) (off : Nat) : Nat → Option (List AV)
  | 0 => some []
  | n + 1 => match cs[off]? with
    | some x => match getR cs (off + 1) n with
      | some r => some (x :: r)
      | none => none
    | none => none

def qb5 (k : Nat) (p : List Nat) (i : Nat) : List AV → List AV
  | [] => []
  | x :: xs => qb6 k p i x :: qb5 k p (i + 1) xs

def qc6 : Value := .slice none 0 0

def intBin (op : BinOp) (k : IntKind) (a b : Int) : HM AV :=
  match op with
  | .add => .ret (.val (.int k (k.wrap (a + b))))
  | .sub => .ret (.val (.int k (k.wrap (a - b))))
  | .mul => .ret (.val (.int k (k.wrap (a * b))))
  | .quo => guardB (!decide (b = 0)) (.ret (.val (.int k (k.wrap (a.tdiv b)))))
  | .rem => guardB (!decide (b = 0)) (.ret (.val (.int k (a.tmod b))))
  | .and => .ret (.val (.int k (k.wrap (BitVec.ofInt k.bits a &&& BitVec.ofInt k.bits b).toNat)))
  | .or => .ret (.val (.int k (k.wrap (BitVec.ofInt k.bits a ||| BitVec.ofInt k.bits b).toNat)))
  | .xor => .ret (.val (.int k (k.wrap (BitVec.ofInt k.bits a ^^^ BitVec.ofInt k.bits b).toNat)))
  | .andNot => .ret (.val (.int k (k.wrap (BitVec.ofInt k.bits a &&& ~~~BitVec.ofInt k.bits b).toNat)))
  | .eql => .ret (.val (.bool (a == b)))
  | .neq => .ret (.val (.bool (a != b)))
  | .lss => .ret (.val (.bool (decide (a < b))))
  | .leq => .ret (.val (.bool (decide (a ≤ b))))
  | .gtr => .ret (.val (.bool (decide (a > b))))
  | .geq => .ret (.val (.bool (decide (a ≥ b))))
  | .shl => guardB (decide (0 ≤ b)) (.ret (.val (.int k (k.wrap (a * 2 ^ (min b.toNat k.bits))))))
  | .shr => guardB (decide (0 ≤ b)) (.ret (.val (.int k (a.fdiv (2 ^ (min b.toNat k.bits))))))

def strBin (op : BinOp) (x y : ByteArray) : HM AV :=
  match op with
  | .add => guardB (decide (x.size + y.size ≤ LIM)) (.ret (.val (.string (x ++ y))))
  | .eql => .ret (.val (.bool (x.toList == y.toList)))
  | .neq => .ret (.val (.bool (!(x.toList == y.toList))))
  | .lss => .ret (.val (.bool (Op.bytesLess x.toList y.toList)))
  | .leq => .ret (.val (.bool (Op.bytesLess x.toList y.toList || x.toList == y.toList)))
  | .gtr => .ret (.val (.bool (!(Op.bytesLess x.toList y.toList || x.toList == y.toList))))
  | .geq => .ret (.val (.bool (!(Op.bytesLess x.toList y.toList))))
  | _ => .fail

def lenAV : AV → Option Nat
  | .val (.slice none 0 0) => some 0
  | .val (.string s) => some s.size
  | .sl _ _ n _ _ => some n
  | .ref _ _ _ _ n _ => some n
  | _ => none

def qb : AV → Option Nat
  | .val (.slice none 0 0) => some 0
  | .sl _ _ n _ _ => some n
  | .ref _ _ _ _ n _ => some n
  | _ => none

def opnd (T : Nat → AV) : Operand → AV
  | .tmp t => T t
  | .const (.agg cs) => bif cs.toList.all qc4 then .agg (cs.toList.map .val) else .und
  | .const v => .val v
  | .func f => .fn f []
  | .global _ => .und

def qc5 : AV → Bool
  | .val (.slice none 0 0) => true
  | _ => false

def bin (td : Option TD) (op : BinOp) (x y : AV) : HM AV :=
  match x, y with
  | .val (.int k a), .val (.int k' b) => match op with
    | .shl | .shr => intBin op k a b
    | _ => guardB (decide (k = k')) (intBin op k a b)
  | .val (.string a), .val (.string b) => strBin op a b
  | .val (.bool a), .val (.bool b) => match td, op with
    | some .bool, .eql => .ret (.val (.bool (a == b)))
    | some .bool, .neq => .ret (.val (.bool (!(a == b))))
    | _, _ => .fail
  | x, y => match td, qb x, op with
    | some (.slice _), some n, .eql => guardB (qc5 y) (bif qc5 x || decide (0 < n) then .ret (.val (.bool (qc5 x))) else .ret (.bx []))
    | some (.slice _), some n, .neq => guardB (qc5 y) (bif qc5 x || decide (0 < n) then .ret (.val (.bool (!qc5 x))) else .ret (.bx []))
    | _, _, _ => .fail

/-- cells that are compared, each of the kind of its zero -/
def eqC : Value → AV → AV → Option Bool
  | .int _ _, .val (.int k a), .val (.int k' b) => if k = k' then some (a == b) else none
  | .string _, .val (.string a), .val (.string b) => some (a.toList == b.toList)
  | .bool _, .val (.bool a), .val (.bool b) => some (a == b)
  | _, _, _ => none
def eqCells : List Value → List AV → List AV → Option Bool
  | [], [], [] => some true
  | z :: zs, x :: xs, y :: ys => match eqC z x y, eqCells zs xs ys with
    | some a, some b => some (a && b)
    | _, _ => none
  | _, _, _ => none
def aggBin (r : Option Row) (op : BinOp) (xs ys : List AV) : HM AV := match r with
  | some { td := .struct _, flat := true, zero, .. } => (ofOpt (eqCells zero xs ys)).bind fun b => match op with
    | .eql => .ret (.val (.bool b))
    | .neq => .ret (.val (.bool (!b)))
    | _ => .fail
  | _ => .fail

def qb3 (x : AV) (z : Nat) (i : Int) : HM AV :=
  match x with
  | .sl tg _ n _ cs => guardB (decide (0 ≤ i) && decide (i < n)) (.ret (.rp tg cs (i.toNat * z)))
  | .ref k p _ off n _ => guardB (decide (0 ≤ i) && decide (i < n)) (.ret (.ptr k p (off + i.toNat * z)))
  | _ => .fail

def qb4 (x : AV) (len z : Nat) (i : Int) : HM AV :=
  match x with
  | .ptr k p off => guardB (decide (0 ≤ i) && decide (i < len)) (.ret (.ptr k p (off + i.toNat * z)))
  | .rp tg cs off => guardB (decide (0 ≤ i) && decide (i < len)) (.ret (.rp tg cs (off + i.toNat * z)))
  | _ => .fail

def qb1 (r : Row) (a : AV) : HM AV :=
  match a with
  | .ptr k p off => (qb2 k p).bind fun ds => (ofOpt (getR ds off r.size)).bind fun xs =>
      bif r.td.agg then .ret (.agg (qb5 k p off xs)) else match qb5 k p off xs with
        | [x] => .ret x
        | _ => .fail
  | .bx cs => guardB (decide (0 < r.size)) ((ofOpt (getR cs 0 r.size)).bind fun xs => bif r.td.agg then .ret (.agg xs) else match xs with
      | [x] => .ret x
      | _ => .fail)
  | .rp tg cs off => (ofOpt (getR cs off r.size)).bind fun xs =>
      bif r.td.agg then .ret (.agg (xs.map (qb7 tg))) else match xs with
        | [x] => .ret (qb7 tg x)
        | _ => .fail
  | _ => .fail

def qb0 (r : Row) (a v : AV) : HM AV :=
  match a with
  | .ptr k p off =>
    (qc0 (cellsOf v)).bind fun ys => guardB (decide (ys.length = r.size) && decide (0 < r.size))
      (.look k fun cs => match sub p cs with
        | some ds => guardB (decide (off + r.size ≤ ds.length))
          (.put k (some (modp p (fun xs => setAt xs off ys) cs)) (bif ys.any qb8 then .kill k (.ret .und) else .ret .und))
        | none => .fail)
  | _ => .fail

def byteOf : AV → Option UInt8
  | .val (.int .u8 n) => some (UInt8.ofNat n.toNat)
  | _ => none

def bytesOf : List AV → Option (List UInt8)
  | [] => some []
  | x :: xs => match byteOf x with
    | some b => match bytesOf xs with
      | some r => some (b :: r)
      | none => none
    | none => none

def u8 (b : UInt8) : AV := .val (.int .u8 b.toNat)

def isSl : AV → Bool
  | .sl .. => true
  | _ => false

def borL (tg : Tg) (cs : List AV) : List AV := bif cs.any isSl then cs.map (qb7 tg) else cs

/-- the cells of a slice that is read; what it leads to stays -/
def cellsIn (x : AV) : HM (List AV) :=
  match x with
  | .val (.slice none 0 0) => .ret []
  | .sl _ z n _ cs => .ret (cs.take (n * z))
  | .ref k p z off n _ => (qb2 k p).bind fun ds => .ret ((ds.drop off).take (n * z))
  | _ => .fail

/-- a slice whose elements have so many cells -/
def zOK (z : Nat) : AV → Bool
  | .val (.slice none 0 0) => true
  | .sl _ z' _ _ _ => z' == z
  | .ref _ _ z' _ _ _ => z' == z
  | _ => false

def convHM (row : TypeId → Option Row) (s d : TD) (x : AV) (fr : Nat) : HM AV :=
  match d, x with
  | .int k, .val (.int _ n) => .ret (.val (.int k (k.wrap n)))
  | .string, .val (.string a) => .ret (.val (.string a))
  | .slice e, .val (.string a) => match s, row e with
    | .string, some { td := .int .u8, .. } => .put fr (some (a.data.toList.map u8)) (.ret (.ref fr [] 1 0 a.size none))
    | _, _ => .fail
  | .string, x => match s with
    | .slice e => match row e with
      | some { td := .int .u8, .. } => guardB (zOK 1 x) ((cellsIn x).bind fun cs => guardB (some cs.length == qb x) ((ofOpt (bytesOf cs)).bind fun bs => .ret (.val (.string ⟨bs.toArray⟩))))
      | _ => .fail
    | _ => .fail
  | _, _ => .fail

def zeros (r : Row) (n : Nat) : List AV := (List.replicate n (r.zero.map AV.val)).flatten

def qa2 (place : Nat → Option (Nat × Nat)) (cs : List AV) : List (Nat × List AV) → Option (List AV)
  | [] => some cs
  | (i, v) :: rest => match place i with
    | some (off, size) => if v.length = size ∧ off + size ≤ cs.length then qa2 place (setAt cs off v) rest else none
    | none => none

def qa4 : AV → Bool
  | .und | .tup _ | .bx _ => false
  | .val v => qc4 v
  | _ => true

def qa5 : Nat → List Nat → Bool
  | _, [] => true
  | k, i :: r => i == k && qa5 (k + 1) r

def qa3 (E : Env) (fs : List (Nat × TypeId)) (i : Nat) : Option (Nat × Nat) :=
  match fs[i]? with
  | some (off, t) => match E.row t with
    | some r => some (off, r.size)
    | none => none
  | none => none

def qa7 (d : Int) : Option AV → Option Int
  | none => some d
  | some (.val (.int _ i)) => some i
  | _ => none

def qa6 (x : AV) (lo hi mx : Option AV) : HM AV :=
  match x with
  | .val (.string s) => match qa7 0 lo, qa7 s.size hi, mx with
    | some l, some h, none => guardB (decide (0 ≤ l) && decide (l ≤ h) && decide (h ≤ s.size)) (.ret (.val (.string (s.extract l.toNat h.toNat))))
    | _, _, _ => .fail
  | .val (.slice none 0 0) => match qa7 0 lo, qa7 0 hi, qa7 0 mx with
    | some l, some h, some m => guardB (decide (l = 0) && decide (h = 0) && decide (m = 0)) (.ret (.val qc6))
    | _, _, _ => .fail
  | .sl tg z n cap cs => match qa7 0 lo, qa7 n hi, qa7 n mx with
    | some l, some h, some m =>
      guardB (decide (0 ≤ l) && decide (l ≤ h) && decide (h ≤ m) && decide (m ≤ n))
        (.ret (.sl tg z (h - l).toNat (match mx with | some _ => some (m - l).toNat | none => cap.map fun c => c - l.toNat) ((cs.drop (l.toNat * z)).take ((h - l).toNat * z))))
    | _, _, _ => .fail
  | .ref k p z off n cap => match qa7 0 lo, qa7 n hi, qa7 n mx with
    | some l, some h, some m =>
      bif hi.isSome && mx.isNone && cap.isNone && decide (0 < z) && decide ((n : Int) < h) then
        guardB (decide (0 ≤ l) && decide (l ≤ h)) ((qb2 k p).bind fun ds => guardB (decide (off + h.toNat * z ≤ ds.length)) (.ret (.ref k p z (off + l.toNat * z) (h - l).toNat none)))
      else bif hi.isSome && mx.isNone && cap.isSome && decide ((n : Int) < h) then
        guardB (decide (0 ≤ l) && decide (l ≤ h) && decide (h ≤ cap.getD 0)) (.ret (.ref k p z (off + l.toNat * z) (h - l).toNat (cap.map fun c => c - l.toNat)))
      else guardB (decide (0 ≤ l) && decide (l ≤ h) && decide (h ≤ m) && decide (m ≤ n))
        (.ret (.ref k p z (off + l.toNat * z) (h - l).toNat (match mx with | some _ => some (m - l).toNat | none => cap.map fun c => c - l.toNat)))
    | _, _, _ => .fail
  | _ => .fail

/-- what is appended: cells; rows whose elements lead further move -/
def qa9 (r : Row) (x : AV) : HM (Nat × List AV) :=
  match x with
  | .val (.slice none 0 0) => .ret (0, [])
  | .val (.string s) => guardB (decide (r.size = 1)) (.ret (s.size, s.data.toList.map u8))
  | .sl tg z n _ cs => guardB (z == r.size) (.ret (n, borL tg cs))
  | .ref k p z off n _ => (qb2 k p).bind fun ds => guardB (z == r.size && decide (off + n * z ≤ ds.length))
      (bif ((ds.drop off).take (n * z)).any qb8 then (takeOut k p).bind fun ds => guardB (decide (off + n * z ≤ ds.length)) (.ret (n, (ds.drop off).take (n * z)))
        else .ret (n, (ds.drop off).take (n * z)))
  | _ => .fail

/-- what is appended to with nothing keeps its room -/
def capK (cap : Option Nat) (m : Nat) : Option Nat := match cap with
  | none => none
  | some q => bif decide (m = 0) then some q else none

def qa8 (r : Row) (d : AV) (m : Nat) (new : List AV) (fr : Nat) : HM AV :=
  match d with
  | .val (.slice none 0 0) => guardB (decide (m ≤ LIM)) (.put fr (some new) (.ret (.ref fr [] r.size 0 m none)))
  | .sl tg z n (some q) cs => guardB (z == r.size && decide (q = n) && (decide (n = 0) || decide (0 < m)) && decide (n + m ≤ LIM))
      (.put fr (some (borL tg cs ++ new)) (.ret (.ref fr [] z 0 (n + m) none)))
  | .ref k p z off n cap => (qb2 k p).bind fun ds =>
      guardB (z == r.size && decide (n + m ≤ LIM))
        (bif decide (off + n * z = ds.length) then
          (takeOut k p).bind fun ds => guardB (decide (off + n * z = ds.length)) (.put fr (some (ds.drop off ++ new)) (.ret (.ref fr [] z 0 (n + m) (capK cap m))))
        else bif decide (m = 0) then .ret (.ref k p z off n cap)
        else bif cap.isSome && decide (cap.getD 0 < n + m) then guardB (decide (off + n * z ≤ ds.length) && !((ds.drop off).take (n * z)).any qb8)
          (.put fr (some ((ds.drop off).take (n * z) ++ new)) (.ret (.ref fr [] z 0 (n + m) none)))
        else bif decide (ds.length < off + (n + m) * z) then (takeOut k p).bind fun ds => guardB (decide (off + n * z ≤ ds.length)) (.put fr (some ((ds.drop off).take (n * z) ++ new)) (.ret (.ref fr [] z 0 (n + m) none)))
        else guardB ((cap.isNone || decide (n + m ≤ cap.getD 0)) && decide (off + (n + m) * z ≤ ds.length) && decide (0 < new.length) && (p.isEmpty || !new.any qb8))
          (.look k fun cs => .put k (some (modp p (fun xs => setAt xs (off + n * z) new) cs))
            (bif new.any qb8 then .kill k (.ret (.ref k p z off (n + m) cap)) else .ret (.ref k p z off (n + m) cap))))
  | _ => .fail

def copyHM (r : Row) (d : AV) (m : Nat) (new : List AV) : HM AV :=
  match d with
  | .val (.slice none 0 0) => guardB (decide (m = 0)) (.ret (.val (.int .i64 0)))
  | .sl _ _ _ _ _ => guardB (decide (m = 0)) (.ret (.val (.int .i64 0)))
  | .ref k p z off n _ => bif decide (m = 0) then .ret (.val (.int .i64 0)) else
      guardB (z == r.size && decide (0 < new.length) && !new.any qb8)
        (bif decide (m ≤ n) then .look k fun cs => match sub p cs with
          | some ds => guardB (decide (off + new.length ≤ ds.length)) (.put k (some (modp p (fun xs => setAt xs off new) cs)) (.ret (.val (.int .i64 m))))
          | none => .fail
        else guardB (decide (0 < n)) (.look k fun cs => match sub p cs with
          | some ds => guardB (decide (off + n * z ≤ ds.length)) (.put k (some (modp p (fun xs => setAt xs off (new.take (n * z))) cs)) (.ret (.val (.int .i64 n))))
          | none => .fail))
  | _ => .fail

def clearHM (r : Row) (d : AV) : HM AV :=
  match d with
  | .val (.slice none 0 0) => .ret (.tup [])
  | .sl _ _ n _ _ => guardB (decide (n = 0)) (.ret (.tup []))
  | .ref k p z off n _ => bif decide (n = 0) then .ret (.tup []) else
      guardB (z == r.size && decide (0 < r.size))
        (.look k fun cs => match sub p cs with
          | some ds => guardB (decide (off + n * r.size ≤ ds.length)) (.put k (some (modp p (fun xs => setAt xs off (zeros r n)) cs)) (.ret (.tup [])))
          | none => .fail)
  | _ => .fail

/- calls -/
structure Pk where
  lent : List Nat := []
  snap : List Nat := []

def Pk.add (k : Nat) (q : Pk) : Pk := bif q.lent.contains k then q else { q with lent := q.lent ++ [k] }

/-- what goes by number: a root itself, and in a struct that is lent its parts too -/
def qe4 : Bool → Bool → List Nat → Bool
  | false, _, _ => false
  | true, _, [] => true
  | true, dp, _ :: _ => dp
mutual
/-- an argument: what is lent goes by number, all else is read where it lies -/
def qe3 (lend dp : Bool) (q : Pk) : AV → HM (AV × Pk)
  | .val v => .ret (.val v, q)
  | .und => .ret (.und, q)
  | .sl tg z n cap cs => .ret (.sl (match tg with | .fgn => .fgn | _ => .snap) z n cap cs, q)
  | .rp tg cs off => .ret (.rp (match tg with | .fgn => .fgn | _ => .snap) cs off, q)
  | .ref k p z off n cap => bif qe4 lend dp p then .ret (.ref ((q.add k).lent.idxOf k) p z off n cap, q.add k)
    else (qb2 k p).bind fun ds => guardB (decide (off + n * z ≤ ds.length)) (.ret (.sl .snap z n none ((ds.drop off).take (n * z)), { q with snap := k :: q.snap }))
  | .ptr k p off => bif qe4 lend dp p then .ret (.ptr ((q.add k).lent.idxOf k) p off, q.add k)
    else (qb2 k p).bind fun ds => guardB (!ds.isEmpty) (.ret (.rp .snap ds off, { q with snap := k :: q.snap }))
  | .agg xs => (qe2 lend true q xs).bind fun (ys, q) => .ret (.agg ys, q)
  | .fn f caps => (qe2 lend dp q caps).bind fun (ys, q) => .ret (.fn f ys, q)
  | .tup _ => .fail
  | .bx _ => .fail
def qe2 (lend dp : Bool) (q : Pk) : List AV → HM (List AV × Pk)
  | [] => .ret ([], q)
  | x :: xs => (qe3 lend dp q x).bind fun (y, q) => (qe2 lend dp q xs).bind fun (ys, q) => .ret (y :: ys, q)
end

def qe1 (dp : Bool) : List Bool → Pk → List AV → HM (List AV × Pk)
  | _, q, [] => .ret ([], q)
  | b, q, x :: xs => (qe3 (b.headD false) dp q x).bind fun (y, q) => (qe1 dp b.tail q xs).bind fun (ys, q) => .ret (y :: ys, q)

def qe5 : List Nat → List Nat → Bool
  | [], _ => true
  | k :: r, sn => !sn.contains k && !r.contains k && qe5 r sn

def qe6 : List Nat → HM (List (List AV))
  | [] => .ret []
  | k :: r => .look k fun ds => (qe6 r).bind fun rs => .ret (ds :: rs)

/-- what was lent comes back, and new rows come with it -/
def qe7 (fr : Nat) : List Nat → List (Option (List AV)) → HM Unit
  | [], [] => .ret ()
  | [], c :: cs => .put fr c (qe7 (fr + 1) [] cs)
  | k :: r, c :: cs => .put k c (bif (c.getD []).any qb8 then .kill k (qe7 fr r cs) else qe7 fr r cs)
  | _ :: _, [] => .fail

mutual
def qe9 (ρ : Nat → Nat) : AV → AV
  | .ref k p z off n cap => .ref (ρ k) p z off n cap
  | .ptr k p off => .ptr (ρ k) p off
  | .agg xs => .agg (qf ρ xs)
  | .tup xs => .tup (qf ρ xs)
  | .fn f xs => .fn f (qf ρ xs)
  | .bx xs => .bx (qf ρ xs)
  | x => x
def qf (ρ : Nat → Nat) : List AV → List AV
  | [] => []
  | x :: xs => qe9 ρ x :: qf ρ xs
end

def qe8 (lent : List Nat) (fr k : Nat) : Nat := match lent[k]? with
  | some j => j
  | none => fr + (k - lent.length)

def qd4 (E : Env) (C : Oracle) (f : AV) (args : List AV) (fr : Nat) : HM AV :=
  match f with
  | .fn g caps => (qe1 (E.deep g) (E.lend g) {} (args ++ caps)).bind fun (xs, q) => guardB (qe5 q.lent q.snap)
      ((qe6 q.lent).bind fun cts => (ofOpt (C g xs cts)).bind fun (r, cts') =>
        guardB (decide (q.lent.length ≤ cts'.length) && decide (cts'.length ≤ q.lent.length + 8))
          ((qe7 fr q.lent cts').bind fun _ => .ret (qe9 (qe8 q.lent fr) r)))
  | _ => .fail

def qd6 : AV → Bool
  | .ref _ p _ _ _ _ => !p.isEmpty
  | _ => false
def qd7 : AV → Bool
  | .val _ => true
  | _ => false
/-- a part of a row, and a plain value -/
def qd5 : List AV → Bool
  | [x, y] => qd6 x && qd7 y
  | _ => false
def qd8 (E : Env) : AV → Bool
  | .fn g _ => (E.lend g).headD false
  | _ => false
def qe0 : List AV → Bool
  | [] => true
  | x :: xs => (match x with | .val v => qc4 v | _ => false) && qe0 xs
def qe (C : Oracle) (g : FuncId) (k : Nat) (p : List Nat) (z off n : Nat) (cap : Option Nat) (v : Value) (ds cs : List AV) : HM AV :=
  (ofOpt (C g [.ref 0 [] z off n cap, .val v] [ds])).bind fun (x, cts') => match x, cts' with
    | .val u, [some ds'] => guardB (decide (ds'.length = ds.length) && !ds'.any qb8) (.put k (some (modp p (fun _ => ds') cs)) (.ret (.val u)))
    | _, _ => .fail
/-- a part of a row that is lent: it goes as a row of its own, and comes back into its place -/
def qd9 (E : Env) (C : Oracle) (f : AV) (args : List AV) (fr : Nat) : HM AV :=
  match f, args with
  | .fn g [], [.ref k p z off n cap, .val v] => .look k fun cs => match sub p cs with
      | some ds => bif qe0 ds && !ds.isEmpty then qe C g k p z off n cap v ds cs else qd4 E C f args fr
      | none => .fail
  | _, _ => qd4 E C f args fr
def qd0 (E : Env) (C : Oracle) (f : AV) (args : List AV) (fr : Nat) : HM AV :=
  bif qd5 args && qd8 E f then qd9 E C f args fr else qd4 E C f args fr

/-- a value that is put among those of a row: the program's own text is asked, at every room that the row may have -/
def InsOK (C : Oracle) (g z n i : Nat) (es : List AV) : Prop := ∀ (c : Nat) (vals : List Value), n ≤ c → vals.length = c * z → (∀ v, v ∈ vals → qc4 v = true) →
  ∃ (kk : Nat) (cap' : Option Nat) (rows : List (Option (List AV))) (rest : List AV), C g [.ref 0 [] z 0 n (some c), .val (.int .i64 (i : Int)), .sl .snap z 1 none es] [vals.map .val] = some (.ref kk [] z 0 (n + 1) cap', rows) ∧
    rows[kk]? = some (some ((vals.take (i * z)).map .val ++ es ++ ((vals.take (n * z)).drop (i * z)).map .val ++ rest))
noncomputable def guardP {α : Type} (p : Prop) (m : HM α) : HM α := open Classical in if p then m else .fail
noncomputable def insHM (C : Oracle) (g z k n : Nat) (i : Int) (kv fr : Nat) : HM AV := .look kv fun es => guardB (!(kv == k) && qe0 es && decide (es.length = z) && decide (2 ≤ z))
  ((takeOut k []).bind fun ds => guardB (decide (ds.length = n * z) && decide (0 ≤ i) && decide (i ≤ n)) (guardP (InsOK C g z n i.toNat es)
    (.put fr (some (ds.take (i.toNat * z) ++ es ++ ds.drop (i.toNat * z))) (.ret (.ref fr [] z 0 (n + 1) none)))))
noncomputable def insArgs (E : Env) (C : Oracle) (g z : Nat) (args : List AV) (fr : Nat) : HM AV := match args with
  | [.ref k [] z1 0 n _, .val (.int .i64 i), .ref kv [] z2 0 1 _] => guardB (z1 == z && z2 == z) (insHM C g z k n i kv fr)
  | args => qd0 E C (.fn g []) args fr
/-- what is nil in an argument, as a slice without elements -/
def qd3 (z : Nat) : AV → AV
  | .val (.slice none 0 0) => .sl .snap z 0 (some 0) []
  | x => x
def qd2 (z : Nat) : AV → AV
  | .val (.slice none 0 0) => .sl .snap z 0 (some 0) []
  | .agg xs => .agg (xs.map (qd3 z))
  | x => x
def qd1 : Option Nat → List AV → List AV
  | none, xs => xs
  | some z, xs => xs.map (qd2 z)
noncomputable def qd (E : Env) (C : Oracle) (f : AV) (args : List AV) (fr : Nat) : HM AV := match f with
  | .fn g [] => match E.insf g with
    | some z => insArgs E C g z args fr
    | none => qd0 E C (.fn g []) (qd1 (E.wk g) args) fr
  | f => qd0 E C f args fr

def qa1 (E : Env) (b : Builtin) (ts : List TypeId) (xs : List AV) (fr : Nat) : HM AV :=
  match b, ts, xs with
  | .len, t :: _, [x] => match E.row t with
    | some { td := .slice _, .. } => (ofOpt (qb x)).bind fun n => .ret (.val (.int .i64 n))
    | some { td := .string, .. } => match x with
      | .val (.string s) => .ret (.val (.int .i64 s.size))
      | _ => .fail
    | _ => .fail
  | .cap, t :: _, [x] => match E.row t with
    | some { td := .slice _, .. } => match x with
      | .val (.slice none 0 0) => .ret (.val (.int .i64 0))
      | .sl _ _ _ (some q) _ => .ret (.val (.int .i64 q))
      | .ref _ _ _ _ _ (some q) => .ret (.val (.int .i64 q))
      | _ => .fail
    | _ => .fail
  | .min, _, [.val (.int k a), .val (.int _ b)] => .ret (.val (.int k (if b < a then b else a)))
  | .max, _, [.val (.int k a), .val (.int _ b)] => .ret (.val (.int k (if b > a then b else a)))
  | .append, t :: u :: _, [d, s] => match E.row t with
    | some { td := .slice e, .. } => match E.row e, E.row u with
      | some r, some { td := .int _, .. } => match s with
        | .val (.int _ n) => guardB (decide (0 < r.size) && decide (0 ≤ n) && decide (n ≤ LIM)) (qa8 r d n.toNat (zeros r n.toNat) fr)
        | _ => .fail
      | some r, some { td := .slice _, .. } => guardB (decide (0 < r.size)) ((qa9 r s).bind fun (m, new) => qa8 r d m new fr)
      | some r, some { td := .string, .. } => guardB (decide (0 < r.size)) ((qa9 r s).bind fun (m, new) => qa8 r d m new fr)
      | _, _ => .fail
    | _ => .fail
  | .copy, t :: _, [d, s] => match E.row t with
    | some { td := .slice e, .. } => match E.row e with
      | some r => guardB (decide (0 < r.size)) ((qa9 r s).bind fun (m, new) => copyHM r d m new)
      | none => .fail
    | _ => .fail
  | .clear, t :: _, [d] => match E.row t with
    | some { td := .slice e, .. } => match E.row e with
      | some r => clearHM r d
      | none => .fail
    | _ => .fail
  | _, _, _ => .fail

def qb9 (E : Env) (t : TypeId) (f : Nat) : Option (Nat × Row) :=
  match E.row t with
  | some { td := .struct fs, .. } => match fs[f]? with
    | some (off, ft) => match E.row ft with
      | some r => some (off, r)
      | none => none
    | none => none
  | _ => none

def qc (r : Row) (cs : List AV) (off : Nat) : HM AV :=
  guardB (decide (0 < r.size)) ((ofOpt (getR cs off r.size)).bind fun xs => bif r.td.agg then .ret (.agg xs) else match xs with
    | [x] => .ret x
    | _ => .fail)

noncomputable def execOp (E : Env) (C : Oracle) (o : Op) (ev : Operand → AV) (fr : Nat) : HM AV :=
  match o with
  | .move x | .assign x => .ret (ev x)
  | .pick c a b => match ev c with
    | .val (.bool c) => bif c then .ret (ev a) else .ret (ev b)
    | _ => .fail
  | .binOp op t x y _ => match ev x, ev y with
    | .agg xs, .agg ys => aggBin (E.row t) op xs ys
    | u, v => bin ((E.row t).map (·.td)) op u v
  | .unOp op _ x => match op, ev x with
    | .not, .val (.bool b) => .ret (.val (.bool (!b)))
    | .neg, .val (.int k n) => intBin .sub k 0 n
    | .xor, .val (.int k n) => intBin .xor k (if k.signed then -1 else k.max) n
    | _, _ => .fail
  | .call { callee := .builtin b, args, argTypes } => qa1 E b argTypes.toList (args.toList.map ev) fr
  | .call { callee := .value f, args, .. } => qd E C (ev f) (args.toList.map ev) fr
  | .indexAddr t x i => match E.row t, ev i with
    | some { td := .slice e, .. }, .val (.int _ i) => match E.row e with
      | some r => qb3 (ev x) r.size i
      | none => .fail
    | some { td := .array n e, .. }, .val (.int _ i) => match E.row e with
      | some r => guardB (decide (1 < n)) (qb4 (ev x) n r.size i)
      | none => .fail
    | _, _ => .fail
  | .index t x i => match E.row t, ev x, ev i with
    | some { td := .string, .. }, .val (.string s), .val (.int _ i) => guardB (decide (0 ≤ i)) ((ofOpt s[i.toNat]?).bind fun b => .ret (u8 b))
    | some { td := .array n e, .. }, .agg xs, .val (.int _ i) => match E.row e with
      | some r => guardB (decide (0 ≤ i) && decide (i < n)) (qc r xs (i.toNat * r.size))
      | none => .fail
    | _, _, _ => .fail
  | .fieldAddr t x f => match qb9 E t f, ev x with
    | some (off, r), .ptr k p o => guardB (decide (0 < r.size)) (.ret (.ptr k p (o + off)))
    | some (off, r), .rp tg cs o => guardB (decide (0 < r.size)) (.ret (.rp tg cs (o + off)))
    | some (off, r), .bx cs => guardB (decide (0 < r.size) && decide (off < cs.length)) (.ret (.bx (cs.drop off)))
    | _, _ => .fail
  | .field t x f => match qb9 E t f, ev x with
    | some (off, r), .agg xs => qc r xs off
    | _, _ => .fail
  | .load t a => match E.row t with
    | some r => qb1 r (ev a)
    | none => .fail
  | .store t a v => match E.row t with
    | some r => qb0 r (ev a) (ev v)
    | none => .fail
  | .convert s d x => match E.row s, E.row d with
    | some rs, some rd => convHM E.row rs.td rd.td (ev x) fr
    | _, _ => .fail
  | .extract x i => match ev x with
    | .tup xs => ofOpt xs[i]?
    | _ => .fail
  | .nilCheck x => match ev x with
    | .ptr k p o => .ret (.ptr k p o)
    | .rp tg cs o => .ret (.rp tg cs o)
    | .fn f caps => .ret (.fn f caps)
    | _ => .fail
  | .alloc t => match E.row t with
    | some r => .put fr (some (r.zero.map .val)) (.ret (.ptr fr [] 0))
    | none => .fail
  | .box t x => match E.row t with
    | some r => (qc0 (cellsOf (ev x))).bind fun ys => guardB (decide (ys.length = r.size)) (.put fr (some ys) (.ret (.ptr fr [] 0)))
    | none => .fail
  | .build t ps => match E.row t with
    | some { td := .struct fs, zero, .. } => guardB ((fs.all fun f => (E.row f.2).isSome) && ps.toList.all (fun p => qa4 (ev p.2))) ((ofOpt (qa2 (qa3 E fs) (zero.map .val) (ps.toList.map fun (i, x) => (i, cellsOf (ev x))))).bind fun cs => .ret (.agg cs))
    | some { td := .array _ e, zero, .. } => match E.row e with
      | some re => guardB (ps.toList.all (fun p => qa4 (ev p.2))) ((ofOpt (qa2 (fun i => some (i * re.size, re.size)) (zero.map .val) (ps.toList.map fun (i, x) => (i, cellsOf (ev x))))).bind fun cs => .ret (.agg cs))
      | none => .fail
    | _ => .fail
  | .buildSlice t n ps => match E.row t with
    | some { td := .slice e, .. } => match E.row e with
      | some r => guardB (decide (n * r.size ≤ 16777216) && decide (ps.size ≤ n) && qa5 0 (ps.toList.map (·.1)) && ps.toList.all (fun p => qa4 (ev p.2) && decide ((cellsOf (ev p.2)).length = r.size)))
          ((qc0 (ps.toList.flatMap fun p => cellsOf (ev p.2))).bind fun ys => .put fr (some (ys ++ zeros r (n - ps.size))) (.ret (.ref fr [] r.size 0 n (some n))))
      | none => .fail
    | _ => .fail
  | .makeSlice t l c => match E.row t, ev l, ev c with
    | some { td := .slice e, .. }, .val (.int _ n), .val (.int _ m) => match E.row e with
      | some r => guardB (decide (n = m) && decide (0 ≤ n) && decide (n ≤ LIM)) (.put fr (some (zeros r n.toNat)) (.ret (.ref fr [] r.size 0 n.toNat (some n.toNat))))
      | none => .fail
    | _, _, _ => .fail
  | .slice t x lo hi mx => match E.row t with
    | some { td := .slice e, .. } => match E.row e with
      | some r => guardB (zOK r.size (ev x) && (mx.isNone || hi.isSome)) (qa6 (ev x) (lo.map ev) (hi.map ev) (mx.map ev))
      | none => .fail
    | some { td := .string, .. } => match ev x with
      | .val (.string s) => guardB mx.isNone (qa6 (.val (.string s)) (lo.map ev) (hi.map ev) none)
      | _ => .fail
    | _ => .fail
  | .makeFunc (.func f) first caps => guardB (first.size == 0) (.ret (.fn f (caps.toList.map ev)))
  | _ => .fail

structure St where
  T : Nat → AV
  H : Heap
  nx : Nat

def putT (T : Nat → AV) (d : Option Tmp) (v : AV) : Nat → AV :=
  match d with
  | some d => fun t => if t = d then v else T t
  | none => T

mutual
def qc2 (ks : List Nat) : AV → AV
  | .ref k p z off n cap => bif !p.isEmpty && ks.contains k then .und else .ref k p z off n cap
  | .ptr k p off => bif !p.isEmpty && ks.contains k then .und else .ptr k p off
  | .agg xs => .agg (qc3 ks xs)
  | .tup xs => .tup (qc3 ks xs)
  | .fn f xs => .fn f (qc3 ks xs)
  | .bx xs => .bx (qc3 ks xs)
  | x => x
def qc3 (ks : List Nat) : List AV → List AV
  | [] => []
  | x :: xs => qc2 ks x :: qc3 ks xs
end

def killT (ks : List Nat) (T : Nat → AV) : Nat → AV :=
  match ks with
  | [] => T
  | _ :: _ => fun t => qc2 ks (T t)

/-- what stands in the slot of an operation that was not wanted -/
abbrev skipV : AV := .val (.tuple #[])

noncomputable def stepOp {R : Type} (E : Env) (C : Oracle) (ops : Array Oper) (i : Nat) (o : Oper) (S : St) (K : St → Tr → Option R) : Option R :=
  match o.guard with
  | none => (execOp E C o.op (opnd S.T) (S.nx + 8 * i)).run S.H {} fun v H' t => K { S with T := putT (killT t.kl S.T) o.dst v, H := H' } t
  | some (j, want) => match (ops[j]?).bind (·.dst) with
    | some g => match S.T g with
      | .val (.bool b) => bif b == want then
          (execOp E C o.op (opnd S.T) (S.nx + 8 * i)).run S.H {} fun v H' t => K { S with T := putT (killT t.kl S.T) o.dst v, H := H' } t
        else K { S with T := putT S.T o.dst skipV } {}
      | .val (.tuple _) => K { S with T := putT S.T o.dst skipV } {}
      | _ => none
    | none => none

noncomputable def runOps {R : Type} (E : Env) (C : Oracle) (ops : Array Oper) : Nat → List Oper → St → (St → Option R) → Option R
  | _, [], S, K => K S
  | i, o :: os, S, K => stepOp E C ops i o S fun S' _ => runOps E C ops (i + 1) os S' K

def meets (a b : List Nat) : Bool := a.any fun x => b.contains x

/- where parts of rows are led to, in a value -/
mutual
def pathAV : AV → List Nat
  | .ref k p _ _ _ _ => bif p.isEmpty then [] else [k]
  | .ptr k p _ => bif p.isEmpty then [] else [k]
  | .agg xs => pathL xs
  | .tup xs => pathL xs
  | .fn _ xs => pathL xs
  | .bx xs => pathL xs
  | _ => []
def pathL : List AV → List Nat
  | [] => []
  | x :: xs => pathAV x ++ pathL xs
end
mutual
def undAV : AV → Bool
  | .und => true
  | .agg xs => undL xs
  | .tup xs => undL xs
  | .fn _ xs => undL xs
  | .bx xs => undL xs
  | _ => false
def undL : List AV → Bool
  | [] => false
  | x :: xs => undAV x || undL xs
end

/-- what an operation looked at and left: the rows of whose parts it knows; whether it saw a slot that is struck -/
def noteT (ops : Array Oper) (o : Oper) (T T' : Nat → AV) : List Nat × Bool :=
  ((o.looksAt ops).flatMap (fun x => pathAV (T x)) ++ (match o.dst with | some d => pathAV (T' d) | none => []), (o.looksAt ops).any fun x => undAV (T x))

def noted (b : Bool) (ops : Array Oper) (o : Oper) (T T' : Nat → AV) (t : Tr) : Tr := { t with nt := bif b then some (noteT ops o T T') else none }

/-- 'a' stands ahead, and 'b' strikes parts of rows -/
def klA (a b : Tr) : Bool := !b.kl.isEmpty && match a.nt with
  | some (p, _) => meets b.kl p
  | none => true
/-- 'a' stands ahead, and strikes parts of rows -/
def klB (a b : Tr) : Bool := !a.kl.isEmpty && match b.nt with
  | some (p, u) => u || meets a.kl p
  | none => true

def clash (a b : Tr) : Bool := meets a.wr b.wr || meets a.wr b.rd || meets a.rd b.wr || (!a.kl.isEmpty && !b.kl.isEmpty) || klA a b || klB a b

/-- 'i' stands before 'j' in every order -/
def bef (ops : Array Oper) : Nat → Nat → Nat → Bool
  | 0, _, _ => false
  | n + 1, i, j => match ops[j]? with
    | some o => o.after.any fun e => Region.binds .any e && (e.on == i || bef ops n i e.on)
    | none => false

/-- of each two operations that may change places: they touch nothing in common that one writes -/
def qa0 (ord : Nat → Nat → Bool) : List (Nat × Tr) → Bool
  | [] => true
  | (j, t) :: r => r.all (fun (i, s) => !clash s t || ord i j) && qa0 ord r

noncomputable def runOpsD {R : Type} (nb : Bool) (E : Env) (C : Oracle) (ops : Array Oper) : Nat → List Oper → List (Nat × Tr) → St → (St → Option R) → Option R
  | _, [], tr, S, K => bif qa0 (bef ops 8) tr then K S else none
  | i, o :: os, tr, S, K => stepOp E C ops i o S fun S' t => runOpsD nb E C ops (i + 1) os ((i, noted nb ops o S.T S'.T t) :: tr) S' K

inductive Ex where
  | normal | exit (id : Nat) | ret
  deriving DecidableEq

def qa : Code → Nat
  | .region id _ _ => id
  | .seq a _ => qa a
  | .block _ c => qa c
  | .loop c => qa c
  | _ => 0

def tp (l : List (Nat × AV)) : Nat → AV := fun t => match l with
  | [] => .und
  | (a, x) :: r => if t = a then x else tp r t

def hp (l : List (Option (List AV))) : Heap := fun k => (l[k]?).join

/- at a loop's head: the slots that live, and the rows that they lead to, named anew -/
mutual
def qf6 : AV → List Nat
  | .ref k _ _ _ _ _ => [k]
  | .ptr k _ _ => [k]
  | .agg xs => qf5 xs
  | .tup xs => qf5 xs
  | .fn _ xs => qf5 xs
  | .bx xs => qf5 xs
  | _ => []
def qf5 : List AV → List Nat
  | [] => []
  | x :: xs => qf6 x ++ qf5 xs
end

def qf4 (L : Nat) (T : List AV) : List Nat := ((qf5 T).filter fun k => decide (L ≤ k)).eraseDups

/-- the rows that are kept, in their new order -/
def keep (L : Nat) (T : List AV) : List Nat := List.range L ++ qf4 L T

def norm (L : Nat) (T : List Nat) (S : St) : St :=
  { T := tp (T.map fun t => (t, qe9 (fun k => (keep L (T.map S.T)).idxOf k) (S.T t)))
    H := hp ((keep L (T.map S.T)).map S.H)
    nx := (keep L (T.map S.T)).length }

def LF : Nat := 2 ^ 50

def evLoop {R : Type} (nrm : St → St) (f : St → (Ex → St → Option R) → Option R) : Nat → St → (Ex → St → Option R) → Option R
  | 0, _, _ => none
  | n + 1, S, K => f (nrm S) fun e S1 => match e with
    | .normal => evLoop nrm f n S1 K
    | e => K e S1

/-- a region that begins with the boxing of a parameter that is only read: what it leads to may be written -/
noncomputable def evBox {R : Type} (E : Env) (C : Oracle) (ops : Array Oper) (S : St) (K : St → Option R) : Option R :=
  match ops.toList with
  | { op := .box t x, dst := some dd, guard := none, .. } :: os => match E.row t, opnd S.T x with
    | some r, .agg cs => bif decide (cs.length = r.size) && !cs.isEmpty then runOps E C ops 1 os { S with T := putT S.T (some dd) (.bx cs) } K else none
    | _, _ => none
  | os => runOps E C ops 0 os S K

/-- between two parts of a function's text: what lives no more is left -/
def cutS (E : Env) (L : Nat) (f : FuncId) (b : Code) (S : St) : St :=
  bif E.cutf f then (match E.cut f (qa b) with | some l => norm L l S | none => S) else S

/-- what both roads come to -/
noncomputable def both {R : Type} (a b : Option R) : Option R := open Classical in if a = b then a else none

noncomputable def evC {R : Type} (E : Env) (C : Oracle) (L : Nat) (f : FuncId) : Code → St → (Ex → St → Option R) → Option R
  | .skip, S, K => K .normal S
  | .region _ ops false, S, K => bif E.boxf f then evBox E C ops S fun S' => K .normal { S' with nx := S'.nx + 8 * ops.size } else runOps E C ops 0 ops.toList S fun S' => K .normal { S' with nx := S'.nx + 8 * ops.size }
  | .region _ ops true, S, K => runOpsD (E.notef f) E C ops 0 ops.toList [] S fun S' => K .normal { S' with nx := S'.nx + 8 * ops.size }
  | .seq a b, S, K => evC E C L f a S fun e S1 => match e with
    | .normal => evC E C L f b (cutS E L f b S1) K
    | e => K e S1
  | .cond c t e, S, K => match opnd S.T c with
    | .val (.bool b) => bif b then evC E C L f t S K else evC E C L f e S K
    | .bx [] => both (evC E C L f t S K) (evC E C L f e S K)
    | _ => none
  | .block id c, S, K => evC E C L f c S fun e S1 => match e with
    | .exit i => if i = id then K .normal S1 else K (.exit i) S1
    | e => K e S1
  | .loop c, S, K => evLoop (norm L (E.live f (qa c))) (evC E C L f c) LF S K
  | .exit id, S, K => K (.exit id) S
  | .ret, S, K => K .ret S
  | _, _, _ => none

mutual
/-- nothing in it that was only lent to be read -/
def qf1 : AV → Bool
  | .sl .own _ _ _ cs => qf2 cs
  | .sl .fgn .. => true
  | .sl .snap .. => false
  | .rp .fgn .. => true
  | .rp .. => false
  | .agg xs => qf2 xs
  | .tup xs => qf2 xs
  | .fn _ xs => qf2 xs
  | .bx _ => false
  | _ => true
def qf2 : List AV → Bool
  | [] => true
  | x :: xs => qf1 x && qf2 xs
end

def qf3 : List (Option (List AV)) → Bool
  | [] => true
  | some x :: xs => qf2 x && qf3 xs
  | none :: xs => qf3 xs

def resOf (E : Env) (T : Nat → AV) : List ResultVar → HM (List AV)
  | [] => .ret []
  | .tmp t :: r => (resOf E T r).bind fun xs => .ret (T t :: xs)
  | .cell a t :: r => match E.row t with
    | some row => (qb1 row (T a)).bind fun x => (resOf E T r).bind fun xs => .ret (x :: xs)
    | none => .fail

def resa : List AV → AV
  | [x] => x
  | xs => .tup xs

/-- a row that may be nil, if it is empty -/
def qf0 (wk : Option Nat) (x : AV) : AV := match wk with
  | none => x
  | some z => match x with
    | .val (.slice none 0 0) => .sl .fgn z 0 (some 0) []
    | .ref _ _ z' _ n cap => bif decide (n = 0) && z' == z then .sl .fgn z 0 cap [] else x
    | x => x

def finish (E : Env) (wk : Option Nat) (L : Nat) (rs : List ResultVar) (S : St) : Option (AV × List (Option (List AV))) :=
  (resOf E S.T rs).run S.H {} fun xs H _ =>
    bif qf1 (qf0 wk (resa xs)) && qf3 ((keep L [qf0 wk (resa xs)]).map H) then some (qe9 (fun k => (keep L [qf0 wk (resa xs)]).idxOf k) (qf0 wk (resa xs)), (keep L [qf0 wk (resa xs)]).map H) else none

noncomputable def evFun (E : Env) : Nat → Oracle
  | 0, _, _, _ => none
  | d + 1, f, args, cts => match E.body f with
    | some (c, rs) => evC E (evFun E d) cts.length f c
        { T := fun t => args.getD t .und, H := hp (cts.map some), nx := cts.length }
        fun e S => match e with
          | .exit _ => none
          | .normal => finish E (E.wk f) cts.length rs S
          | .ret => finish E (E.wk f) cts.length rs S
    | none => E.hand f args cts

end Go.Proofs.Ythgopooldcheeaa.VH
end

section
namespace Go.Proofs.Ythgopooldcheeaa.VH

/- What the evaluator's values stand for in memory. -/

def RBlk (w : World) (b : Nat) (arr : Array Value) : Prop := ∃ e fr, w.heap[b]? = some (.cells arr e fr)
def OBlk (w : World) (b : Nat) (arr : Array Value) : Prop := ∃ e fr, w.heap[b]? = some (.cells arr e fr) ∧ (∀ i, i < arr.size → ¬ (fr.1 ≤ i ∧ i < fr.2)) ∧ ∀ i (h : i < arr.size), qc4 arr[i] = true

/-- a block that bears no mark of a text's bytes -/
def Unm (w : World) (b : Nat) : Prop := ∀ arr e fr, w.heap[b]? = some (.cells arr e fr) → ¬ (fr.1 ≤ arr.size ∧ arr.size < fr.2)
theorem Unm.agree {w w' : World} {b : Nat} (h : Unm w b) (e : w'.heap[b]? = w.heap[b]?) : Unm w' b := fun arr t fr hh => h arr t fr (e ▸ hh)

theorem OBlk.rblk {w : World} {b : Nat} {arr : Array Value} (h : OBlk w b arr) : RBlk w b arr := let ⟨e, fr, h, _⟩ := h; ⟨e, fr, h⟩
theorem RBlk.uniq {w : World} {b : Nat} {x y : Array Value} (h : RBlk w b x) (k : RBlk w b y) : x = y := by
  obtain ⟨e, fr, h⟩ := h
  obtain ⟨e', fr', k⟩ := k
  rw [h] at k
  injection k with k
  injection k
theorem RBlk.agree {w w' : World} {b : Nat} {x : Array Value} (h : RBlk w b x) (e : w'.heap[b]? = w.heap[b]?) : RBlk w' b x := by
  obtain ⟨t, fr, h⟩ := h; exact ⟨t, fr, e.trans h⟩
theorem RBlk.back {w w' : World} {b : Nat} {x : Array Value} (h : RBlk w' b x) (e : w'.heap[b]? = w.heap[b]?) : RBlk w b x := by
  obtain ⟨t, fr, h⟩ := h; exact ⟨t, fr, e.symm.trans h⟩
theorem OBlk.agree {w w' : World} {b : Nat} {x : Array Value} (h : OBlk w b x) (e : w'.heap[b]? = w.heap[b]?) : OBlk w' b x := by
  obtain ⟨t, fr, h, hf⟩ := h; exact ⟨t, fr, e.trans h, hf⟩
theorem RBlk.lt {w : World} {b : Nat} {x : Array Value} (h : RBlk w b x) : b < w.heap.size := by
  obtain ⟨t, fr, h⟩ := h
  exact (Array.getElem?_eq_some_iff.mp h).1

/-- memory that is only read: all of it lies in blocks of 'S' -/
inductive RD (w : World) (S : Nat → Prop) : AV → Value → Prop
  | und (v : Value) (h : qc4 v = true) : RD w S .und v
  | val (v : Value) (h : qc4 v = true) : RD w S (.val v) v
  | sl (tg : Tg) (z n : Nat) (cap : Option Nat) (cs : List AV) (b o c : Nat) (arr : Array Value) (vs : Nat → Value) (hS : S b) (hb : RBlk w b arr) (hn : n ≤ c)
      (hc : ∀ q, cap = some q → c = q) (hl : cs.length = n * z) (hv : ∀ j, j < cs.length → arr[o + j]? = some (vs j))
      (hr : ∀ j (h : j < cs.length), RD w S cs[j] (vs j)) : RD w S (.sl tg z n cap cs) (.slice (some ⟨b, o, none⟩) n c)
  | nil (tg : Tg) (z : Nat) (cap : Option Nat) (A : Option Addr) (c : Nat) (hc : ∀ q, cap = some q → c = q) : RD w S (.sl tg z 0 cap []) (.slice A 0 c)

theorem RD.leaf {w : World} {S : Nat → Prop} {x : AV} {v : Value} (h : RD w S x v) : qc4 v = true := by cases h <;> first | assumption | rfl

theorem RD.mono {w w' : World} {S S' : Nat → Prop} {x : AV} {v : Value} (h : RD w S x v) (hS : ∀ b, S b → S' b) (hw : ∀ b, S b → w'.heap[b]? = w.heap[b]?) : RD w' S' x v := by
  induction h with
  | und v h => exact .und v h
  | val v h => exact .val v h
  | sl tg z n cap cs b o c arr vs h1 h2 h3 h4 h5 h6 h7 ih => exact .sl tg z n cap cs b o c arr vs (hS _ h1) (h2.agree (hw _ h1)) h3 h4 h5 h6 ih
  | nil tg z cap A c hc => exact .nil tg z cap A c hc

structure Cx where
  w0 : World
  Fo : Nat → Prop
  Fg : Nat → Prop

/-- memory that is owned: each cell, and the blocks that it holds -/
inductive OW (X : Cx) (w : World) : AV → Value → (Nat → Prop) → Prop
  | und (v : Value) (T : Nat → Prop) (h : qc4 v = true) : OW X w .und v T
  | val (v : Value) (T : Nat → Prop) (h : qc4 v = true) : OW X w (.val v) v T
  | fgn (z n : Nat) (cap : Option Nat) (cs : List AV) (v : Value) (T : Nat → Prop) (h : RD X.w0 X.Fg (.sl .fgn z n cap cs) v) : OW X w (.sl .fgn z n cap cs) v T
  | snap (z n : Nat) (cap : Option Nat) (cs : List AV) (v : Value) (T : Nat → Prop) (h : RD X.w0 X.Fo (.sl .snap z n cap cs) v) : OW X w (.sl .snap z n cap cs) v T
  | own (z n : Nat) (cap : Option Nat) (cs : List AV) (b o c : Nat) (arr : Array Value) (vs : Nat → Value) (Ts : Nat → Nat → Prop) (T : Nat → Prop)
      (hb : OBlk w b arr) (hT : T b) (hn : n ≤ c) (hc : ∀ q, cap = some q → c = q) (hl : cs.length = n * z) (hz : o + c * z ≤ arr.size)
      (hv : ∀ j, j < cs.length → arr[o + j]? = some (vs j)) (hr : ∀ j (h : j < cs.length), OW X w cs[j] (vs j) (Ts j))
      (hs : ∀ j, j < cs.length → ∀ x, Ts j x → T x) (hd : ∀ j, j < cs.length → ¬ Ts j b)
      (ha : ∀ i j, i < cs.length → j < cs.length → i ≠ j → ∀ x, Ts i x → ¬ Ts j x) (hu : 2 ≤ z → Unm w b) : OW X w (.sl .own z n cap cs) (.slice (some ⟨b, o, none⟩) n c) T
  | nil (z : Nat) (cap : Option Nat) (A : Option Addr) (T : Nat → Prop) (hc : ∀ q, cap = some q → 0 = q) : OW X w (.sl .own z 0 cap []) (.slice A 0 0) T

/-- a row of cells -/
def Cells (X : Cx) (w : World) (b o : Nat) (cs : List AV) (T : Nat → Prop) : Prop :=
  ∃ (arr : Array Value) (vs : Nat → Value) (Ts : Nat → Nat → Prop), OBlk w b arr ∧ T b ∧ o + cs.length ≤ arr.size ∧
    (∀ j, j < cs.length → arr[o + j]? = some (vs j)) ∧ (∀ j (h : j < cs.length), OW X w cs[j] (vs j) (Ts j)) ∧
    (∀ j, j < cs.length → ∀ x, Ts j x → T x) ∧ (∀ j, j < cs.length → ¬ Ts j b) ∧
    (∀ i j, i < cs.length → j < cs.length → i ≠ j → ∀ x, Ts i x → ¬ Ts j x)

theorem OW.leaf {X : Cx} {w : World} {x : AV} {v : Value} {T : Nat → Prop} (h : OW X w x v T) : qc4 v = true := by
  cases h <;> first | assumption | rfl | exact RD.leaf ‹_›

theorem OW.agree {X : Cx} {w w' : World} {x : AV} {v : Value} {T : Nat → Prop} (h : OW X w x v T) : (∀ b, T b → w'.heap[b]? = w.heap[b]?) → OW X w' x v T := by
  induction h with
  | und _ _ h => exact fun _ => .und _ _ h
  | val _ _ h => exact fun _ => .val _ _ h
  | fgn _ _ _ _ _ _ h => exact fun _ => .fgn _ _ _ _ _ _ h
  | snap _ _ _ _ _ _ h => exact fun _ => .snap _ _ _ _ _ _ h
  | own z n cap cs b o c arr vs Ts T h1 h2 h3 h4 h5 h6 h7 h8 h9 h10 h11 h12 ih =>
    exact fun hw => .own z n cap cs b o c arr vs Ts T (h1.agree (hw _ h2)) h2 h3 h4 h5 h6 h7 (fun j hj => ih j hj fun x hx => hw _ (h9 j hj x hx)) h9 h10 h11 fun hz => (h12 hz).agree (hw _ h2)
  | nil _ _ _ _ h => exact fun _ => .nil _ _ _ _ h

theorem Cells.agree {X : Cx} {w w' : World} {b o : Nat} {cs : List AV} {T : Nat → Prop} (h : Cells X w b o cs T) (hw : ∀ b, T b → w'.heap[b]? = w.heap[b]?) : Cells X w' b o cs T := by
  obtain ⟨arr, vs, Ts, h1, h2, h3, h4, h5, h6, h7, h8⟩ := h
  exact ⟨arr, vs, Ts, h1.agree (hw _ h2), h2, h3, h4, fun j hj => (h5 j hj).agree fun x hx => hw _ (h6 j hj x hx), h6, h7, h8⟩

/-- what is owned, as memory that is read -/
theorem OW.rd {X : Cx} {w : World} {S : Nat → Prop} (hFo : ∀ b, X.Fo b → S b) (hFg : ∀ b, X.Fg b → S b) (hfr : ∀ b, X.Fo b → w.heap[b]? = X.w0.heap[b]?) (hfg : ∀ b, X.Fg b → w.heap[b]? = X.w0.heap[b]?)
    {x : AV} {v : Value} {T : Nat → Prop} (h : OW X w x v T) : (∀ b, T b → S b) → RD w S x v := by
  induction h with
  | und _ _ h => exact fun _ => .und _ h
  | val _ _ h => exact fun _ => .val _ h
  | fgn _ _ _ _ _ _ h => exact fun _ => h.mono hFg hfg
  | snap _ _ _ _ _ _ h => exact fun _ => h.mono hFo hfr
  | own z n cap cs b o c arr vs Ts T h1 h2 h3 h4 h5 h6 h7 h8 h9 h10 h11 h12 ih =>
    exact fun hT => .sl _ z n cap cs b o c arr vs (hT _ h2) h1.rblk h3 h4 h5 h7 (fun j hj => ih j hj fun x hx => hT _ (h9 j hj x hx))
  | nil _ _ _ _ h => exact fun _ => .nil _ _ _ _ _ h

/-- where the cells at a path lie: 'none': a slice without room -/
def LocQ (w : World) : Option (Nat × Nat) → List AV → List Nat → Option (Nat × Nat) → List AV → Prop
  | m, cs, [], r, ds => r = m ∧ ds = cs
  | none, _, _ :: _, _, _ => False
  | some (b, o), cs, i :: p, r, ds => ∃ z n cap es A c, cs[i]? = some (.sl .own z n cap es) ∧ w.cell? ⟨b, o + i, none⟩ = some (.slice A n c) ∧
      ((c = 0 ∧ LocQ w none es p r ds) ∨ (0 < c ∧ ∃ b1 o1, A = some ⟨b1, o1, none⟩ ∧ LocQ w (some (b1, o1)) es p r ds))

theorem cell?_of {w : World} {b i : Nat} {arr : Array Value} (h : RBlk w b arr) : w.cell? ⟨b, i, none⟩ = arr[i]? := by
  obtain ⟨e, fr, h⟩ := h
  simp [World.cell?, h]

theorem sub_cons {cs ds : List AV} {i : Nat} {p : List Nat} (h : sub (i :: p) cs = some ds) : ∃ z n cap es, cs[i]? = some (.sl .own z n cap es) ∧ sub p es = some ds := by
  simp only [sub] at h
  split at h
  · exact ⟨_, _, _, _, ‹_›, h⟩
  · exact absurd h (by simp)

theorem modp_cons {cs : List AV} {i z n : Nat} {cap : Option Nat} {es : List AV} {p : List Nat} (h : cs[i]? = some (.sl .own z n cap es)) (f : List AV → List AV) : modp (i :: p) f cs = cs.set i (.sl .own z n cap (modp p f es)) := by
  simp only [modp, h]

theorem sub_len {cs ds : List AV} {p : List Nat} (h : sub p cs = some ds) (f : List AV → List AV) : (modp p f cs).length = if p = [] then (f ds).length else cs.length := by
  cases p with
  | nil => simp [sub] at h; subst h; simp [modp]
  | cons i p =>
    obtain ⟨z, n, cap, es, hi, _⟩ := sub_cons h
    rw [modp_cons hi]; simp

theorem modp_congr {ds : List AV} {f g : List AV → List AV} : ∀ {p : List Nat} {cs : List AV}, sub p cs = some ds → f ds = g ds → modp p f cs = modp p g cs := by
  intro p
  induction p with
  | nil => intro cs h e; simp [sub] at h; subst h; simpa [modp] using e
  | cons i p ih =>
    intro cs h e
    obtain ⟨z, n, cap, es, hi, hs⟩ := sub_cons h
    rw [modp_cons hi, modp_cons hi, ih hs e]

/-- THE FOCUS: what lies at a path, and what comes of the whole when that alone is changed -/
theorem focus {X : Cx} {w : World} : ∀ {p : List Nat} {b o : Nat} {cs ds : List AV} {T : Nat → Prop}, Cells X w b o cs T → sub p cs = some ds →
    (∃ m ds0, LocQ w (some (b, o)) cs p m ds0 ∧ m = none ∧ ds0 = ds ∧ ds = []) ∨
    ∃ b' o' T', LocQ w (some (b, o)) cs p (some (b', o')) ds ∧ Cells X w b' o' ds T' ∧ (∀ x, T' x → T x) ∧
      ∀ (w' : World) (ds' : List AV) (T'' : Nat → Prop), ds'.length = ds.length → Cells X w' b' o' ds' T'' →
        (∀ x arr arr', T x → RBlk w x arr → RBlk w' x arr' → arr'.size = arr.size ∧ (Unm w x → Unm w' x)) → (∀ x, T x → ¬ T' x → w'.heap[x]? = w.heap[x]?) → (∀ x, T'' x → T x → T' x) →
        ∃ Tn, Cells X w' b o (modp p (fun _ => ds') cs) Tn ∧ ∀ x, Tn x → T'' x ∨ (T x ∧ ¬ T' x) := by
  intro p
  induction p with
  | nil =>
    intro b o cs ds T h hs
    simp [sub] at hs; subst hs
    right
    refine ⟨b, o, T, ⟨rfl, rfl⟩, h, fun _ h => h, ?_⟩
    intro w' ds' T'' hl hc _ _ _
    exact ⟨T'', hc, fun x hx => .inl hx⟩
  | cons i p ih =>
    intro b o cs ds T h hs
    obtain ⟨z, n, cap, es, hi, hs⟩ := sub_cons hs
    obtain ⟨arr, vs, Ts, h1, h2, h3, h4, h5, h6, h7, h8⟩ := h
    obtain ⟨hil, hie⟩ := List.getElem?_eq_some_iff.mp hi
    have hcell : w.cell? ⟨b, o + i, none⟩ = some (vs i) := by rw [cell?_of h1.rblk]; exact h4 i hil
    have hO := h5 i hil
    rw [hie] at hO
    generalize hv : vs i = v at hO hcell
    generalize hTi : Ts i = Ti at hO
    cases hO with
    | nil _ _ A _ hc =>
      left
      cases p with
      | nil =>
        simp [sub] at hs; subst hs
        exact ⟨none, [], ⟨z, 0, cap, [], A, 0, hi, hcell, .inl ⟨rfl, rfl, rfl⟩⟩, rfl, rfl, rfl⟩
      | cons j p => obtain ⟨_, _, _, _, hj, _⟩ := sub_cons hs; simp at hj
    | own _ _ _ _ b1 o1 c arr1 vs1 Ts1 _ g1 g2 g3 g4 g5 g6 g7 g8 g9 g10 g11 g12 =>
      by_cases hc0 : c = 0
      · left
        subst hc0
        have hn0 : n = 0 := by omega
        subst hn0
        have hes : es = [] := List.eq_nil_of_length_eq_zero (by simpa using g5)
        subst hes
        cases p with
        | nil =>
          simp [sub] at hs; subst hs
          exact ⟨none, [], ⟨z, 0, cap, [], _, 0, hi, hcell, .inl ⟨rfl, rfl, rfl⟩⟩, rfl, rfl, rfl⟩
        | cons j p => obtain ⟨_, _, _, _, hj, _⟩ := sub_cons hs; simp at hj
      · have hC : Cells X w b1 o1 es Ti := ⟨arr1, vs1, Ts1, g1, g2, by rw [g5]; have := Nat.mul_le_mul_right z g3; omega, g7, g8, g9, g10, g11⟩
        rcases ih hC hs with ⟨m, ds0, q1, q2, q3, q4⟩ | ⟨b', o', T', q1, q2, q3, q4⟩
        · exact .inl ⟨m, ds0, ⟨z, n, cap, es, _, c, hi, hcell, .inr ⟨by omega, b1, o1, rfl, q1⟩⟩, q2, q3, q4⟩
        · right
          have hTiT : ∀ x, Ti x → T x := fun x hx => h6 i hil x (by rw [hTi]; exact hx)
          refine ⟨b', o', T', ⟨z, n, cap, es, _, c, hi, hcell, .inr ⟨by omega, b1, o1, rfl, q1⟩⟩, q2, fun x hx => hTiT x (q3 x hx), ?_⟩
          intro w' ds' T'' hl hc' hsz hag hnew
          obtain ⟨Tn1, r1, r2⟩ := q4 w' ds' T'' hl hc' (fun x a a' hx => hsz x a a' (hTiT x hx)) (fun x hx hnx => hag x (hTiT x hx) hnx) (fun x hx ht => hnew x hx (hTiT x ht))
          have hbT' : ¬ T' b := fun hx => h7 i hil (by rw [hTi]; exact q3 b hx)
          have hb' : OBlk w' b arr := h1.agree (hag b h2 hbT')
          refine ⟨fun x => T'' x ∨ (T x ∧ ¬ T' x), ?_, fun x hx => hx⟩
          rw [modp_cons hi]
          obtain ⟨arr2, vs2, Ts2, s1, s2, s3, s4, s5, s6, s7, s8⟩ := r1
          have hlen : (modp p (fun _ => ds') es).length = es.length := by
            rw [sub_len hs]
            split
            · rename_i hp; subst hp; simp [sub] at hs; subst hs; exact hl
            · rfl
          have hsize : arr2.size = arr1.size := (hsz b1 arr1 arr2 (hTiT _ g2) g1.rblk s1.rblk).1
          refine ⟨arr, vs, fun j => if j = i then Tn1 else Ts j, hb', .inr ⟨h2, hbT'⟩, by simpa using h3, fun j hj => h4 j (by simpa using hj), ?_, ?_, ?_, ?_⟩
          · intro j hj
            by_cases hji : j = i
            · subst hji
              simp only [List.getElem_set_self, if_true]
              rw [hv]
              exact .own z n cap _ b1 o1 c arr2 vs2 Ts2 Tn1 s1 s2 g3 g4 (by rw [hlen]; exact g5) (by rw [hsize]; exact g6) s4 s5 s6 s7 s8 fun hz => (hsz b1 arr1 arr2 (hTiT _ g2) g1.rblk s1.rblk).2 (g12 hz)
            · rw [List.getElem_set_ne (by omega)]
              simp only [hji, if_false]
              refine (h5 j (by simpa using hj)).agree fun x hx => hag x (h6 j (by simpa using hj) x hx) fun hx' => ?_
              exact h8 j i (by simpa using hj) hil hji x hx (by rw [hTi]; exact q3 x hx')
          · intro j hj x hx
            by_cases hji : j = i
            · simp only [hji, if_true] at hx
              rcases r2 x hx with hx | ⟨hx, hx'⟩
              · exact .inl hx
              · exact .inr ⟨hTiT x hx, hx'⟩
            · simp only [hji, if_false] at hx
              exact .inr ⟨h6 j (by simpa using hj) x hx, fun hx' => h8 j i (by simpa using hj) hil hji x hx (by rw [hTi]; exact q3 x hx')⟩
          · intro j hj hx
            by_cases hji : j = i
            · simp only [hji, if_true] at hx
              rcases r2 b hx with hx | ⟨hx, hx'⟩
              · exact hbT' (hnew b hx h2)
              · exact h7 i hil (by rw [hTi]; exact hx)
            · simp only [hji, if_false] at hx
              exact h7 j (by simpa using hj) hx
          · intro j j' hj hj' hne x hx hx'
            simp only [List.length_set] at hj hj'
            have key : ∀ j, j < cs.length → j ≠ i → Ts j x → Tn1 x → False := by
              intro j hj hji ht hn
              rcases r2 x hn with hn | ⟨hn, _⟩
              · exact h8 j i hj hil hji x ht (by rw [hTi]; exact q3 x (hnew x hn (h6 j hj x ht)))
              · exact h8 j i hj hil hji x ht (by rw [hTi]; exact hn)
            by_cases hji : j = i
            · by_cases hj'i : j' = i
              · omega
              · simp only [hji, if_true] at hx
                simp only [hj'i, if_false] at hx'
                exact key j' hj' hj'i hx' hx
            · simp only [hji, if_false] at hx
              by_cases hj'i : j' = i
              · simp only [hj'i, if_true] at hx'
                exact key j hj hji hx hx'
              · simp only [hj'i, if_false] at hx'
                exact h8 j j' hj hj' hne x hx hx'

end Go.Proofs.Ythgopooldcheeaa.VH
end

section
namespace Go.Proofs.Ythgopooldcheeaa.VH

/- Slots, and the whole relation. -/

def RefOK (w : World) (r : Option (Nat × Nat)) (off z c : Nat) (cap : Option Nat) (A : Option Addr) (len : Nat) : Prop :=
  match r with
  | none => c = 0
  | some (b, o) => (c = 0 ∧ (cap = none → len ≤ off)) ∨ (A = some ⟨b, o + off, none⟩ ∧ (cap = none → len ≤ off + c * z) ∧ ∀ arr, RBlk w b arr → o + off + c * z ≤ arr.size ∧ (2 ≤ z → Unm w b))

def tagS (X : Cx) : Tg → Nat → Prop
  | .fgn => X.Fg
  | _ => X.Fo

inductive RV (X : Cx) (μ : Nat → Option (Nat × Nat)) (H : Heap) (w : World) : AV → Value → Prop
  | und (v : Value) : RV X μ H w .und v
  | val (v : Value) : RV X μ H w (.val v) v
  | sl (tg : Tg) (z n : Nat) (cap : Option Nat) (cs : List AV) (v : Value) (ht : tg ≠ .own) (h : RD X.w0 (tagS X tg) (.sl tg z n cap cs) v) : RV X μ H w (.sl tg z n cap cs) v
  | ref (k : Nat) (p : List Nat) (z off n : Nat) (cap : Option Nat) (A : Option Addr) (c : Nat) (hn : n ≤ c) (hc : ∀ q, cap = some q → c = q) (hA : A = none → c = 0)
      (h : ∀ cs r ds, H k = some cs → LocQ w (μ k) cs p r ds → RefOK w r off z c cap A ds.length) : RV X μ H w (.ref k p z off n cap) (.slice A n c)
  | bx (b : Bool) : RV X μ H w (.bx []) (.bool b)
  | box (cs : List AV) (b o : Nat) (arr : Array Value) (vs : Nat → Value) (hne : cs ≠ []) (hS : X.Fo b) (hb : RBlk X.w0 b arr) (hv : ∀ j, j < cs.length → arr[o + j]? = some (vs j)) (hf : ∀ j, j < cs.length → qc4 (vs j) = true) (hr : ∀ j (h : j < cs.length), RV X μ H w cs[j] (vs j)) : RV X μ H w (.bx cs) (.pointer (some ⟨b, o, none⟩))
  | ptr (k : Nat) (p : List Nat) (off : Nat) (a : Addr) (h : ∀ cs b o ds, H k = some cs → LocQ w (μ k) cs p (some (b, o)) ds → a = ⟨b, o + off, none⟩) : RV X μ H w (.ptr k p off) (.pointer (some a))
  | rp (tg : Tg) (cs : List AV) (off b o : Nat) (arr : Array Value) (vs : Nat → Value) (ht : tg ≠ .own) (hS : tagS X tg b) (hb : RBlk X.w0 b arr)
      (hv : ∀ j, j < cs.length → arr[o + j]? = some (vs j)) (hr : ∀ j (h : j < cs.length), RD X.w0 (tagS X tg) cs[j] (vs j)) : RV X μ H w (.rp tg cs off) (.pointer (some ⟨b, o + off, none⟩))
  | agg (xs : List AV) (vs : Array Value) (hl : vs.size = xs.length) (hf : ∀ i (h : i < vs.size), qc4 vs[i] = true) (h : ∀ i (h : i < xs.length) (h' : i < vs.size), RV X μ H w xs[i] vs[i]) : RV X μ H w (.agg xs) (.agg vs)
  | tup (xs : List AV) (vs : Array Value) (hl : vs.size = xs.length) (h : ∀ i (h : i < xs.length) (h' : i < vs.size), RV X μ H w xs[i] vs[i]) : RV X μ H w (.tup xs) (.tuple vs)
  | fn (f : FuncId) (xs : List AV) (vs : Array Value) (hl : vs.size = xs.length) (h : ∀ i (h : i < xs.length) (h' : i < vs.size), RV X μ H w xs[i] vs[i]) : RV X μ H w (.fn f xs) (.func (.func f) #[] vs)

structure Cx.WF (X : Cx) : Prop where
  fo : ∀ b, X.Fo b → b < X.w0.heap.size
  fg : ∀ b, X.Fg b → X.Fo b

def Root (X : Cx) (w : World) (m : Option (Nat × Nat)) (cs : List AV) (T : Nat → Prop) : Prop :=
  match m with
  | none => cs = []
  | some (b, o) => Cells X w b o cs T

structure Rel (X : Cx) (μ : Nat → Option (Nat × Nat)) (F : Nat → Nat → Prop) (H : Heap) (w : World) (G : Nat → Prop) : Prop where
  os : w.os = X.w0.os
  tape : w.tape = X.w0.tape
  output : w.output = X.w0.output
  size : X.w0.heap.size ≤ w.heap.size
  frame : ∀ b, X.Fo b → w.heap[b]? = X.w0.heap[b]?
  root : ∀ k cs, H k = some cs → Root X w (μ k) cs (F k)
  sep : ∀ k k' cs cs', k ≠ k' → H k = some cs → H k' = some cs' → ∀ b, F k b → ¬ F k' b
  out : ∀ k cs b, H k = some cs → F k b → ¬ X.Fo b ∧ b < w.heap.size ∧ ¬ G b
  gout : ∀ b, G b → ¬ X.Fo b ∧ b < w.heap.size

theorem LocQ.agree {X : Cx} {w w' : World} : ∀ {p : List Nat} {b o : Nat} {cs ds : List AV} {T : Nat → Prop} {r : Option (Nat × Nat)}, Cells X w b o cs T → (∀ x, T x → w'.heap[x]? = w.heap[x]?) →
    LocQ w' (some (b, o)) cs p r ds → LocQ w (some (b, o)) cs p r ds := by
  intro p
  induction p with
  | nil => intro b o cs ds T r _ _ h; exact h
  | cons i p ih =>
    intro b o cs ds T r hC hw h
    obtain ⟨z, n, cap, es, A, c, hi, hcell, hq⟩ := h
    obtain ⟨arr, vs, Ts, h1, h2, h3, h4, h5, h6, h7, h8⟩ := hC
    obtain ⟨hil, hie⟩ := List.getElem?_eq_some_iff.mp hi
    have e1 : w.cell? ⟨b, o + i, none⟩ = some (vs i) := by rw [cell?_of h1.rblk]; exact h4 i hil
    have e2 : w'.cell? ⟨b, o + i, none⟩ = some (vs i) := by rw [cell?_of (h1.agree (hw _ h2)).rblk]; exact h4 i hil
    rw [e2] at hcell
    refine ⟨z, n, cap, es, A, c, hi, e1.trans hcell, ?_⟩
    rcases hq with ⟨hc, hq⟩ | ⟨hc, b1, o1, hA, hq⟩
    · left
      refine ⟨hc, ?_⟩
      cases p with
      | nil => exact hq
      | cons j p => exact hq.elim
    · right
      refine ⟨hc, b1, o1, hA, ?_⟩
      have hO := h5 i hil
      rw [hie] at hO
      have hv : vs i = .slice A n c := Option.some.inj hcell
      rw [hv, hA] at hO
      generalize hTi : Ts i = Ti at hO
      cases hO with
      | own _ _ _ _ _ _ _ arr1 vs1 Ts1 _ g1 g2 g3 g4 g5 g6 g7 g8 g9 g10 g11 =>
        exact ih (T := Ti) ⟨arr1, vs1, Ts1, g1, g2, by rw [g5]; have := Nat.mul_le_mul_right z g3; omega, g7, g8, g9, g10, g11⟩ (fun x hx => hw x (h6 i hil x (by rw [hTi]; exact hx))) hq
      | nil => omega

theorem LocQ.none_nil {w : World} {cs ds : List AV} {p : List Nat} {r : Option (Nat × Nat)} (h : LocQ w none cs p r ds) : p = [] ∧ r = none ∧ ds = cs := by
  cases p with
  | nil => exact ⟨rfl, h.1, h.2⟩
  | cons i p => exact h.elim

theorem LocQ.back {X : Cx} {w w' : World} : ∀ {p : List Nat} {b o b' o' : Nat} {cs es es' : List AV} {T : Nat → Prop}, Cells X w b o cs T → sub p cs = some es →
    LocQ w (some (b, o)) cs p (some (b', o')) es → es'.length = es.length →
    (∀ i z n cap fs, es'[i]? = some (.sl .own z n cap fs) → es[i]? = some (.sl .own z n cap fs) ∧ w'.cell? ⟨b', o' + i, none⟩ = w.cell? ⟨b', o' + i, none⟩) →
    (∀ x, T x → x ≠ b' → w'.heap[x]? = w.heap[x]?) →
    ∀ {p2 : List Nat} {r : Option (Nat × Nat)} {ds : List AV}, LocQ w' (some (b, o)) (modp p (fun _ => es') cs) p2 r ds → ∃ ds', LocQ w (some (b, o)) cs p2 r ds' ∧ ds'.length = ds.length := by
  intro p
  induction p with
  | nil =>
    intro b o b' o' cs es es' T hC hs hL hl hcom hag p2 r ds h
    simp [sub] at hs; subst hs
    obtain ⟨e1, _⟩ := hL
    injection e1 with e1; injection e1 with e1 e2; subst e1; subst e2
    simp only [modp] at h
    cases p2 with
    | nil => exact ⟨cs, ⟨h.1, rfl⟩, by rw [h.2]; exact hl.symm⟩
    | cons i p2 =>
      obtain ⟨z, n, cap, fs, A, c, hi, hcell, hq⟩ := h
      obtain ⟨hi', hcc⟩ := hcom i z n cap fs hi
      rw [hcc] at hcell
      rcases hq with ⟨hc, hq⟩ | ⟨hc, b1, o1, hA, hq⟩
      · obtain ⟨rfl, rfl, rfl⟩ := hq.none_nil
        exact ⟨_, ⟨z, n, cap, _, A, c, hi', hcell, .inl ⟨hc, rfl, rfl⟩⟩, rfl⟩
      · refine ⟨ds, ⟨z, n, cap, fs, A, c, hi', hcell, .inr ⟨hc, b1, o1, hA, ?_⟩⟩, rfl⟩
        obtain ⟨arr, vs, Ts, h1, h2, h3, h4, h5, h6, h7, h8⟩ := hC
        obtain ⟨hil, hie⟩ := List.getElem?_eq_some_iff.mp hi'
        have e1 : w.cell? ⟨b', o' + i, none⟩ = some (vs i) := by rw [cell?_of h1.rblk]; exact h4 i hil
        rw [e1] at hcell
        have hv : vs i = .slice A n c := Option.some.inj hcell
        have hO := h5 i hil
        rw [hie, hv, hA] at hO
        generalize hTi : Ts i = Ti at hO
        cases hO with
        | own _ _ _ _ _ _ _ arr1 vs1 Ts1 _ g1 g2 g3 g4 g5 g6 g7 g8 g9 g10 g11 =>
          have hC1 : Cells X w b1 o1 fs Ti := ⟨arr1, vs1, Ts1, g1, g2, by rw [g5]; have := Nat.mul_le_mul_right z g3; omega, g7, g8, g9, g10, g11⟩
          exact hq.agree hC1 fun x hx => hag x (h6 i hil x (by rw [hTi]; exact hx)) fun e => h7 i hil (by rw [hTi, ← e]; exact hx)
        | nil => omega
  | cons j p ih =>
    intro b o b' o' cs es es' T hC hs hL hl hcom hag p2 r ds h
    obtain ⟨z, n, cap, es1, hj, hs1⟩ := sub_cons hs
    rw [modp_cons hj] at h
    cases p2 with
    | nil => exact ⟨cs, ⟨h.1, rfl⟩, by rw [h.2]; simp⟩
    | cons i p2 =>
      obtain ⟨arr, vs, Ts, h1, h2, h3, h4, h5, h6, h7, h8⟩ := hC
      obtain ⟨hjl, hje⟩ := List.getElem?_eq_some_iff.mp hj
      obtain ⟨z2, n2, cap2, es2, A2, c2, hj2, hcell2, hq2⟩ := hL
      rw [hj] at hj2
      injection hj2 with hj2; injection hj2 with _ q1 q2 q3 q4; subst q1; subst q2; subst q3; subst q4
      have ej : w.cell? ⟨b, o + j, none⟩ = some (vs j) := by rw [cell?_of h1.rblk]; exact h4 j hjl
      rw [ej] at hcell2
      have hvj : vs j = .slice A2 n c2 := Option.some.inj hcell2
      rcases hq2 with ⟨_, hq2⟩ | ⟨hc2, b1, o1, hA2, hq2⟩
      · obtain ⟨_, hh, _⟩ := hq2.none_nil; exact absurd hh (by simp)
      have hO := h5 j hjl
      rw [hje, hvj, hA2] at hO
      generalize hTj : Ts j = Tj at hO
      cases hO with
      | nil => omega
      | own _ _ _ _ _ _ _ arr1 vs1 Ts1 _ g1 g2 g3 g4 g5 g6 g7 g8 g9 g10 g11 =>
      have hC1 : Cells X w b1 o1 es1 Tj := ⟨arr1, vs1, Ts1, g1, g2, by rw [g5]; have := Nat.mul_le_mul_right z g3; omega, g7, g8, g9, g10, g11⟩
      have hTjT : ∀ x, Tj x → T x := fun x hx => h6 j hjl x (by rw [hTj]; exact hx)
      have hb' : Tj b' := by
        rcases focus hC1 hs1 with ⟨m, ds0, q1, q2, q3, q4⟩ | ⟨b2, o2, T2, q1, q2, q3, _⟩
        · subst q2
          exfalso
          have : ∀ {p : List Nat} {m m' : Option (Nat × Nat)} {cs d d' : List AV} {u : Option (Nat × Nat)}, LocQ w u cs p m d → LocQ w u cs p m' d' → m = m' := by
            intro p
            induction p with
            | nil => intro m m' cs d d' u h h'; rw [h.1, h'.1]
            | cons i p ih =>
              intro m m' cs d d' u h h'
              cases u with
              | none => exact h.elim
              | some u =>
                obtain ⟨_, _, _, _, A, c, k1, k2, k3⟩ := h
                obtain ⟨_, _, _, _, A', c', k1', k2', k3'⟩ := h'
                rw [k1] at k1'
                injection k1' with k1'; injection k1' with _ _ _ _ e; subst e
                rw [k2] at k2'
                injection k2' with k2'; injection k2' with e1 e2 e3; subst e1; subst e3
                rcases k3 with ⟨k, k3⟩ | ⟨k, _, _, e, k3⟩
                · rcases k3' with ⟨k', k3'⟩ | ⟨k', _, _, e', k3'⟩
                  · exact ih k3 k3'
                  · omega
                · rcases k3' with ⟨k', k3'⟩ | ⟨k', _, _, e', k3'⟩
                  · omega
                  · rw [e] at e'; injection e' with e'; injection e' with e1 e2; subst e1; subst e2
                    exact ih k3 k3'
          have := this q1 hq2
          simp at this
        · have : ∀ {p : List Nat} {m m' : Option (Nat × Nat)} {cs d d' : List AV} {u : Option (Nat × Nat)}, LocQ w u cs p m d → LocQ w u cs p m' d' → m = m' := by
            intro p
            induction p with
            | nil => intro m m' cs d d' u h h'; rw [h.1, h'.1]
            | cons i p ih =>
              intro m m' cs d d' u h h'
              cases u with
              | none => exact h.elim
              | some u =>
                obtain ⟨_, _, _, _, A, c, k1, k2, k3⟩ := h
                obtain ⟨_, _, _, _, A', c', k1', k2', k3'⟩ := h'
                rw [k1] at k1'
                injection k1' with k1'; injection k1' with _ _ _ _ e; subst e
                rw [k2] at k2'
                injection k2' with k2'; injection k2' with e1 e2 e3; subst e1; subst e3
                rcases k3 with ⟨k, k3⟩ | ⟨k, _, _, e, k3⟩
                · rcases k3' with ⟨k', k3'⟩ | ⟨k', _, _, e', k3'⟩
                  · exact ih k3 k3'
                  · omega
                · rcases k3' with ⟨k', k3'⟩ | ⟨k', _, _, e', k3'⟩
                  · omega
                  · rw [e] at e'; injection e' with e'; injection e' with e1 e2; subst e1; subst e2
                    exact ih k3 k3'
          have e := this q1 hq2
          injection e with e; injection e with e1 e2; subst e1
          obtain ⟨_, _, _, _, hT2, _⟩ := q2
          exact q3 _ hT2
      have hbne : b ≠ b' := fun e => h7 j hjl (by rw [hTj, e]; exact hb')
      obtain ⟨z', n', cap', fs, A, c, hi, hcell, hq⟩ := h
      have hcell' : w.cell? ⟨b, o + i, none⟩ = some (.slice A n' c) := by
        have e := hag b h2 hbne
        obtain ⟨t, fr, hh, _⟩ := h1
        simp only [World.cell?, e] at hcell
        simpa [World.cell?] using hcell
      by_cases hij : i = j
      · subst hij
        rw [List.getElem?_set_self hjl] at hi
        injection hi with hi; injection hi with _ q1 q2 q3 q4; subst q1; subst q2; subst q3; subst q4
        rw [ej] at hcell'
        have hv' : vs i = .slice A n c := Option.some.inj hcell'
        rw [hvj] at hv'
        injection hv' with e1 e2 e3; subst e1; subst e3
        rcases hq with ⟨hc, hq⟩ | ⟨hc, b3, o3, hA, hq⟩
        · omega
        · rw [hA2] at hA
          injection hA with hA; injection hA with e1 e2; subst e1; subst e2
          obtain ⟨ds', r1, r2⟩ := ih hC1 hs1 hq2 hl hcom (fun x hx hne => hag x (hTjT x hx) hne) hq
          exact ⟨ds', ⟨z, n, cap, es1, A2, c2, hj, by rw [ej, hvj], .inr ⟨hc2, b1, o1, hA2, r1⟩⟩, r2⟩
      · rw [List.getElem?_set_ne (by omega)] at hi
        refine ⟨ds, ⟨z', n', cap', fs, A, c, hi, hcell', ?_⟩, rfl⟩
        rcases hq with ⟨hc, hq⟩ | ⟨hc, b3, o3, hA, hq⟩
        · obtain ⟨rfl, rfl, rfl⟩ := hq.none_nil
          exact .inl ⟨hc, rfl, rfl⟩
        · refine .inr ⟨hc, b3, o3, hA, ?_⟩
          obtain ⟨hil, hie⟩ := List.getElem?_eq_some_iff.mp hi
          have ei : w.cell? ⟨b, o + i, none⟩ = some (vs i) := by rw [cell?_of h1.rblk]; exact h4 i hil
          rw [ei] at hcell'
          have hvi : vs i = .slice A n' c := Option.some.inj hcell'
          have hO := h5 i hil
          rw [hie, hvi, hA] at hO
          generalize hTi : Ts i = Ti at hO
          cases hO with
          | own _ _ _ _ _ _ _ arr3 vs3 Ts3 _ k1 k2 k3 k4 k5 k6 k7 k8 k9 k10 k11 =>
            have hC3 : Cells X w b3 o3 fs Ti := ⟨arr3, vs3, Ts3, k1, k2, by rw [k5]; have := Nat.mul_le_mul_right z' k3; omega, k7, k8, k9, k10, k11⟩
            refine hq.agree hC3 fun x hx => hag x (h6 i hil x (by rw [hTi]; exact hx)) fun e => ?_
            exact h8 i j hil hjl hij x (by rw [hTi]; exact hx) (by rw [hTj, e]; exact hb')
          | nil => omega

end Go.Proofs.Ythgopooldcheeaa.VH
end

section
namespace Go.Proofs.Ythgopooldcheeaa.VH

structure Keep (U : Nat → Prop) (ks : List Nat) (μ : Nat → Option (Nat × Nat)) (H : Heap) (w : World) (μ' : Nat → Option (Nat × Nat)) (H' : Heap) (w' : World) : Prop where
  loc : ∀ k p cs' r ds, U k → (p = [] ∨ k ∉ ks) → H' k = some cs' → LocQ w' (μ' k) cs' p r ds →
    ∃ cs ds0, H k = some cs ∧ LocQ w (μ k) cs p r ds0 ∧ ds0.length = ds.length ∧ ∀ b o, r = some (b, o) → ∀ arr', RBlk w' b arr' → ∃ arr, RBlk w b arr ∧ arr.size = arr'.size
  um : ∀ b, b < w.heap.size → Unm w b → Unm w' b
  sz : w.heap.size ≤ w'.heap.size

theorem Keep.refl (U : Nat → Prop) (μ : Nat → Option (Nat × Nat)) (H : Heap) (w : World) : Keep U [] μ H w μ H w :=
  ⟨fun _ _ cs' _ ds _ _ h hq => ⟨cs', ds, h, hq, rfl, fun _ _ _ arr' h => ⟨arr', h, rfl⟩⟩, fun _ _ h => h, Nat.le_refl _⟩

theorem Keep.trans {U : Nat → Prop} {ks ks' : List Nat} {μ μ1 μ2 : Nat → Option (Nat × Nat)} {H H1 H2 : Heap} {w w1 w2 : World} (h : Keep U ks μ H w μ1 H1 w1) (g : Keep U ks' μ1 H1 w1 μ2 H2 w2) : Keep U (ks' ++ ks) μ H w μ2 H2 w2 := by
  refine ⟨?_, fun b hb hu => g.um b (Nat.lt_of_lt_of_le hb h.sz) (h.um b hb hu), Nat.le_trans h.sz g.sz⟩
  intro k p cs' r ds hU hp hk hq
  obtain ⟨cs1, ds1, h1, h2, h3, h4⟩ := g.loc k p cs' r ds hU (hp.imp id fun h hh => h (List.mem_append_left _ hh)) hk hq
  obtain ⟨cs0, ds0, g1, g2, g3, g4⟩ := h.loc k p cs1 r ds1 hU (hp.imp id fun h hh => h (List.mem_append_right _ hh)) h1 h2
  refine ⟨cs0, ds0, g1, g2, g3.trans h3, fun b o hr arr' ha => ?_⟩
  obtain ⟨a1, b1, c1⟩ := h4 b o hr arr' ha
  obtain ⟨a0, b0, c0⟩ := g4 b o hr a1 b1
  exact ⟨a0, b0, c0.trans c1⟩

theorem Keep.mono {U U' : Nat → Prop} {ks ks' : List Nat} {μ μ' : Nat → Option (Nat × Nat)} {H H' : Heap} {w w' : World} (h : Keep U ks μ H w μ' H' w') (hU : ∀ k, U' k → U k) (hk : ∀ k, k ∈ ks → k ∈ ks') : Keep U' ks' μ H w μ' H' w' :=
  ⟨fun k p cs' r ds hu hp => h.loc k p cs' r ds (hU k hu) (hp.imp id fun h hh => h (hk k hh)), h.um, h.sz⟩

theorem killL_eq (ks : List Nat) : ∀ xs, qc3 ks xs = xs.map (qc2 ks)
  | [] => rfl
  | x :: xs => by simp [qc3, killL_eq ks xs]

theorem mem_keysL {k : Nat} : ∀ {xs : List AV} {i : Nat} (h : i < xs.length), k ∈ qf6 xs[i] → k ∈ qf5 xs
  | x :: xs, 0, _, hk => by simp only [qf5, List.mem_append]; exact .inl hk
  | x :: xs, i + 1, h, hk => by
    simp only [qf5, List.mem_append]
    exact .inr (mem_keysL (by simpa using h) hk)

theorem keysL_mem {k : Nat} : ∀ {xs : List AV}, k ∈ qf5 xs → ∃ i, ∃ h : i < xs.length, k ∈ qf6 xs[i]
  | [], h => by simp [qf5] at h
  | x :: xs, h => by
    simp only [qf5, List.mem_append] at h
    rcases h with h | h
    · exact ⟨0, by simp, h⟩
    · obtain ⟨i, hi, hk⟩ := keysL_mem h
      exact ⟨i + 1, by simpa using hi, hk⟩

theorem RefOK.of {w w' : World} {r : Option (Nat × Nat)} {off z c : Nat} {cap : Option Nat} {A : Option Addr} {l l' : Nat} (h : RefOK w r off z c cap A l) (hl : l = l')
    (hs : ∀ b o, r = some (b, o) → ∀ arr', RBlk w' b arr' → ∃ arr, RBlk w b arr ∧ arr.size = arr'.size) (hu : ∀ b, b < w.heap.size → Unm w b → Unm w' b) : RefOK w' r off z c cap A l' := by
  subst hl
  cases r with
  | none => exact h
  | some x =>
    obtain ⟨b, o⟩ := x
    rcases h with h | ⟨h1, h2, h3⟩
    · exact .inl h
    · refine .inr ⟨h1, h2, fun arr' ha => ?_⟩
      obtain ⟨arr, hr, he⟩ := hs b o rfl arr' ha
      rw [← he]; exact ⟨(h3 arr hr).1, fun hz => hu b hr.lt ((h3 arr hr).2 hz)⟩

theorem RV.keep {X : Cx} {U : Nat → Prop} {ks : List Nat} {μ μ' : Nat → Option (Nat × Nat)} {H H' : Heap} {w w' : World} (hK : Keep U ks μ H w μ' H' w') {x : AV} {v : Value}
    (h : RV X μ H w x v) : (∀ k, k ∈ qf6 x → U k) → RV X μ' H' w' (qc2 ks x) v := by
  induction h with
  | und v => exact fun _ => by simp only [qc2]; exact .und v
  | bx b => exact fun _ => by simp only [qc2, qc3]; exact .bx b
  | box cs b o arr vs hne hS hb hv hf hr ih =>
    intro hU
    simp only [qc2, killL_eq]
    refine .box _ b o arr vs (by simpa using hne) hS hb (fun j hj => hv j (by simpa using hj)) (fun j hj => hf j (by simpa using hj)) fun j hj => ?_
    rw [List.getElem_map]
    exact ih j (by simpa using hj) fun k hk => hU k (by simp only [qf6]; exact mem_keysL _ hk)
  | val v => exact fun _ => by simp only [qc2]; exact .val v
  | sl tg z n cap cs v ht h => exact fun _ => by simp only [qc2]; exact .sl tg z n cap cs v ht h
  | ref k p z off n cap A c hn hc hA h =>
    intro hU
    simp only [qc2]
    cases hb : (!p.isEmpty && ks.contains k) with
    | true => exact .und _
    | false =>
      refine .ref k p z off n cap A c hn hc hA fun cs' r ds hk hq => ?_
      obtain ⟨cs, ds0, h1, h2, h3, h4⟩ := hK.loc k p cs' r ds (hU k (by simp [qf6])) (by
        by_cases hp : p = []
        · exact .inl hp
        · right
          intro hm
          simp [hp, List.isEmpty_iff, hm] at hb) hk hq
      exact (h cs r ds0 h1 h2).of h3 h4 hK.um
  | ptr k p off a h =>
    intro hU
    simp only [qc2]
    cases hb : (!p.isEmpty && ks.contains k) with
    | true => exact .und _
    | false =>
      refine .ptr k p off a fun cs' b o ds hk hq => ?_
      obtain ⟨cs, ds0, h1, h2, h3, h4⟩ := hK.loc k p cs' _ ds (hU k (by simp [qf6])) (by
        by_cases hp : p = []
        · exact .inl hp
        · right
          intro hm
          simp [hp, List.isEmpty_iff, hm] at hb) hk hq
      exact h cs b o ds0 h1 h2
  | rp tg cs off b o arr vs ht hS hb hv hr => exact fun _ => by simp only [qc2]; exact .rp tg cs off b o arr vs ht hS hb hv hr
  | agg xs vs hl hf h ih =>
    intro hU
    simp only [qc2, killL_eq]
    refine .agg _ vs (by simpa using hl) hf fun i hi hi' => ?_
    rw [List.getElem_map]
    exact ih i (by simpa using hi) hi' fun k hk => hU k (by simp only [qf6]; exact mem_keysL _ hk)
  | tup xs vs hl h ih =>
    intro hU
    simp only [qc2, killL_eq]
    refine .tup _ vs (by simpa using hl) fun i hi hi' => ?_
    rw [List.getElem_map]
    exact ih i (by simpa using hi) hi' fun k hk => hU k (by simp only [qf6]; exact mem_keysL _ hk)
  | fn f xs vs hl h ih =>
    intro hU
    simp only [qc2, killL_eq]
    refine .fn f _ vs (by simpa using hl) fun i hi hi' => ?_
    rw [List.getElem_map]
    exact ih i (by simpa using hi) hi' fun k hk => hU k (by simp only [qf6]; exact mem_keysL _ hk)

mutual
theorem killAV_nil : ∀ x, qc2 [] x = x
  | .und | .val _ | .sl .. | .rp .. => by simp [qc2]
  | .bx xs => by simp [qc2, killL_nil xs]
  | .ref .. | .ptr .. => by simp [qc2]
  | .agg xs => by simp [qc2, killL_nil xs]
  | .tup xs => by simp [qc2, killL_nil xs]
  | .fn f xs => by simp [qc2, killL_nil xs]
theorem killL_nil : ∀ xs, qc3 [] xs = xs
  | [] => rfl
  | x :: xs => by simp [qc3, killAV_nil x, killL_nil xs]
end

/-- sizes stay, and what is not in 'S' stays -/
structure Chg (w w' : World) (S : Nat → Prop) : Prop where
  os : w'.os = w.os
  tape : w'.tape = w.tape
  output : w'.output = w.output
  size : w.heap.size ≤ w'.heap.size
  same : ∀ b, b < w.heap.size → ¬ S b → w'.heap[b]? = w.heap[b]?
  cells : ∀ b arr', b < w.heap.size → RBlk w' b arr' → ∃ arr, RBlk w b arr ∧ arr.size = arr'.size
  um : ∀ b, b < w.heap.size → Unm w b → Unm w' b

theorem Chg.refl (w : World) (S : Nat → Prop) : Chg w w S := ⟨rfl, rfl, rfl, Nat.le_refl _, fun _ _ _ => rfl, fun _ arr _ h => ⟨arr, h, rfl⟩, fun _ _ h => h⟩

theorem Chg.trans {w w1 w2 : World} {S : Nat → Prop} (h : Chg w w1 S) (g : Chg w1 w2 S) : Chg w w2 S :=
  ⟨g.os.trans h.os, g.tape.trans h.tape, g.output.trans h.output, Nat.le_trans h.size g.size, fun b hb hs => (g.same b (Nat.lt_of_lt_of_le hb h.size) hs).trans (h.same b hb hs),
    fun b arr' hb hr => by
      obtain ⟨a1, h1, e1⟩ := g.cells b arr' (Nat.lt_of_lt_of_le hb h.size) hr
      obtain ⟨a0, h0, e0⟩ := h.cells b a1 hb h1
      exact ⟨a0, h0, e0.trans e1⟩, fun b hb hu => g.um b (Nat.lt_of_lt_of_le hb h.size) (h.um b hb hu)⟩

theorem Chg.mono {w w' : World} {S S' : Nat → Prop} (h : Chg w w' S) (hS : ∀ b, S b → S' b) : Chg w w' S' :=
  ⟨h.os, h.tape, h.output, h.size, fun b hb hs => h.same b hb fun hh => hs (hS b hh), h.cells, h.um⟩

theorem Chg.alloc (w : World) (o : Obj) (S : Nat → Prop) : Chg w (w.alloc o) S := by
  have e : ∀ b, b < w.heap.size → (w.alloc o).heap[b]? = w.heap[b]? := fun b hb => by
    show (w.heap.push o)[b]? = _
    rw [Array.getElem?_push, if_neg (by omega)]
  exact ⟨rfl, rfl, rfl, by show w.heap.size ≤ (w.heap.push o).size; simp, fun b hb _ => e b hb, fun b arr' hb hr => ⟨arr', hr.back (e b hb), rfl⟩, fun b hb hu => hu.agree (e b hb)⟩

/-- a world in which one block is another one -/
def World.put (w : World) (b : Nat) (o : Obj) : World := { w with heap := w.heap.setIfInBounds b o }

theorem Chg.put {w : World} {b : Nat} {arr arr' : Array Value} {e : TypeId} {fr : Nat × Nat} (h : w.heap[b]? = some (.cells arr e fr)) (hs : arr'.size = arr.size) :
    Chg w (World.put w b (.cells arr' e fr)) (fun x => x = b) := by
  have hlt : b < w.heap.size := (Array.getElem?_eq_some_iff.mp h).1
  refine ⟨rfl, rfl, rfl, by simp [World.put], fun x hx hne => ?_, fun x a hx hr => ?_, fun x hx hu => ?_⟩
  · simp only [World.put]
    rw [Array.getElem?_setIfInBounds_ne (by omega)]
  · by_cases hxb : x = b
    · subst hxb
      obtain ⟨e', fr', hr⟩ := hr
      simp only [World.put, Array.getElem?_setIfInBounds_self_of_lt hlt] at hr
      injection hr with hr; injection hr with h1 h2 h3
      exact ⟨arr, ⟨e, fr, h⟩, by rw [← h1, hs]⟩
    · refine ⟨a, ?_, rfl⟩
      obtain ⟨e', fr', hr⟩ := hr
      refine ⟨e', fr', ?_⟩
      simp only [World.put] at hr
      rwa [Array.getElem?_setIfInBounds_ne (by omega)] at hr
  · by_cases hxb : x = b
    · subst hxb
      intro a1 e1 f1 hh
      simp only [World.put, Array.getElem?_setIfInBounds_self_of_lt hlt] at hh
      injection hh with hh; injection hh with h1 h2 h3
      subst h1; subst h3
      rw [hs]; exact hu arr e fr h
    · intro a1 e1 f1 hh
      simp only [World.put] at hh
      rw [Array.getElem?_setIfInBounds_ne (by omega)] at hh
      exact hu a1 e1 f1 hh

end Go.Proofs.Ythgopooldcheeaa.VH
end

section
namespace Go.Proofs.Ythgopooldcheeaa.VH

theorem Cells.range {X : Cx} {w : World} {b o : Nat} {ds : List AV} {T : Nat → Prop} (h : Cells X w b o ds T) (off m : Nat) (hm : off + m ≤ ds.length) : Cells X w b (o + off) ((ds.drop off).take m) T := by
  obtain ⟨arr, vs, Ts, h1, h2, h3, h4, h5, h6, h7, h8⟩ := h
  have hl : ((ds.drop off).take m).length = m := by simp; omega
  refine ⟨arr, fun j => vs (off + j), fun j => Ts (off + j), h1, h2, by omega, fun j hj => ?_, fun j hj => ?_, fun j hj => h6 _ (by omega), fun j hj => h7 _ (by omega), fun i j hi hj hne => h8 _ _ (by omega) (by omega) (by omega)⟩
  · have := h4 (off + j) (by omega)
    rwa [← Nat.add_assoc] at this
  · have e : ((ds.drop off).take m)[j] = ds[off + j]'(by omega) := by simp
    rw [e]; exact h5 _ _

theorem sub_snoc {i : Nat} : ∀ {q : List Nat} {cs ds : List AV}, sub (q ++ [i]) cs = some ds → ∃ es z n cap, sub q cs = some es ∧ es[i]? = some (.sl .own z n cap ds) := by
  intro q
  induction q with
  | nil =>
    intro cs ds h
    obtain ⟨z, n, cap, es, hi, hs⟩ := sub_cons h
    simp [sub] at hs; subst hs
    exact ⟨cs, z, n, cap, rfl, hi⟩
  | cons j q ih =>
    intro cs ds h
    obtain ⟨z, n, cap, es, hi, hs⟩ := sub_cons h
    obtain ⟨es', z', n', cap', h1, h2⟩ := ih hs
    exact ⟨es', z', n', cap', by simp only [sub, hi]; exact h1, h2⟩

theorem LocQ.snoc {w : World} {j z n : Nat} {cap : Option Nat} {es ds : List AV} {A : Option Addr} {c b' o' : Nat} {res : Option (Nat × Nat)} (hj : es[j]? = some (.sl .own z n cap ds)) (hc : w.cell? ⟨b', o' + j, none⟩ = some (.slice A n c))
    (hr : (c = 0 ∧ res = none) ∨ (0 < c ∧ ∃ b1 o1, A = some ⟨b1, o1, none⟩ ∧ res = some (b1, o1))) : ∀ {q : List Nat} {u : Option (Nat × Nat)} {cs : List AV}, LocQ w u cs q (some (b', o')) es → LocQ w u cs (q ++ [j]) res ds := by
  intro q
  induction q with
  | nil =>
    intro u cs h
    obtain ⟨h1, h2⟩ := h
    subst h1; subst h2
    refine ⟨z, n, cap, ds, A, c, hj, hc, ?_⟩
    rcases hr with ⟨h1, h2⟩ | ⟨h1, b1, o1, h2, h3⟩
    · exact .inl ⟨h1, h2, rfl⟩
    · exact .inr ⟨h1, b1, o1, h2, h3, rfl⟩
  | cons i q ih =>
    intro u cs h
    cases u with
    | none => exact h.elim
    | some u =>
      obtain ⟨z', n', cap', es', A', c', k1, k2, k3⟩ := h
      refine ⟨z', n', cap', es', A', c', k1, k2, ?_⟩
      rcases k3 with ⟨k3, k4⟩ | ⟨k3, b1, o1, k4, k5⟩
      · exact .inl ⟨k3, ih k4⟩
      · exact .inr ⟨k3, b1, o1, k4, ih k5⟩

/-- what lies at a place, and how -/
def At (X : Cx) (w : World) (res : Option (Nat × Nat)) (ds : List AV) (T : Nat → Prop) : Prop :=
  match res with
  | none => ds = []
  | some (b, o) => Cells X w b o ds T

theorem Root.at {X : Cx} {w : World} {m : Option (Nat × Nat)} {cs : List AV} {T : Nat → Prop} (h : Root X w m cs T) : At X w m cs T := by
  cases m with
  | none => exact h
  | some u => exact h

/-- a look at a place -/
theorem look_at {X : Cx} {μ : Nat → Option (Nat × Nat)} {F : Nat → Nat → Prop} {H : Heap} {w : World} {G : Nat → Prop} (hR : Rel X μ F H w G) {k : Nat} {p : List Nat} {cs ds : List AV} (hk : H k = some cs) (hs : sub p cs = some ds) :
    ∃ res T, LocQ w (μ k) cs p res ds ∧ At X w res ds T ∧ ∀ x, T x → F k x := by
  have hroot := hR.root k cs hk
  cases hm : μ k with
  | none =>
    rw [hm] at hroot
    have hcs : cs = [] := hroot
    subst hcs
    cases p with
    | nil => simp [sub] at hs; subst hs; exact ⟨none, fun _ => False, ⟨rfl, rfl⟩, rfl, fun _ h => h.elim⟩
    | cons i p => obtain ⟨_, _, _, _, hi, _⟩ := sub_cons hs; simp at hi
  | some u =>
    obtain ⟨b, o⟩ := u
    rw [hm] at hroot
    rcases focus hroot hs with ⟨m, ds0, q1, q2, q3, q4⟩ | ⟨b', o', T', q1, q2, q3, _⟩
    · subst q2; subst q3
      exact ⟨none, fun _ => False, q1, q4, fun _ h => h.elim⟩
    · exact ⟨some (b', o'), T', q1, q2, q3⟩

theorem takeOut_sound {α R : Type} {X : Cx} {μ : Nat → Option (Nat × Nat)} {F : Nat → Nat → Prop} {H : Heap} {w : World} {G : Nat → Prop} {k : Nat} {p : List Nat} {g : List AV → HM α} {t : Tr} {K : α → Heap → Tr → Option R} {r : R}
    (hR : Rel X μ F H w G) (h : ((takeOut k p).bind g).run H t K = some r) :
    ∃ cs ds H' t' F' T res, (g ds).run H' t' K = some r ∧ t'.kl = t.kl ∧ H k = some cs ∧ sub p cs = some ds ∧ LocQ w (μ k) cs p res ds ∧ At X w res ds T ∧
      Rel X μ F' H' w (fun b => G b ∨ T b) ∧ (∀ b, T b → ¬ G b) ∧ (∀ U, Keep U [] μ H w μ H' w) ∧ (∀ j, H j = none → H' j = none) ∧ (∀ j, j ≠ k → H' j = H j ∧ F' j = F j) := by
  simp only [takeOut, HM.bind, HM.run] at h
  cases hk : H k with
  | none => simp [hk] at h
  | some cs =>
  simp only [hk] at h
  cases hs : sub p cs with
  | none => simp [hs, HM.bind, HM.run] at h
  | some ds =>
  simp only [hs] at h
  by_cases hp : p = []
  · subst hp
    simp only [HM.bind, HM.run] at h
    simp [sub] at hs; subst hs
    refine ⟨cs, cs, _, _, F, (fun b => μ k ≠ none ∧ F k b), μ k, h, rfl, rfl, rfl, ⟨rfl, rfl⟩, ?_, ?_, ?_, ?_, ?_, ?_⟩
    · have := (hR.root k cs hk).at
      cases hm : μ k with
      | none => rw [hm] at this; exact this
      | some u =>
        obtain ⟨b, o⟩ := u
        rw [hm] at this
        simp only [At, ne_eq, reduceCtorEq, not_false_eq_true, true_and] at this ⊢
        exact this
    · refine ⟨hR.os, hR.tape, hR.output, hR.size, hR.frame, fun j cs' hj => ?_, fun j j' cs1 cs2 hne hj hj' => ?_, fun j cs1 b hj hb => ?_, fun b hb => ?_⟩
      · simp only [upd] at hj
        split at hj
        · exact absurd hj (by simp)
        · exact hR.root j cs' hj
      · simp only [upd] at hj hj'
        split at hj
        · exact absurd hj (by simp)
        · split at hj'
          · exact absurd hj' (by simp)
          · exact hR.sep j j' cs1 cs2 hne hj hj'
      · simp only [upd] at hj
        split at hj
        · exact absurd hj (by simp)
        · rename_i hjk
          obtain ⟨a1, a2, a3⟩ := hR.out j cs1 b hj hb
          exact ⟨a1, a2, fun hh => hh.elim a3 fun hh => hR.sep j k cs1 cs hjk hj hk b hb hh.2⟩
      · rcases hb with hb | ⟨_, hb⟩
        · exact hR.gout b hb
        · obtain ⟨a1, a2, _⟩ := hR.out k cs b hk hb
          exact ⟨a1, a2⟩
    · rintro b ⟨_, hb⟩ hg
      exact (hR.out k cs b hk hb).2.2 hg
    · intro U
      refine ⟨fun j q cs' res ds' _ _ hj hq => ?_, fun _ _ h => h, Nat.le_refl _⟩
      simp only [upd] at hj
      split at hj
      · exact absurd hj (by simp)
      · exact ⟨cs', ds', hj, hq, rfl, fun _ _ _ arr' h => ⟨arr', h, rfl⟩⟩
    · intro j hj
      simp only [upd]
      split
      · rfl
      · exact hj
    · intro j hj
      simp [upd, hj]
  · obtain ⟨q, j, rfl⟩ : ∃ q j, p = q ++ [j] := ⟨p.dropLast, p.getLast hp, (List.dropLast_concat_getLast hp).symm⟩
    have h' : (g ds).run (upd H k (some (modp q (fun xs => xs.set j .und) cs))) { t with rd := k :: t.rd, wr := k :: t.wr } K = some r := by
      cases hq : q ++ [j] with
      | nil => simp at hq
      | cons a l =>
        simp only [hq, HM.bind, HM.run] at h
        rw [← hq] at h
        simpa using h
    obtain ⟨es, z, n, cap, hq, hj⟩ := sub_snoc hs
    have hroot := hR.root k cs hk
    cases hm : μ k with
    | none =>
      rw [hm] at hroot
      have hcs : cs = [] := hroot
      subst hcs
      cases q with
      | nil => simp [sub] at hq; subst hq; simp at hj
      | cons i q => obtain ⟨_, _, _, _, hi, _⟩ := sub_cons hq; simp at hi
    | some u =>
    obtain ⟨b, o⟩ := u
    rw [hm] at hroot
    obtain ⟨hjl, hje⟩ := List.getElem?_eq_some_iff.mp hj
    rcases focus hroot hq with ⟨m, ds0, q1, q2, q3, q4⟩ | ⟨b', o', T', q1, q2, q3, q4⟩
    · subst q4; simp at hjl
    obtain ⟨arr, vs, Ts, c1, c2, c3, c4, c5, c6, c7, c8⟩ := q2
    have hO := c5 j hjl
    rw [hje] at hO
    have hcell : w.cell? ⟨b', o' + j, none⟩ = some (vs j) := by rw [cell?_of c1.rblk]; exact c4 j hjl
    have hnew : Cells X w b' o' (es.set j .und) (fun x => T' x ∧ ¬ Ts j x) := by
      refine ⟨arr, vs, fun i => if i = j then fun _ => False else Ts i, c1, ⟨c2, c7 j hjl⟩, by simpa using c3, fun i hi => c4 i (by simpa using hi), fun i hi => ?_, fun i hi x hx => ?_, fun i hi hx => ?_, fun i i' hi hi' hne x hx hx' => ?_⟩
      · by_cases hij : i = j
        · subst hij
          simp only [List.getElem_set_self]
          exact .und _ _ hO.leaf
        · rw [List.getElem_set_ne (by omega)]
          simp only [hij, if_false]
          exact c5 i (by simpa using hi)
      · by_cases hij : i = j
        · simp [hij] at hx
        · simp only [hij, if_false] at hx
          exact ⟨c6 i (by simpa using hi) x hx, c8 i j (by simpa using hi) hjl hij x hx⟩
      · by_cases hij : i = j
        · simp [hij] at hx
        · simp only [hij, if_false] at hx
          exact c7 i (by simpa using hi) hx
      · by_cases hij : i = j
        · simp [hij] at hx
        · by_cases hij' : i' = j
          · simp [hij'] at hx'
          · simp only [hij, hij', if_false] at hx hx'
            exact c8 i i' (by simpa using hi) (by simpa using hi') hne x hx hx'
    obtain ⟨Tn, n1, n2⟩ := q4 w (es.set j .und) _ (by simp) hnew (fun x a a' _ h1 h2 => ⟨by rw [h1.uniq h2], fun h => h⟩) (fun _ _ _ => rfl) (fun x hx _ => hx.1)
    have hcs' : modp q (fun xs => xs.set j .und) cs = modp q (fun _ => es.set j .und) cs := modp_congr hq rfl
    rw [hcs'] at h'
    have hTnF : ∀ x, Tn x → F k x ∧ ¬ Ts j x := by
      intro x hx
      rcases n2 x hx with hx | ⟨hx, hx'⟩
      · exact ⟨q3 x hx.1, hx.2⟩
      · exact ⟨hx, fun ht => hx' (c6 j hjl x ht)⟩
    have hTj : ∀ x, Ts j x → F k x := fun x hx => q3 x (c6 j hjl x hx)
    have hres : ∃ res, LocQ w (some (b, o)) cs (q ++ [j]) res ds ∧ At X w res ds (Ts j) := by
      generalize hv : vs j = v at hO hcell
      generalize hTT : Ts j = TT at hO
      cases hO with
      | nil _ _ A _ _ => exact ⟨none, LocQ.snoc hj hcell (.inl ⟨rfl, rfl⟩) q1, rfl⟩
      | own _ _ _ _ b1 o1 c arr1 vs1 Ts1 _ g1 g2 g3 g4 g5 g6 g7 g8 g9 g10 g11 =>
        by_cases hc0 : c = 0
        · subst hc0
          have hn0 : n = 0 := by omega
          subst hn0
          exact ⟨none, LocQ.snoc hj hcell (.inl ⟨rfl, rfl⟩) q1, List.eq_nil_of_length_eq_zero (by simpa using g5)⟩
        · exact ⟨some (b1, o1), LocQ.snoc hj hcell (.inr ⟨by omega, b1, o1, rfl, rfl⟩) q1, arr1, vs1, Ts1, g1, g2, by rw [g5]; have := Nat.mul_le_mul_right z g3; omega, g7, g8, g9, g10, g11⟩
    obtain ⟨res, r1, r2⟩ := hres
    refine ⟨cs, ds, _, _, fun i => if i = k then Tn else F i, Ts j, res, h', rfl, rfl, hs, r1, r2, ?_, ?_, ?_, ?_, ?_⟩
    · refine ⟨hR.os, hR.tape, hR.output, hR.size, hR.frame, fun i cs' hi => ?_, fun i i' cs1 cs2 hne hi hi' x hx hx' => ?_, fun i cs1 x hi hx => ?_, fun x hx => ?_⟩
      · by_cases hik : i = k
        · subst hik
          simp only [upd, if_true] at hi
          injection hi with hi; subst hi
          simp only [if_true, hm]
          exact n1
        · simp only [upd, hik, if_false] at hi ⊢
          exact hR.root i cs' hi
      · have key : ∀ i cs1, upd H k (some (modp q (fun _ => es.set j .und) cs)) i = some cs1 → (if i = k then Tn else F i) x → (∃ cs0, H i = some cs0) ∧ F i x := by
          intro i cs1 hi hx
          by_cases hik : i = k
          · subst hik
            simp only [if_true] at hx
            exact ⟨⟨cs, hk⟩, (hTnF x hx).1⟩
          · simp only [upd, hik, if_false] at hi hx
            exact ⟨⟨cs1, hi⟩, hx⟩
        obtain ⟨⟨a, ha⟩, hfa⟩ := key i cs1 hi hx
        obtain ⟨⟨a', ha'⟩, hfa'⟩ := key i' cs2 hi' hx'
        exact hR.sep i i' a a' hne ha ha' x hfa hfa'
      · by_cases hik : i = k
        · subst hik
          simp only [if_true] at hx
          obtain ⟨a1, a2, a3⟩ := hR.out i cs x hk (hTnF x hx).1
          exact ⟨a1, a2, fun hh => hh.elim a3 (hTnF x hx).2⟩
        · simp only [upd, hik, if_false] at hi hx
          obtain ⟨a1, a2, a3⟩ := hR.out i cs1 x hi hx
          exact ⟨a1, a2, fun hh => hh.elim a3 fun ht => hR.sep i k cs1 cs hik hi hk x hx (hTj x ht)⟩
      · rcases hx with hx | hx
        · exact hR.gout x hx
        · obtain ⟨a1, a2, _⟩ := hR.out k cs x hk (hTj x hx)
          exact ⟨a1, a2⟩
    · intro x hx hg
      exact (hR.out k cs x hk (hTj x hx)).2.2 hg
    · intro U
      refine ⟨fun i p2 cs' res2 ds2 _ _ hi hq2 => ?_, fun _ _ h => h, Nat.le_refl _⟩
      by_cases hik : i = k
      · subst hik
        simp only [upd, if_true] at hi
        injection hi with hi; subst hi
        rw [hm] at hq2 ⊢
        obtain ⟨ds', l1, l2⟩ := LocQ.back (w' := w) (es' := es.set j .und) hroot hq q1 (by simp) (fun i' z' n' cap' fs' hi' => by
          by_cases hij : i' = j
          · subst hij
            rw [List.getElem?_set_self hjl] at hi'
            exact absurd hi' (by simp)
          · rw [List.getElem?_set_ne (by omega)] at hi'
            exact ⟨hi', rfl⟩) (fun _ _ _ => rfl) hq2
        exact ⟨cs, ds', hk, l1, l2, fun _ _ _ arr' h => ⟨arr', h, rfl⟩⟩
      · simp only [upd, hik, if_false] at hi
        exact ⟨cs', ds2, hi, hq2, rfl, fun _ _ _ arr' h => ⟨arr', h, rfl⟩⟩
    · intro i hi
      simp only [upd]
      split
      · rename_i hik; subst hik; rw [hk] at hi; exact absurd hi (by simp)
      · exact hi
    · intro i hi
      simp [upd, hi]

end Go.Proofs.Ythgopooldcheeaa.VH
end

section
namespace Go.Proofs.Ythgopooldcheeaa.VH

theorem HM.bind_assoc {α β γ : Type} (m : HM α) (f : α → HM β) (g : β → HM γ) : (m.bind f).bind g = m.bind fun a => (f a).bind g := by
  induction m with
  | ret a => rfl
  | fail => rfl
  | look k f' ih => simp only [HM.bind]; congr 1; funext cs; exact ih cs
  | put k c m ih => simp only [HM.bind, ih]
  | kill k m ih => simp only [HM.bind, ih]

theorem guardB_run {α β R : Type} {b : Bool} {m : HM α} {g : α → HM β} {H : Heap} {t : Tr} {K : β → Heap → Tr → Option R} {r : R} (h : ((guardB b m).bind g).run H t K = some r) : b = true ∧ (m.bind g).run H t K = some r := by
  cases b with
  | true => exact ⟨rfl, h⟩
  | false => simp [guardB, HM.bind, HM.run] at h

theorem guardB_run' {α R : Type} {b : Bool} {m : HM α} {H : Heap} {t : Tr} {K : α → Heap → Tr → Option R} {r : R} (h : (guardB b m).run H t K = some r) : b = true ∧ m.run H t K = some r := by
  cases b with
  | true => exact ⟨rfl, h⟩
  | false => simp [guardB, HM.run] at h

theorem ofOpt_run {α β R : Type} {o : Option α} {g : α → HM β} {H : Heap} {t : Tr} {K : β → Heap → Tr → Option R} {r : R} (h : ((ofOpt o).bind g).run H t K = some r) : ∃ a, o = some a ∧ (g a).run H t K = some r := by
  cases o with
  | some a => exact ⟨a, rfl, h⟩
  | none => simp [ofOpt, HM.bind, HM.run] at h

theorem RV.keep0 {X : Cx} {μ μ' : Nat → Option (Nat × Nat)} {H H' : Heap} {w w' : World} (hK : ∀ U, Keep U [] μ H w μ' H' w') {x : AV} {v : Value} (h : RV X μ H w x v) : RV X μ' H' w' x v := by
  have := h.keep (hK fun _ => True) fun _ _ => trivial
  rwa [killAV_nil] at this

theorem absorb1_sound {α R : Type} {X : Cx} {μ : Nat → Option (Nat × Nat)} {F : Nat → Nat → Prop} {H : Heap} {w : World} {G : Nat → Prop} {x : AV} {v : Value} {g : AV → HM α} {t : Tr} {K : α → Heap → Tr → Option R} {r : R}
    (hR : Rel X μ F H w G) (hx : RV X μ H w x v) (h : ((qc1 x).bind g).run H t K = some r) :
    ∃ (y : AV) (H' : Heap) (t' : Tr) (F' : Nat → Nat → Prop) (T : Nat → Prop), (g y).run H' t' K = some r ∧ t'.kl = t.kl ∧ OW X w y v T ∧ Rel X μ F' H' w (fun b => G b ∨ T b) ∧ (∀ b, T b → ¬ G b) ∧ (∀ U, Keep U [] μ H w μ H' w) ∧ (∀ j, H j = none → H' j = none) := by
  have triv : ∀ y, OW X w y v (fun _ => False) → (g y).run H t K = some r → ∃ (y : AV) (H' : Heap) (t' : Tr) (F' : Nat → Nat → Prop) (T : Nat → Prop), (g y).run H' t' K = some r ∧ t'.kl = t.kl ∧ OW X w y v T ∧ Rel X μ F' H' w (fun b => G b ∨ T b) ∧ (∀ b, T b → ¬ G b) ∧ (∀ U, Keep U [] μ H w μ H' w) ∧ (∀ j, H j = none → H' j = none) := by
    intro y hy hg
    refine ⟨y, H, t, F, fun _ => False, hg, rfl, hy, ?_, fun _ h => h.elim, fun U => Keep.refl U μ H w, fun _ h => h⟩
    have e : (fun b => G b ∨ False) = G := by funext b; simp
    rw [e]; exact hR
  cases hx with
  | und v => simp [qc1, HM.bind, HM.run] at h
  | bx b => simp [qc1, HM.bind, HM.run] at h
  | box => simp [qc1, HM.bind, HM.run] at h
  | val v =>
    simp only [qc1] at h
    obtain ⟨hl, h⟩ := guardB_run h
    exact triv _ (.val v _ hl) h
  | sl tg z n cap cs v ht hr =>
    cases tg with
    | own => exact absurd rfl ht
    | fgn => exact triv _ (.fgn z n cap cs v _ hr) h
    | snap => exact triv _ (.snap z n cap cs v _ hr) h
  | ptr k p off a hh => simp [qc1, HM.bind, HM.run] at h
  | rp => simp [qc1, HM.bind, HM.run] at h
  | agg => simp [qc1, HM.bind, HM.run] at h
  | tup => simp [qc1, HM.bind, HM.run] at h
  | fn => simp [qc1, HM.bind, HM.run] at h
  | ref k p z off n cap A c hn hc hA0 hh =>
    simp only [qc1, HM.bind_assoc] at h
    obtain ⟨cs, ds, H', t', F', T, res, h, ht, hk, hs, hq, hat, hR', hTG, hK, hN, _⟩ := takeOut_sound hR h
    obtain ⟨hg, h⟩ := guardB_run h
    have hg := of_decide_eq_true hg
    refine ⟨_, H', t', F', T, h, ht, ?_, hR', hTG, hK, hN⟩
    have hok := hh cs res ds hk hq
    cases res with
    | none =>
      have hc0 : c = 0 := hok
      subst hc0
      have hn0 : n = 0 := by omega
      subst hn0
      simp only [Nat.zero_mul, List.take_zero]
      exact .nil z none A T (by simp)
    | some u =>
      obtain ⟨b, o⟩ := u
      rcases hok with ⟨hc0, _⟩ | ⟨hA, hlen, hcap⟩
      · subst hc0
        have hn0 : n = 0 := by omega
        subst hn0
        simp only [Nat.zero_mul, List.take_zero]
        exact .nil z none A T (by simp)
      · subst hA
        have hC : Cells X w b (o + off) ((ds.drop off).take (n * z)) T := Cells.range hat off (n * z) hg
        obtain ⟨arr, vs, Ts, h1, h2, h3, h4, h5, h6, h7, h8⟩ := hC
        exact .own z n none _ b (o + off) c arr vs Ts T h1 h2 hn (by simp) (by simp; omega) (hcap arr h1.rblk).1 h4 h5 h6 h7 h8 (hcap arr h1.rblk).2

theorem absorbL_sound {α R : Type} {X : Cx} {μ : Nat → Option (Nat × Nat)} {w : World} : ∀ {xs : List AV} {F : Nat → Nat → Prop} {H : Heap} {G : Nat → Prop} {vs : Nat → Value} {g : List AV → HM α} {t : Tr} {K : α → Heap → Tr → Option R} {r : R},
    Rel X μ F H w G → (∀ i (h : i < xs.length), RV X μ H w xs[i] (vs i)) → ((qc0 xs).bind g).run H t K = some r →
    ∃ (ys : List AV) (H' : Heap) (t' : Tr) (F' : Nat → Nat → Prop) (Ts : Nat → Nat → Prop), (g ys).run H' t' K = some r ∧ t'.kl = t.kl ∧ ys.length = xs.length ∧ (∀ i (h : i < ys.length), OW X w ys[i] (vs i) (Ts i)) ∧
      (∀ i j, i < ys.length → j < ys.length → i ≠ j → ∀ x, Ts i x → ¬ Ts j x) ∧ (∀ i, i < ys.length → ∀ x, Ts i x → ¬ G x) ∧
      Rel X μ F' H' w (fun b => G b ∨ ∃ i, i < ys.length ∧ Ts i b) ∧ (∀ U, Keep U [] μ H w μ H' w) ∧ (∀ j, H j = none → H' j = none) := by
  intro xs
  induction xs with
  | nil =>
    intro F H G vs g t K r hR _ h
    refine ⟨[], H, t, F, fun _ _ => False, h, rfl, rfl, fun i h => by simp at h, fun i _ h => by simp at h, fun i h => by simp at h, ?_, fun U => Keep.refl U μ H w, fun _ h => h⟩
    have e : (fun b => G b ∨ ∃ i, i < ([] : List AV).length ∧ False) = G := by funext b; simp
    rw [e]; exact hR
  | cons x xs ih =>
    intro F H G vs g t K r hR hx h
    simp only [qc0, HM.bind_assoc] at h
    obtain ⟨y, H1, t1, F1, T, h, ht1, hO, hR1, hTG, hK1, hN1⟩ := absorb1_sound hR (hx 0 (by simp)) h
    obtain ⟨ys, H2, t2, F2, Ts, h, ht2, hlen, hOs, hds, hGs, hR2, hK2, hN2⟩ := ih (vs := fun i => vs (i + 1)) hR1 (fun i hi => (hx (i + 1) (by simpa using hi)).keep0 hK1) h
    refine ⟨y :: ys, H2, t2, F2, fun i => match i with | 0 => T | i + 1 => Ts i, h, ht2.trans ht1, by simp [hlen], fun i hi => ?_, fun i j hi hj hne x hxi hxj => ?_, fun i hi x hxi => ?_, ?_, fun U => (hK1 U).trans (hK2 U), fun j hj => hN2 j (hN1 j hj)⟩
    · cases i with
      | zero => exact hO
      | succ i => exact hOs i (by simpa using hi)
    · cases i with
      | zero =>
        cases j with
        | zero => exact hne rfl
        | succ j => exact hGs j (by simpa using hj) x hxj (.inr hxi)
      | succ i =>
        cases j with
        | zero => exact hGs i (by simpa using hi) x hxi (.inr hxj)
        | succ j => exact hds i j (by simpa using hi) (by simpa using hj) (by omega) x hxi hxj
    · cases i with
      | zero => exact hTG x hxi
      | succ i => exact fun hg => hGs i (by simpa using hi) x hxi (.inl hg)
    · have e : (fun b => G b ∨ ∃ i, i < (y :: ys).length ∧ (match i with | 0 => T | i + 1 => Ts i) b) = fun b => (G b ∨ T b) ∨ ∃ i, i < ys.length ∧ Ts i b := by
        funext b
        apply propext
        constructor
        · rintro (h | ⟨i, hi, h⟩)
          · exact .inl (.inl h)
          · cases i with
            | zero => exact .inl (.inr h)
            | succ i => exact .inr ⟨i, by simpa using hi, h⟩
        · rintro ((h | h) | ⟨i, hi, h⟩)
          · exact .inl h
          · exact .inr ⟨0, by simp, h⟩
          · exact .inr ⟨i + 1, by simpa using hi, h⟩
      rw [e]; exact hR2

theorem LocQ.uniq {w : World} : ∀ {p : List Nat} {m m' : Option (Nat × Nat)} {cs d d' : List AV} {u : Option (Nat × Nat)}, LocQ w u cs p m d → LocQ w u cs p m' d' → m = m' ∧ d = d' := by
  intro p
  induction p with
  | nil => intro m m' cs d d' u h h'; exact ⟨by rw [h.1, h'.1], by rw [h.2, h'.2]⟩
  | cons i p ih =>
    intro m m' cs d d' u h h'
    cases u with
    | none => exact h.elim
    | some u =>
      obtain ⟨_, _, _, _, A, c, k1, k2, k3⟩ := h
      obtain ⟨_, _, _, _, A', c', k1', k2', k3'⟩ := h'
      rw [k1] at k1'
      injection k1' with k1'; injection k1' with _ _ _ _ e; subst e
      rw [k2] at k2'
      injection k2' with k2'; injection k2' with e1 e2 e3; subst e1; subst e3
      rcases k3 with ⟨k, k3⟩ | ⟨k, _, _, e, k3⟩
      · rcases k3' with ⟨k', k3'⟩ | ⟨k', _, _, e', k3'⟩
        · exact ih k3 k3'
        · omega
      · rcases k3' with ⟨k', k3'⟩ | ⟨k', _, _, e', k3'⟩
        · omega
        · rw [e] at e'; injection e' with e'; injection e' with e1 e2; subst e1; subst e2
          exact ih k3 k3'

theorem LocQ.sub {w : World} : ∀ {p : List Nat} {m : Option (Nat × Nat)} {cs d : List AV} {u : Option (Nat × Nat)}, LocQ w u cs p m d → sub p cs = some d := by
  intro p
  induction p with
  | nil => intro m cs d u h; simp [VH.sub, h.2]
  | cons i p ih =>
    intro m cs d u h
    cases u with
    | none => exact h.elim
    | some u =>
      obtain ⟨_, _, _, _, A, c, k1, k2, k3⟩ := h
      simp only [VH.sub, k1]
      rcases k3 with ⟨_, k3⟩ | ⟨_, _, _, _, k3⟩ <;> exact ih k3

/-- the block of a place is one of its root's -/
theorem LocQ.mem {X : Cx} {μ : Nat → Option (Nat × Nat)} {F : Nat → Nat → Prop} {H : Heap} {w : World} {G : Nat → Prop} (hR : Rel X μ F H w G) {k : Nat} {p : List Nat} {cs ds : List AV} {b o : Nat} (hk : H k = some cs)
    (hq : LocQ w (μ k) cs p (some (b, o)) ds) : F k b ∧ b < w.heap.size := by
  obtain ⟨res, T, h1, h2, h3⟩ := look_at hR hk hq.sub
  obtain ⟨e, _⟩ := h1.uniq hq
  subst e
  obtain ⟨_, _, _, _, hT, _⟩ := h2
  exact ⟨h3 b hT, (hR.out k cs b hk (h3 b hT)).2.1⟩

/-- a look that is told of the world behind a change, at a root that is not touched -/
theorem LocQ.other {X : Cx} {μ : Nat → Option (Nat × Nat)} {F : Nat → Nat → Prop} {H : Heap} {w w' : World} {G : Nat → Prop} (hR : Rel X μ F H w G) {k : Nat} {p : List Nat} {cs ds : List AV} {r : Option (Nat × Nat)} (hk : H k = some cs)
    (hw : ∀ x, F k x → w'.heap[x]? = w.heap[x]?) (hq : LocQ w' (μ k) cs p r ds) : LocQ w (μ k) cs p r ds := by
  have hroot := hR.root k cs hk
  cases hm : μ k with
  | none =>
    rw [hm] at hq
    obtain ⟨rfl, rfl, rfl⟩ := hq.none_nil
    exact ⟨rfl, rfl⟩
  | some u =>
    obtain ⟨b, o⟩ := u
    rw [hm] at hq hroot
    exact hq.agree hroot hw

def updM (μ : Nat → Option (Nat × Nat)) (k : Nat) (m : Option (Nat × Nat)) : Nat → Option (Nat × Nat) := fun j => if j = k then m else μ j
def updF (F : Nat → Nat → Prop) (k : Nat) (T : Nat → Prop) : Nat → Nat → Prop := fun j => if j = k then T else F j

/-- a new root -/
theorem newroot {X : Cx} {μ : Nat → Option (Nat × Nat)} {F : Nat → Nat → Prop} {H : Heap} {w w' : World} {G E : Nat → Prop} {fr : Nat} {m : Option (Nat × Nat)} {ys : List AV} {T : Nat → Prop}
    (hX : X.WF) (hR : Rel X μ F H w (fun b => G b ∨ E b)) (hf : H fr = none) (hC : Chg w w' fun _ => False) (hat : At X w' m ys T)
    (hT : ∀ x, T x → E x ∧ ¬ G x ∨ (w.heap.size ≤ x ∧ x < w'.heap.size)) :
    Rel X (updM μ fr m) (updF F fr T) (upd H fr (some ys)) w' G ∧ ∀ U, (∀ k, U k → k ≠ fr) → Keep U [] μ H w (updM μ fr m) (upd H fr (some ys)) w' := by
  have hsame : ∀ b, b < w.heap.size → w'.heap[b]? = w.heap[b]? := fun b hb => hC.same b hb fun h => h
  constructor
  · refine ⟨hC.os.trans hR.os, hC.tape.trans hR.tape, hC.output.trans hR.output, Nat.le_trans hR.size hC.size, fun b hb => ?_, fun k cs hk => ?_, fun k k' cs cs' hne hk hk' b hb hb' => ?_, fun k cs b hk hb => ?_, fun b hb => ?_⟩
    · rw [hsame b (Nat.lt_of_lt_of_le (hX.fo b hb) hR.size)]; exact hR.frame b hb
    · by_cases hkf : k = fr
      · subst hkf
        simp only [upd, updM, updF, if_true] at hk ⊢
        injection hk with hk; subst hk
        cases m with
        | none => exact hat
        | some u => exact hat
      · simp only [upd, updM, updF, hkf, if_false] at hk ⊢
        have hroot := hR.root k cs hk
        cases hm : μ k with
        | none => rw [hm] at hroot; exact hroot
        | some u =>
          obtain ⟨b, o⟩ := u
          rw [hm] at hroot
          exact Cells.agree hroot fun x hx => hsame x (hR.out k cs x hk hx).2.1
    · by_cases hkf : k = fr
      · have hk'f : k' ≠ fr := fun e => hne (hkf.trans e.symm)
        subst hkf
        simp only [upd, updF, if_true, hk'f, if_false] at hk' hb hb'
        obtain ⟨_, a2, a3⟩ := hR.out k' cs' b hk' hb'
        rcases hT b hb with h | h
        · exact a3 (.inr h.1)
        · omega
      · by_cases hk'f : k' = fr
        · subst hk'f
          simp only [upd, updF, if_true, hkf, if_false] at hk hb hb'
          obtain ⟨_, a2, a3⟩ := hR.out k cs b hk hb
          rcases hT b hb' with h | h
          · exact a3 (.inr h.1)
          · omega
        · simp only [upd, updF, hkf, hk'f, if_false] at hk hk' hb hb'
          exact hR.sep k k' cs cs' hne hk hk' b hb hb'
    · by_cases hkf : k = fr
      · subst hkf
        simp only [updF, if_true] at hb
        rcases hT b hb with h | h
        · obtain ⟨a1, a2⟩ := hR.gout b (.inr h.1)
          exact ⟨a1, Nat.lt_of_lt_of_le a2 hC.size, h.2⟩
        · refine ⟨fun hfo => ?_, h.2, fun hg => ?_⟩
          · have := hX.fo b hfo; have := hR.size; omega
          · have := (hR.gout b (.inl hg)).2; omega
      · simp only [upd, updF, hkf, if_false] at hk hb
        obtain ⟨a1, a2, a3⟩ := hR.out k cs b hk hb
        exact ⟨a1, Nat.lt_of_lt_of_le a2 hC.size, fun hg => a3 (.inl hg)⟩
    · obtain ⟨a1, a2⟩ := hR.gout b (.inl hb)
      exact ⟨a1, Nat.lt_of_lt_of_le a2 hC.size⟩
  · intro U hU
    refine ⟨fun k p cs' r ds hu _ hk hq => ?_, hC.um, hC.size⟩
    have hkf := hU k hu
    simp only [upd, updM, hkf, if_false] at hk hq
    have hq' := LocQ.other hR hk (fun x hx => hsame x (hR.out k cs' x hk hx).2.1) hq
    refine ⟨cs', ds, hk, hq', rfl, fun b o hr arr' ha => ?_⟩
    subst hr
    exact hC.cells b arr' (LocQ.mem hR hk hq').2 ha

/-- the cells at a place, and what comes of it when they are changed -/
theorem node_upd {X : Cx} {μ : Nat → Option (Nat × Nat)} {F : Nat → Nat → Prop} {H : Heap} {w : World} {G E : Nat → Prop} (hX : X.WF) (hR : Rel X μ F H w (fun b => G b ∨ E b)) (hGE : ∀ b, E b → ¬ G b)
    {k : Nat} {p : List Nat} {cs es : List AV} (hk : H k = some cs) (hs : sub p cs = some es) (hne : es ≠ []) :
    ∃ b' o' T', LocQ w (μ k) cs p (some (b', o')) es ∧ Cells X w b' o' es T' ∧ (∀ x, T' x → F k x) ∧
      ∀ (w' : World) (es' : List AV) (T'' : Nat → Prop) (ks : List Nat), es'.length = es.length → Chg w w' (fun x => x = b') → Cells X w' b' o' es' T'' → (∀ x, T'' x → T' x ∨ E x) →
        ((∀ i z n cap fs, es'[i]? = some (.sl .own z n cap fs) → es[i]? = some (.sl .own z n cap fs) ∧ w'.cell? ⟨b', o' + i, none⟩ = w.cell? ⟨b', o' + i, none⟩) ∨ k ∈ ks) →
        ∃ F', Rel X μ F' (upd H k (some (modp p (fun _ => es') cs))) w' G ∧ ∀ U, Keep U ks μ H w μ (upd H k (some (modp p (fun _ => es') cs))) w' := by
  have hroot := hR.root k cs hk
  cases hm : μ k with
  | none =>
    rw [hm] at hroot
    have hcs : cs = [] := hroot
    subst hcs
    cases p with
    | nil => simp [sub] at hs; exact absurd hs.symm (by simpa using hne)
    | cons i p => obtain ⟨_, _, _, _, hi, _⟩ := sub_cons hs; simp at hi
  | some u =>
  obtain ⟨b, o⟩ := u
  rw [hm] at hroot
  rcases focus hroot hs with ⟨m, ds0, q1, q2, q3, q4⟩ | ⟨b', o', T', q1, q2, q3, q4⟩
  · exact absurd q4 hne
  refine ⟨b', o', T', q1, q2, q3, ?_⟩
  intro w' es' T'' ks hl hC hcell hT hcom
  have hTb : T' b' := by obtain ⟨_, _, _, _, h, _⟩ := q2; exact h
  have hFb : F k b' := q3 b' hTb
  have hTns : ∀ x, F k x → x < w.heap.size := fun x hx => (hR.out k cs x hk hx).2.1
  have hsame : ∀ x, x < w.heap.size → x ≠ b' → w'.heap[x]? = w.heap[x]? := fun x hx hne => hC.same x hx hne
  obtain ⟨Tn, n1, n2⟩ := q4 w' es' T'' hl hcell (fun x a a' hx h1 h2 => by
      obtain ⟨a0, h0, e0⟩ := hC.cells x a' (hTns x hx) h2
      exact ⟨by rw [h1.uniq h0, e0], hC.um x (hTns x hx)⟩) (fun x hx hnx => hsame x (hTns x hx) fun e => hnx (by rw [e]; exact hTb))
    (fun x hx hF => (hT x hx).resolve_right fun hE => (hR.out k cs x hk hF).2.2 (.inr hE))
  have hTn : ∀ x, Tn x → F k x ∨ E x := by
    intro x hx
    rcases n2 x hx with hx | hx
    · exact (hT x hx).imp (q3 x) id
    · exact .inl hx.1
  refine ⟨updF F k Tn, ⟨hC.os.trans hR.os, hC.tape.trans hR.tape, hC.output.trans hR.output, Nat.le_trans hR.size hC.size, fun x hx => ?_, fun i cs' hi => ?_, fun i i' cs1 cs2 hne' hi hi' x hx hx' => ?_, fun i cs1 x hi hx => ?_, fun x hx => ?_⟩, ?_⟩
  · rw [hsame x (Nat.lt_of_lt_of_le (hX.fo x hx) hR.size) fun e => (hR.out k cs b' hk hFb).1 (by rw [← e]; exact hx)]
    exact hR.frame x hx
  · by_cases hik : i = k
    · subst hik
      simp only [upd, updF, if_true] at hi ⊢
      injection hi with hi; subst hi
      rw [hm]; exact n1
    · simp only [upd, updF, hik, if_false] at hi ⊢
      have hr := hR.root i cs' hi
      cases hmi : μ i with
      | none => rw [hmi] at hr; exact hr
      | some u =>
        obtain ⟨b2, o2⟩ := u
        rw [hmi] at hr
        refine Cells.agree hr fun x hx => hsame x (hR.out i cs' x hi hx).2.1 fun e => ?_
        subst e
        exact hR.sep i k cs' cs hik hi hk x hx hFb
  · have key : ∀ i cs1, upd H k (some (modp p (fun _ => es') cs)) i = some cs1 → updF F k Tn i x → (∃ cs0, H i = some cs0) ∧ (F i x ∨ (i = k ∧ E x)) := by
      intro i cs1 hi hx
      by_cases hik : i = k
      · subst hik
        simp only [updF, if_true] at hx
        exact ⟨⟨cs, hk⟩, (hTn x hx).imp id fun h => ⟨rfl, h⟩⟩
      · simp only [upd, updF, hik, if_false] at hi hx
        exact ⟨⟨cs1, hi⟩, .inl hx⟩
    obtain ⟨⟨a, ha⟩, hfa⟩ := key i cs1 hi hx
    obtain ⟨⟨a', ha'⟩, hfa'⟩ := key i' cs2 hi' hx'
    rcases hfa with hfa | ⟨e1, hE⟩
    · rcases hfa' with hfa' | ⟨e2, hE⟩
      · exact hR.sep i i' a a' hne' ha ha' x hfa hfa'
      · exact (hR.out i a x ha hfa).2.2 (.inr hE)
    · rcases hfa' with hfa' | ⟨e2, hE'⟩
      · exact (hR.out i' a' x ha' hfa').2.2 (.inr hE)
      · exact hne' (e1.trans e2.symm)
  · by_cases hik : i = k
    · subst hik
      simp only [updF, if_true] at hx
      rcases hTn x hx with h | h
      · obtain ⟨a1, a2, a3⟩ := hR.out i cs x hk h
        exact ⟨a1, Nat.lt_of_lt_of_le a2 hC.size, fun hg => a3 (.inl hg)⟩
      · obtain ⟨a1, a2⟩ := hR.gout x (.inr h)
        exact ⟨a1, Nat.lt_of_lt_of_le a2 hC.size, hGE x h⟩
    · simp only [upd, updF, hik, if_false] at hi hx
      obtain ⟨a1, a2, a3⟩ := hR.out i cs1 x hi hx
      exact ⟨a1, Nat.lt_of_lt_of_le a2 hC.size, fun hg => a3 (.inl hg)⟩
  · obtain ⟨a1, a2⟩ := hR.gout x (.inl hx)
    exact ⟨a1, Nat.lt_of_lt_of_le a2 hC.size⟩
  · intro U
    refine ⟨fun i p2 cs' r ds hu hp2 hi hq => ?_, hC.um, hC.size⟩
    by_cases hik : i = k
    · subst hik
      simp only [upd, if_true] at hi
      injection hi with hi; subst hi
      have fin : ∀ ds0, LocQ w (μ i) cs p2 r ds0 → ds0.length = ds.length → ∃ cs0 ds0, H i = some cs0 ∧ LocQ w (μ i) cs0 p2 r ds0 ∧ ds0.length = ds.length ∧ ∀ b o, r = some (b, o) → ∀ arr', RBlk w' b arr' → ∃ arr, RBlk w b arr ∧ arr.size = arr'.size := by
        intro ds0 h1 h2
        refine ⟨cs, ds0, hk, h1, h2, fun b2 o2 hr arr' ha => ?_⟩
        subst hr
        exact hC.cells b2 arr' (LocQ.mem hR hk h1).2 ha
      rcases hcom with hcom | hcom
      · rw [hm] at hq
        obtain ⟨ds', l1, l2⟩ := LocQ.back (w' := w') hroot hs q1 hl hcom (fun x hx hne => hsame x (hTns x hx) hne) hq
        exact fin ds' (by rw [hm]; exact l1) l2
      · rcases hp2 with hp2 | hp2
        · subst hp2
          obtain ⟨e1, e2⟩ := hq
          refine fin cs ⟨e1, rfl⟩ ?_
          rw [e2, sub_len hs]
          split
          · rename_i hp; subst hp; simp [sub] at hs; subst hs; exact hl.symm
          · rfl
        · exact absurd hcom hp2
    · simp only [upd, hik, if_false] at hi
      have hq' := LocQ.other hR hi (fun x hx => hsame x (hR.out i cs' x hi hx).2.1 fun e => by
        subst e
        exact hR.sep i k cs' cs hik hi hk x hx hFb) hq
      refine ⟨cs', ds, hi, hq', rfl, fun b2 o2 hr arr' ha => ?_⟩
      subst hr
      exact hC.cells b2 arr' (LocQ.mem hR hi hq').2 ha

theorem OW.bare {X : Cx} {w : World} {x : AV} {v : Value} {T T' : Nat → Prop} (h : OW X w x v T) (hn : qb8 x = false) : OW X w x v T' := by
  cases h with
  | und _ _ h => exact .und _ _ h
  | val _ _ h => exact .val _ _ h
  | fgn _ _ _ _ _ _ h => exact .fgn _ _ _ _ _ _ h
  | snap _ _ _ _ _ _ h => exact .snap _ _ _ _ _ _ h
  | own => simp [qb8] at hn
  | nil => simp [qb8] at hn

end Go.Proofs.Ythgopooldcheeaa.VH
end

section
namespace Go.Proofs.Ythgopooldcheeaa.VH

def tdOK (P : Program) (t : TypeId) : TD → Prop
  | .bool => P.underlying t = some .bool
  | .int k => P.underlying t = some (.int k)
  | .string => P.underlying t = some .string
  | .slice e => P.underlying t = some (.slice e)
  | .struct fs => ∃ fields, P.underlying t = some (.struct fields) ∧ fields.toList.map (fun f => (f.offset, f.type)) = fs
  | .array n e => P.underlying t = some (.array n e)
  | .pointer e => P.underlying t = some (.pointer e)
  | .other => ∃ d, P.underlying t = some d ∧ (match d with | .struct _ | .array .. => False | _ => True)

/-- a struct whose parts are compared cell by cell -/
def leafTy (P : Program) (t : TypeId) (z : Value) : Bool := match P.underlying t, z with
  | some (.int _), .int _ _ => true
  | some .string, .string _ => true
  | some .bool, .bool _ => true
  | _, _ => false
def cmpF (P : Program) : Nat → List Field → List Value → Bool
  | _, [], [] => true
  | i, f :: r, z :: zs => f.offset == i && (f.name != "_" && (leafTy P f.type z && cmpF P (i + 1) r zs))
  | _, _, _ => false
def cmpB (P : Program) (t : TypeId) (zs : List Value) : Bool := match P.underlying t with
  | some (.struct fs) => cmpF P 0 fs.toList zs && (!P.stoodInHeld t && !P.eqGuardType P.depth t)
  | _ => false

structure RowOK (P : Program) (t : TypeId) (r : Row) : Prop where
  td : tdOK P t r.td
  info : ∃ i z, P.info? t = some i ∧ i.size = r.size ∧ i.bytes = r.bytes ∧ i.zero = some z ∧ z.cells.toList = r.zero
  zl : r.zero.length = r.size
  zleaf : ∀ v ∈ r.zero, qc4 v = true
  one : r.td.agg = false → r.size = 1
  bytes : r.bytes ≤ 256
  cmp : r.flat = true → cmpB P t r.zero = true

def Env.OK (E : Env) (P : Program) : Prop := ∀ t r, E.row t = some r → RowOK P t r

def OP {R : Type} (X : Cx) (U : Nat → Prop) (fr : Nat) (μ : Nat → Option (Nat × Nat)) (H : Heap) (w : World) (K : AV → Heap → Tr → Option R) (r : R) (v : Value) (w' : World) : Prop :=
  ∃ (x : AV) (μ' : Nat → Option (Nat × Nat)) (F' : Nat → Nat → Prop) (H' : Heap) (t' : Tr), K x H' t' = some r ∧ Rel X μ' F' H' w' (fun _ => False) ∧ Keep U t'.kl μ H w μ' H' w' ∧ RV X μ' H' w' x v ∧
    (∀ k, k ∈ qf6 x → U k ∨ (fr ≤ k ∧ k < fr + 8)) ∧ (∀ k, H k = none → ¬ (fr ≤ k ∧ k < fr + 8) → H' k = none)

theorem OP.pure {R : Type} {X : Cx} {U : Nat → Prop} {fr : Nat} {μ : Nat → Option (Nat × Nat)} {F : Nat → Nat → Prop} {H : Heap} {w : World} {K : AV → Heap → Tr → Option R} {r : R} {t : Tr} {x : AV} {v : Value}
    (hR : Rel X μ F H w (fun _ => False)) (ht : t.kl = []) (h : K x H t = some r) (hv : RV X μ H w x v) (hk : ∀ k, k ∈ qf6 x → U k) : OP X U fr μ H w K r v w :=
  ⟨x, μ, F, H, t, h, hR, by rw [ht]; exact Keep.refl U μ H w, hv, fun k hh => .inl (hk k hh), fun _ h _ => h⟩

/-- a step that changes nothing -/
def PP {R : Type} (X : Cx) (U : Nat → Prop) (μ : Nat → Option (Nat × Nat)) (H : Heap) (w : World) (K : AV → Heap → Tr → Option R) (r : R) (v : Value) : Prop :=
  ∃ (x : AV) (t' : Tr), K x H t' = some r ∧ t'.kl = [] ∧ RV X μ H w x v ∧ ∀ k, k ∈ qf6 x → U k

theorem PP.pure {R : Type} {X : Cx} {U : Nat → Prop} {μ : Nat → Option (Nat × Nat)} {F : Nat → Nat → Prop} {H : Heap} {w : World} {K : AV → Heap → Tr → Option R} {r : R} {t : Tr} {x : AV} {v : Value}
    (_ : Rel X μ F H w (fun _ => False)) (ht : t.kl = []) (h : K x H t = some r) (hv : RV X μ H w x v) (hk : ∀ k, k ∈ qf6 x → U k) : PP X U μ H w K r v := ⟨x, t, h, ht, hv, hk⟩

theorem PP.op {R : Type} {X : Cx} {U : Nat → Prop} {fr : Nat} {μ : Nat → Option (Nat × Nat)} {F : Nat → Nat → Prop} {H : Heap} {w : World} {K : AV → Heap → Tr → Option R} {r : R} {v : Value} (h : PP X U μ H w K r v) (hR : Rel X μ F H w (fun _ => False)) : OP X U fr μ H w K r v w :=
  let ⟨_, _, h1, h2, h3, h4⟩ := h
  OP.pure hR h2 h1 h3 h4

theorem opnd_rv {X : Cx} {μ : Nat → Option (Nat × Nat)} {H : Heap} {w : World} {T : Nat → AV} {a : Act} (hT : ∀ t, RV X μ H w (T t) (a.tmps.getD t undef)) (x : Operand) : RV X μ H w (opnd T x) (a.eval x) := by
  cases x with
  | tmp t => exact hT t
  | global g => exact .und _
  | func f => exact .fn f [] #[] rfl (fun i h => by simp at h)
  | const v =>
    cases v <;> try exact .val _
    rename_i cs
    simp only [opnd, Act.eval]
    cases hb : cs.toList.all qc4 with
    | false => exact .und _
    | true =>
      refine .agg _ cs (by simp) (fun i h => ?_) fun i h h' => ?_
      · rw [List.all_eq_true] at hb
        exact hb _ (by simp)
      · simp only [List.getElem_map, Array.getElem_toList]
        exact .val _

theorem opnd_keys {T : Nat → AV} {U : Nat → Prop} (hT : ∀ t k, k ∈ qf6 (T t) → U k) (x : Operand) : ∀ k, k ∈ qf6 (opnd T x) → U k := by
  intro k hk
  cases x with
  | tmp t => exact hT t k hk
  | global g => simp [opnd, qf6] at hk
  | func f => simp [opnd, qf6, qf5] at hk
  | const v =>
    cases v <;> try (simp [opnd, qf6] at hk; done)
    rename_i cs
    exfalso
    simp only [opnd] at hk
    cases hb : cs.toList.all qc4 with
    | false => simp [hb, qf6] at hk
    | true =>
      simp only [hb, cond_true, qf6] at hk
      obtain ⟨i, hi, hk⟩ := keysL_mem hk
      simp [qf6] at hk

section
variable {R : Type} {X : Cx} {U : Nat → Prop} {fr : Nat} {μ : Nat → Option (Nat × Nat)} {F : Nat → Nat → Prop} {H : Heap} {w : World} {K : AV → Heap → Tr → Option R} {r : R} {t : Tr} {P : Program}

theorem intBin_sound (hR : Rel X μ F H w (fun _ => False)) (ht : t.kl = []) {op : BinOp} {k k' : IntKind} {a b : Int} (xt : TypeId) (hkk : (match op with | .shl | .shr => True | _ => k = k')) (h : (intBin op k a b).run H t K = some r) :
    ∃ v, (Go.binOp op xt (.int k a) (.int k' b)).run P w = .ok v w ∧ OP X U fr μ H w K r v w := by
  have fin : ∀ v, (K (.val v) H t = some r) → OP X U fr μ H w K r v w := fun v h => OP.pure hR ht h (.val v) (fun k hk => by simp [qf6] at hk)
  cases op <;> simp only at hkk <;> (try subst hkk) <;> simp only [intBin] at h
  case quo => obtain ⟨hb, h⟩ := guardB_run' h; exact ⟨_, by simp at hb; simp [Go.binOp, Op.intDiv, hb], fin _ h⟩
  case rem => obtain ⟨hb, h⟩ := guardB_run' h; exact ⟨_, by simp at hb; simp [Go.binOp, Op.intDiv, hb], fin _ h⟩
  case shl =>
    obtain ⟨hb, h⟩ := guardB_run' h
    have hb := of_decide_eq_true hb
    have : ¬ b < 0 := by omega
    exact ⟨_, by simp [Go.binOp, Op.shift, this], fin _ h⟩
  case shr =>
    obtain ⟨hb, h⟩ := guardB_run' h
    have hb := of_decide_eq_true hb
    have : ¬ b < 0 := by omega
    exact ⟨_, by simp [Go.binOp, Op.shift, this], fin _ h⟩
  all_goals exact ⟨_, by simp [Go.binOp, Op.intArith, Op.intBits, Op.intCmp] <;> rfl, fin _ h⟩

theorem strBin_sound (hR : Rel X μ F H w (fun _ => False)) (ht : t.kl = []) {op : BinOp} {a b : ByteArray} (xt : TypeId) (h : (strBin op a b).run H t K = some r) :
    ∃ v, (Go.binOp op xt (.string a) (.string b)).run P w = .ok v w ∧ OP X U fr μ H w K r v w := by
  have fin : ∀ v, (K (.val v) H t = some r) → OP X U fr μ H w K r v w := fun v h => OP.pure hR ht h (.val v) (fun k hk => by simp [qf6] at hk)
  cases op <;> simp only [strBin] at h <;> try (exfalso; simp [HM.run] at h; done)
  case add =>
    obtain ⟨hb, h⟩ := guardB_run' h
    have hb := of_decide_eq_true hb
    refine ⟨_, ?_, fin _ h⟩
    have : ¬ (((a.size + b.size : Nat) : Int) > IntKind.i64.max) := by
      have : IntKind.i64.max = 9223372036854775807 := by decide
      rw [this]; unfold LIM at hb; omega
    simp only [Go.binOp, Op.stringOp, this, if_false]
    rfl
  all_goals exact ⟨_, by simp [Go.binOp, Op.stringOp], fin _ h⟩

theorem slLen_inv {x : AV} {n : Nat} (h : qb x = some n) : (x = .val qc6 ∧ n = 0) ∨ (∃ tg z cap cs, x = .sl tg z n cap cs) ∨ (∃ k p z off cap, x = .ref k p z off n cap) := by
  unfold qb at h
  split at h
  · injection h with h; exact .inl ⟨rfl, h.symm⟩
  · injection h with h; subst h; exact .inr (.inl ⟨_, _, _, _, rfl⟩)
  · injection h with h; subst h; exact .inr (.inr ⟨_, _, _, _, _, rfl⟩)
  · exact absurd h (by simp)

/-- a slice's header -/
theorem slLen_hdr {x : AV} {n : Nat} {v : Value} (h : qb x = some n) (hv : RV X μ H w x v) : ∃ A c, v = .slice A n c ∧ n ≤ c ∧ (x = .val qc6 → A = none) ∧ (0 < n → A ≠ none) := by
  rcases slLen_inv h with ⟨rfl, rfl⟩ | ⟨tg, z, cap, cs, rfl⟩ | ⟨k, p, z, off, cap, rfl⟩
  · cases hv with | val => exact ⟨none, 0, rfl, Nat.le_refl _, fun _ => rfl, fun h => by omega⟩
  · cases hv with
    | sl _ _ _ _ _ _ ht hr =>
      cases hr with
      | sl _ _ _ _ _ b o c arr vs h1 h2 h3 => exact ⟨_, c, rfl, h3, fun e => by simp at e, fun _ => by simp⟩
      | nil _ _ _ A c => exact ⟨A, c, rfl, Nat.zero_le _, fun e => by simp at e, fun h => by omega⟩
  · cases hv with
    | ref _ _ _ _ _ _ A c hn hc hA => exact ⟨A, c, rfl, hn, fun e => by simp at e, fun h e => by have := hA e; omega⟩

theorem getR_inv {cs : List AV} : ∀ {n off : Nat} {xs : List AV}, getR cs off n = some xs → xs.length = n ∧ ∀ i (h : i < xs.length), cs[off + i]? = some xs[i] := by
  intro n
  induction n with
  | zero => intro off xs h; simp [getR] at h; subst h; exact ⟨rfl, fun i h => by simp at h⟩
  | succ n ih =>
    intro off xs h
    simp only [getR] at h
    split at h
    · rename_i x hx
      split at h
      · rename_i ys hy
        injection h with h; subst h
        obtain ⟨h1, h2⟩ := ih hy
        refine ⟨by simp [h1], fun i hi => ?_⟩
        cases i with
        | zero => simpa using hx
        | succ i =>
          have := h2 i (by simpa using hi)
          simp only [List.getElem_cons_succ]
          rw [← this]
          congr 1; omega
      · exact absurd h (by simp)
    · exact absurd h (by simp)

theorem loadedL_get {k : Nat} {p : List Nat} : ∀ {xs : List AV} {i j : Nat} (h : j < (qb5 k p i xs).length) (h' : j < xs.length), (qb5 k p i xs)[j] = qb6 k p (i + j) xs[j]
  | x :: xs, i, 0, _, _ => rfl
  | x :: xs, i, j + 1, h, h' => by
    simp only [qb5, List.getElem_cons_succ]
    rw [loadedL_get (by simpa [qb5] using h) (by simpa using h')]
    congr 1; omega

theorem loadedL_len {k : Nat} {p : List Nat} : ∀ {xs : List AV} {i : Nat}, (qb5 k p i xs).length = xs.length
  | [], _ => rfl
  | x :: xs, i => by simp [qb5, loadedL_len]

/-- the part of a located value that a load tells -/
theorem loaded_rv {k : Nat} {p : List Nat} {cs ds : List AV} {b o : Nat} {T : Nat → Prop} (hk : H k = some cs) (hq : LocQ w (μ k) cs p (some (b, o)) ds) (hC : Cells X w b o ds T) {i : Nat} {x : AV} (hi : ds[i]? = some x) :
    ∃ v, w.cell? ⟨b, o + i, none⟩ = some v ∧ qc4 v = true ∧ RV X μ H w (qb6 k p i x) v := by
  obtain ⟨arr, vs, Ts, c1, c2, c3, c4, c5, c6, c7, c8⟩ := hC
  obtain ⟨hil, hie⟩ := List.getElem?_eq_some_iff.mp hi
  have hcell : w.cell? ⟨b, o + i, none⟩ = some (vs i) := by rw [cell?_of c1.rblk]; exact c4 i hil
  have hO := c5 i hil
  rw [hie] at hO
  refine ⟨vs i, hcell, hO.leaf, ?_⟩
  generalize hv : vs i = v at hO hcell
  generalize hTi : Ts i = Ti at hO
  cases hO with
  | und _ _ _ => exact .und _
  | val _ _ _ => exact .val _
  | fgn z n cap es v T h => exact .sl _ _ _ _ _ _ (by simp) h
  | snap z n cap es v T h => exact .sl _ _ _ _ _ _ (by simp) h
  | nil z cap A _ hc =>
    refine .ref k (p ++ [i]) z 0 0 cap A 0 (Nat.le_refl _) hc (fun _ => rfl) fun cs' res ds' hk' hq' => ?_
    rw [hk] at hk'; injection hk' with hk'; subst hk'
    obtain ⟨e1, e2⟩ := (LocQ.snoc hi hcell (.inl ⟨rfl, rfl⟩) hq).uniq hq'
    subst e1
    exact rfl
  | own z n cap es b1 o1 c arr1 vs1 Ts1 _ g1 g2 g3 g4 g5 g6 g7 g8 g9 g10 g11 g12 =>
    refine .ref k (p ++ [i]) z 0 n cap _ c g3 g4 (fun e => by simp at e) fun cs' res ds' hk' hq' => ?_
    rw [hk] at hk'; injection hk' with hk'; subst hk'
    by_cases hc0 : c = 0
    · subst hc0
      obtain ⟨e1, e2⟩ := (LocQ.snoc hi hcell (.inl ⟨rfl, rfl⟩) hq).uniq hq'
      subst e1
      exact rfl
    · obtain ⟨e1, e2⟩ := (LocQ.snoc hi hcell (.inr ⟨by omega, b1, o1, rfl, rfl⟩) hq).uniq hq'
      subst e1; subst e2
      refine .inr ⟨rfl, fun _ => ?_, fun arr2 h2 => ?_⟩
      · rw [g5]; have := Nat.mul_le_mul_right z g3; omega
      · rw [← g1.rblk.uniq h2]; exact ⟨by simpa using g6, g12⟩

theorem isAgg_run (P : Program) (w : World) {t : TypeId} {td : TD} (h : tdOK P t td) : (isAgg t).run P w = .ok td.agg w := by
  unfold isAgg underlying
  cases td with
  | struct fs => obtain ⟨f, h, _⟩ := h; simp [h, TD.agg]
  | other =>
    obtain ⟨d, h, hd⟩ := h
    cases d <;> simp only at hd <;> simp [h, TD.agg]
  | _ => simp [show P.underlying t = _ from h, TD.agg]

theorem sizeOf_run (P : Program) (w : World) {t : TypeId} {r : Row} (h : RowOK P t r) : (sizeOf t).run P w = .ok r.size w := by
  obtain ⟨i, z, h1, h2, _⟩ := h.info
  simp [sizeOf, typeInfo, h1, h2]

theorem loadCellsFrom_run (P : Program) (w : World) (b o : Nat) : ∀ (n i : Nat) (vs : List Value) (acc : Array Value), vs.length = n → (∀ j (h : j < vs.length), w.cell? ⟨b, o + (i + j), none⟩ = some vs[j]) →
    (loadCellsFrom ⟨b, o, none⟩ i n acc).run P w = .ok (acc ++ vs.toArray) w := by
  intro n
  induction n with
  | zero => intro i vs acc hl _; have : vs = [] := List.eq_nil_of_length_eq_zero hl; subst this; simp [loadCellsFrom]
  | succ n ih =>
    intro i vs acc hl h
    cases vs with
    | nil => simp at hl
    | cons v vs =>
      have h0 := h 0 (by simp)
      simp only [Nat.add_zero, List.getElem_cons_zero] at h0
      have ha : (⟨b, o, none⟩ : Addr).add i = ⟨b, o + i, none⟩ := by
        unfold Addr.add; split
        · rename_i e; subst e; rfl
        · rfl
      simp only [loadCellsFrom, Sem.run_bind, run_load, ha, h0, Result.andThen_ok]
      rw [ih (i + 1) vs (acc.push v) (by simpa using hl) (fun j hj => by
        have := h (j + 1) (by simpa using hj)
        simp only [List.getElem_cons_succ] at this
        rw [← this]; congr 2; omega)]
      simp

theorem loadVar_run (P : Program) (w : World) {t : TypeId} {r : Row} (hr : RowOK P t r) {b o : Nat} {vs : List Value} (hl : vs.length = r.size) (h : ∀ j (h : j < vs.length), w.cell? ⟨b, o + j, none⟩ = some vs[j]) :
    (loadVar t ⟨b, o, none⟩).run P w = .ok (if r.td.agg then .agg vs.toArray else vs.headD undef) w := by
  unfold loadVar
  rw [Sem.run_bind, isAgg_run P w hr.td]
  simp only [Result.andThen_ok]
  cases ha : r.td.agg with
  | true =>
    simp only [if_true, Sem.run_bind, sizeOf_run P w hr, Result.andThen_ok, loadCells]
    rw [loadCellsFrom_run P w b o r.size 0 vs #[] hl (fun j hj => by simpa using h j hj)]
    simp
  | false =>
    have := hr.one ha
    rw [this] at hl
    obtain ⟨v, rfl⟩ := List.length_eq_one_iff.mp hl
    have h0 := h 0 (by simp)
    simp only [Nat.add_zero, List.getElem_cons_zero] at h0
    simp [h0]

end
end Go.Proofs.Ythgopooldcheeaa.VH
end

section
namespace Go.Proofs.Ythgopooldcheeaa.VH

section
variable {R : Type} {X : Cx} {U : Nat → Prop} {fr : Nat} {μ : Nat → Option (Nat × Nat)} {F : Nat → Nat → Prop} {H : Heap} {w : World} {K : AV → Heap → Tr → Option R} {r : R} {t : Tr} {P : Program} {E : Env}

theorem equal_bool_d {xt : TypeId} (h : P.underlying xt = some .bool) (a b : Bool) (d : Nat) : (Op.equalIn (d + 1) xt (.bool a) (.bool b)).run P w = .ok (a == b) w := by
  simp only [Op.equalIn, Sem.run_bind, underlying, run_program, Result.andThen_ok, h, Sem.run_pure]
theorem equal_nil_d {xt e : TypeId} (h : P.underlying xt = some (.slice e)) (A : Option Addr) (l c : Nat) (d : Nat) : (Op.equalIn (d + 1) xt (.slice A l c) (.slice none 0 0)).run P w = .ok A.isNone w := by
  cases A <;> simp only [Op.equalIn, Sem.run_bind, underlying, run_program, Result.andThen_ok, h, Sem.run_pure] <;> rfl
theorem equal_bool {xt : TypeId} (h : P.underlying xt = some .bool) (a b : Bool) : (Op.equal xt (.bool a) (.bool b)).run P w = .ok (a == b) w := equal_bool_d h a b 9999
theorem equal_nil {xt e : TypeId} (h : P.underlying xt = some (.slice e)) (A : Option Addr) (l c : Nat) : (Op.equal xt (.slice A l c) (.slice none 0 0)).run P w = .ok A.isNone w := equal_nil_d h A l c 9999

theorem isNil_inv {x : AV} (h : qc5 x = true) : x = .val qc6 := by
  unfold qc5 at h
  split at h
  · rfl
  · exact absurd h (by simp)

theorem bin_sound (hR : Rel X μ F H w (fun _ => False)) (ht : t.kl = []) (hE : E.OK P) {op : BinOp} {xt : TypeId} {ox oy : Operand} {x y : AV} {u v : Value} (hx : RV X μ H w x u) (hy : RV X μ H w y v)
    (h : (bin ((E.row xt).map (·.td)) op x y).run H t K = some r) : ∃ z, ((do eqGuard op xt ox oy u v; Go.binOp op xt u v) : Sem Value).run P w = .ok z w ∧ OP X U fr μ H w K r z w := by
  have fin : ∀ b : Bool, (K (.val (.bool b)) H t = some r) → OP X U fr μ H w K r (.bool b) w := fun b h => OP.pure hR ht h (.val _) (fun k hk => by simp [qf6] at hk)
  unfold bin at h
  split at h
  · rename_i k a k' b
    cases hx; cases hy
    have hg : (eqGuard op xt ox oy (.int k a) (.int k' b)).run P w = .ok () w := by unfold eqGuard; cases op <;> simp
    rw [Sem.run_bind, hg, Result.andThen_ok]
    split at h
    · exact intBin_sound hR ht xt trivial h
    · exact intBin_sound hR ht xt trivial h
    · rename_i h1 h2
      obtain ⟨hk, h⟩ := guardB_run' h
      have hk := of_decide_eq_true hk
      exact intBin_sound hR ht xt (by cases op <;> first | exact hk | trivial) h
  · rename_i a b
    cases hx; cases hy
    have hg : (eqGuard op xt ox oy (.string a) (.string b)).run P w = .ok () w := by unfold eqGuard; cases op <;> simp
    rw [Sem.run_bind, hg, Result.andThen_ok]
    exact strBin_sound hR ht xt h
  · rename_i a b
    cases hx; cases hy
    have hg : (eqGuard op xt ox oy (.bool a) (.bool b)).run P w = .ok () w := by unfold eqGuard; cases op <;> simp
    rw [Sem.run_bind, hg, Result.andThen_ok]
    cases hrow : E.row xt with
    | none => simp [hrow, HM.run] at h
    | some row =>
      simp only [hrow, Option.map_some] at h
      have htd := (hE xt row hrow).td
      split at h
      · rename_i hb
        rw [Option.some.inj hb] at htd
        refine ⟨.bool (a == b), ?_, fin _ h⟩
        show ((do pure (Value.bool (← Op.equal xt (.bool a) (.bool b)))) : Sem Value).run P w = _
        rw [Sem.run_bind, equal_bool htd]; rfl
      · rename_i hb
        rw [Option.some.inj hb] at htd
        refine ⟨.bool (!(a == b)), ?_, fin _ h⟩
        show ((do pure (Value.bool (!(← Op.equal xt (.bool a) (.bool b))))) : Sem Value).run P w = _
        rw [Sem.run_bind, equal_bool htd]; rfl
      · simp [HM.run] at h
  · cases hrow : E.row xt with
    | none => simp [hrow, HM.run] at h
    | some row =>
      simp only [hrow, Option.map_some] at h
      have htd := (hE xt row hrow).td
      have core : ∀ n e, qb x = some n → row.td = .slice e → (qc5 y && (qc5 x || decide (0 < n))) = true → ∃ A l c, u = .slice A l c ∧ v = .slice none 0 0 ∧ A.isNone = qc5 x := by
        intro n e hl _ hg
        simp only [Bool.and_eq_true, Bool.or_eq_true, decide_eq_true_eq] at hg
        obtain ⟨hy0, hx0⟩ := hg
        have := isNil_inv hy0
        subst this
        cases hy
        obtain ⟨A, c, hu, hn, h1, h2⟩ := slLen_hdr hl hx
        refine ⟨A, n, c, hu, rfl, ?_⟩
        cases hnx : qc5 x with
        | true => rw [h1 (isNil_inv hnx)]; rfl
        | false =>
          have hpos : 0 < n := hx0.resolve_left (by simp [hnx])
          cases A with
          | none => exact absurd rfl (h2 hpos)
          | some a => rfl
      split at h
      · rename_i e n hb hl
        obtain ⟨hg, h⟩ := guardB_run' h
        have hb := Option.some.inj hb
        cases hcb : (qc5 x || decide (0 < n)) with
        | false =>
          rw [hcb] at h
          simp only [cond_false, HM.run] at h
          have h9 := h
          have := isNil_inv hg
          subst this
          cases hy
          obtain ⟨A, c, rfl, _, _, _⟩ := slLen_hdr hl hx
          rw [hb] at htd
          have hgd : (eqGuard .eql xt ox oy (.slice A n c) qc6).run P w = .ok () w := by unfold eqGuard; simp [qc6]
          rw [Sem.run_bind, hgd, Result.andThen_ok]
          refine ⟨.bool A.isNone, ?_, OP.pure hR ht h9 (.bx _) (fun k hk => by simp [qf6, qf5] at hk)⟩
          show ((do pure (Value.bool (← Op.equal xt (.slice A n c) (.slice none 0 0)))) : Sem Value).run P w = _
          rw [Sem.run_bind, equal_nil htd]; rfl
        | true =>
        rw [hcb] at h
        simp only [cond_true, HM.run] at h
        obtain ⟨A, l, c, rfl, rfl, hA⟩ := core n e hl hb (by rw [hg, hcb]; rfl)
        rw [hb] at htd
        have hgd : (eqGuard .eql xt ox oy (.slice A l c) (.slice none 0 0)).run P w = .ok () w := by unfold eqGuard; simp
        rw [Sem.run_bind, hgd, Result.andThen_ok]
        refine ⟨.bool (qc5 x), ?_, fin _ h⟩
        rw [← hA]
        show ((do pure (Value.bool (← Op.equal xt (.slice A l c) (.slice none 0 0)))) : Sem Value).run P w = _
        rw [Sem.run_bind, equal_nil htd]; rfl
      · rename_i e n hb hl
        obtain ⟨hg, h⟩ := guardB_run' h
        have hb := Option.some.inj hb
        cases hcb : (qc5 x || decide (0 < n)) with
        | false =>
          rw [hcb] at h
          simp only [cond_false, HM.run] at h
          have h9 := h
          have := isNil_inv hg
          subst this
          cases hy
          obtain ⟨A, c, rfl, _, _, _⟩ := slLen_hdr hl hx
          rw [hb] at htd
          have hgd : (eqGuard .neq xt ox oy (.slice A n c) qc6).run P w = .ok () w := by unfold eqGuard; simp [qc6]
          rw [Sem.run_bind, hgd, Result.andThen_ok]
          refine ⟨.bool (!A.isNone), ?_, OP.pure hR ht h9 (.bx _) (fun k hk => by simp [qf6, qf5] at hk)⟩
          show ((do pure (Value.bool (!(← Op.equal xt (.slice A n c) (.slice none 0 0))))) : Sem Value).run P w = _
          rw [Sem.run_bind, equal_nil htd]; rfl
        | true =>
        rw [hcb] at h
        simp only [cond_true, HM.run] at h
        obtain ⟨A, l, c, rfl, rfl, hA⟩ := core n e hl hb (by rw [hg, hcb]; rfl)
        rw [hb] at htd
        have hgd : (eqGuard .neq xt ox oy (.slice A l c) (.slice none 0 0)).run P w = .ok () w := by unfold eqGuard; simp
        rw [Sem.run_bind, hgd, Result.andThen_ok]
        refine ⟨.bool (!qc5 x), ?_, fin _ h⟩
        rw [← hA]
        show ((do pure (Value.bool (!(← Op.equal xt (.slice A l c) (.slice none 0 0))))) : Sem Value).run P w = _
        rw [Sem.run_bind, equal_nil htd]; rfl
      · simp [HM.run] at h

theorem add_spot (b o n : Nat) : (⟨b, o, none⟩ : Addr).add n = ⟨b, o + n, none⟩ := by
  unfold Addr.add; split
  · rename_i e; subst e; rfl
  · rfl

theorem idxAddr_sound (hR : Rel X μ F H w (fun _ => False)) (ht : t.kl = []) {ty e : TypeId} {re : Row} (hty : P.underlying ty = some (.slice e)) (hre : RowOK P e re) {x : AV} {i : Int} {k : IntKind} {u : Value} (hx : RV X μ H w x u) (hk : ∀ k, k ∈ qf6 x → U k)
    (h : (qb3 x re.size i).run H t K = some r) : ∃ z, (Instr.indexAt ty u (.int k i)).run P w = .ok z w ∧ OP X U fr μ H w K r z w := by
  have conc : ∀ (b o n c : Nat) (hi : 0 ≤ i ∧ i < (n : Int)), (Instr.indexAt ty (.slice (some ⟨b, o, none⟩) n c) (.int k i)).run P w = .ok (.pointer (some ⟨b, o + i.toNat * re.size, none⟩)) w := by
    intro b o n c hi
    simp [Instr.indexAt, asIntOf, underlying, hty, hi, sizeOf_run P w hre, add_spot]
  unfold qb3 at h
  split at h
  · rename_i tg z n cap cs
    obtain ⟨hg, h⟩ := guardB_run' h
    simp only [Bool.and_eq_true, decide_eq_true_eq] at hg
    cases hx with
    | sl _ _ _ _ _ _ htg hr =>
      cases hr with
      | nil => simp at hg; omega
      | sl _ _ _ _ _ b o c arr vs h1 h2 h3 h4 h5 h6 h7 =>
        exact ⟨_, conc b o n c hg, OP.pure hR ht h (.rp tg cs _ b o arr vs htg h1 h2 h6 h7) (fun k hk => by simp [qf6] at hk)⟩
  · rename_i kk p z off n cap
    obtain ⟨hg, h⟩ := guardB_run' h
    simp only [Bool.and_eq_true, decide_eq_true_eq] at hg
    cases hx with
    | ref _ _ _ _ _ _ A c hn hc hA hh =>
      cases A with
      | none => have := hA rfl; omega
      | some a =>
        obtain ⟨b0, o0, sp⟩ := a
        refine ⟨.pointer (some ((⟨b0, o0, sp⟩ : Addr).add (i.toNat * re.size))), ?_, OP.pure hR ht h ?_ (fun k hk' => hk k hk')⟩
        · simp [Instr.indexAt, asIntOf, underlying, hty, hg, sizeOf_run P w hre]
        · refine .ptr kk p _ _ fun cs b o ds hkk hq => ?_
          have := hh cs _ ds hkk hq
          rcases this with h0 | ⟨h1, _⟩
          · omega
          · injection h1 with h1
            rw [h1, add_spot]
            congr 1; omega
  · simp [HM.run] at h

theorem getR_at {cs : List AV} {n off : Nat} {xs : List AV} (h : getR cs off n = some xs) {i : Nat} (hi : i < xs.length) : ∃ hh : off + i < cs.length, cs[off + i] = xs[i] :=
  List.getElem?_eq_some_iff.mp ((getR_inv h).2 i hi)

theorem rd_rv {tg : Tg} (htg : tg ≠ .own) {x : AV} {v : Value} (h : RD X.w0 (tagS X tg) x v) : RV X μ H w (qb7 tg x) v := by
  cases h with
  | und v h => exact .und v
  | val v h => exact .val v
  | sl tg' z n cap cs b o c arr vs h1 h2 h3 h4 h5 h6 h7 => exact .sl tg z n cap cs _ htg (.sl tg z n cap cs b o c arr vs h1 h2 h3 h4 h5 h6 h7)
  | nil tg' z cap A c hc => exact .sl tg z 0 cap [] _ htg (.nil tg z cap A c hc)

theorem rd_keys {tg : Tg} {S : Nat → Prop} {x : AV} {v : Value} (h : RD X.w0 S x v) : qf6 (qb7 tg x) = [] := by
  cases h <;> rfl

theorem tagS_fo (hX : X.WF) {tg : Tg} {b : Nat} (h : tagS X tg b) : X.Fo b := by
  cases tg <;> first | exact h | exact hX.fg b h

theorem load_sound (hX : X.WF) (hR : Rel X μ F H w (fun _ => False)) (ht : t.kl = []) {ty : TypeId} {row : Row} (hrow : RowOK P ty row) {a : AV} {u : Value} (ha : RV X μ H w a u) (hk : ∀ k, k ∈ qf6 a → U k)
    (h : (qb1 row a).run H t K = some r) : ∃ z, (Instr.loadAt ty u).run P w = .ok z w ∧ PP X U μ H w K r z := by
  -- from values of the cells to the load
  have conc : ∀ (b o : Nat) (ys : List AV) (vs : List Value) (t' : Tr), t'.kl = [] → vs.length = row.size → ys.length = vs.length → (∀ j (h : j < vs.length), w.cell? ⟨b, o + j, none⟩ = some vs[j]) → (∀ j (h : j < vs.length), qc4 vs[j] = true) →
      (∀ j (h : j < vs.length) (h' : j < ys.length), RV X μ H w ys[j] vs[j]) → (∀ k, k ∈ qf5 ys → U k) →
      (HM.run (bif row.td.agg then HM.ret (.agg ys) else match ys with | [x] => HM.ret x | _ => HM.fail) H t' K = some r) →
      ∃ z, (Instr.loadAt ty (.pointer (some ⟨b, o, none⟩))).run P w = .ok z w ∧ PP X U μ H w K r z := by
    intro b o ys vs t' ht' hl hyl hc hlf hv hku h
    refine ⟨_, by simp [Instr.loadAt, Instr.sureAddr, loadVar_run P w hrow hl hc]; rfl, ?_⟩
    cases hag : row.td.agg with
    | true =>
      rw [hag] at h
      simp only [cond_true, if_true] at h ⊢
      refine PP.pure hR ht' h (.agg ys _ (by simp [hyl]) (fun i hi => ?_) fun i hi hi' => ?_) (fun k hk => hku k (by simpa [qf6] using hk))
      · simp only [List.getElem_toArray]; exact hlf i _
      · simp only [List.getElem_toArray]; exact hv i _ _
    | false =>
      rw [hag] at h
      have h1 := hrow.one hag
      rw [h1] at hl
      obtain ⟨v, rfl⟩ := List.length_eq_one_iff.mp hl
      rw [hl] at hyl
      obtain ⟨y, rfl⟩ := List.length_eq_one_iff.mp hyl
      simp only [cond_false, Bool.false_eq_true, if_false, List.headD_cons] at h ⊢
      exact PP.pure hR ht' h (hv 0 (by simp) (by simp)) (fun k hk => hku k (by simpa [qf5] using hk))
  unfold qb1 at h
  split at h
  · rename_i k p off
    simp only [qb2, HM.bind, HM.run] at h
    cases hH : H k with
    | none => simp [hH] at h
    | some cs =>
    simp only [hH] at h
    cases hs : sub p cs with
    | none => simp [hs, HM.bind, HM.run] at h
    | some ds =>
    simp only [hs, HM.bind] at h
    obtain ⟨xs, hxs, h⟩ := ofOpt_run h
    obtain ⟨hxl, hxg⟩ := getR_inv hxs
    obtain ⟨res, T, hq, hat, _⟩ := look_at hR hH hs
    cases ha with
    | ptr _ _ _ a0 haa =>
      cases res with
      | none =>
        have hds : ds = [] := hat
        subst hds
        have : xs = [] := by
          cases xs with
          | nil => rfl
          | cons x xs => obtain ⟨hh, _⟩ := getR_at hxs (i := 0) (by simp); simp at hh
        subst this
        simp only [List.length_nil] at hxl
        obtain ⟨b0, o0, sp⟩ := a0
        have hag : row.td.agg = true := by
          cases hag : row.td.agg with
          | true => rfl
          | false => have := hrow.one hag; omega
        have hload : (Instr.loadAt ty (.pointer (some ⟨b0, o0, sp⟩))).run P w = .ok (.agg #[]) w := by
          simp [Instr.loadAt, Instr.sureAddr, loadVar, isAgg_run P w hrow.td, hag, sizeOf_run P w hrow, ← hxl, loadCells, loadCellsFrom]
        refine ⟨_, hload, ?_⟩
        simp only [hag, cond_true, qb5] at h
        exact PP.pure hR (by simpa using ht) h (.agg [] #[] rfl (fun i hi => by simp at hi) fun i hi => by simp at hi) (fun k hk => by simp [qf6, qf5] at hk)
      | some bo =>
        obtain ⟨b, o⟩ := bo
        have := haa cs b o ds hH hq
        subst this
        have key : ∀ j (hj : j < xs.length), ∃ v, w.cell? ⟨b, o + (off + j), none⟩ = some v ∧ qc4 v = true ∧ RV X μ H w (qb6 k p (off + j) xs[j]) v := fun j hj => loaded_rv hH hq hat (hxg j hj)
        let vs : List Value := (List.range xs.length).map fun j => if hj : j < xs.length then (key j hj).choose else undef
        have hvl : vs.length = xs.length := by simp [vs]
        have hvs : ∀ j (hj : j < vs.length), w.cell? ⟨b, o + off + j, none⟩ = some vs[j] ∧ qc4 vs[j] = true ∧ RV X μ H w (qb6 k p (off + j) (xs[j]'(by omega))) vs[j] := by
          intro j hj
          have e : vs[j] = (key j (by omega)).choose := by simp only [vs, List.getElem_map, List.getElem_range]; exact dif_pos (by omega)
          rw [e]
          obtain ⟨h1, h2, h3⟩ := (key j (by omega)).choose_spec
          exact ⟨by rw [Nat.add_assoc]; exact h1, h2, h3⟩
        refine conc b (o + off) (qb5 k p off xs) vs { t with rd := k :: t.rd } (by simpa using ht) (by omega) (by rw [loadedL_len, hvl]) (fun j hj => (hvs j hj).1) (fun j hj => (hvs j hj).2.1) (fun j hj hj' => ?_) (fun kk hkk => ?_) ?_
        · rw [loadedL_get hj' (by omega)]; exact (hvs j hj).2.2
        · obtain ⟨i, hi, hkk⟩ := keysL_mem hkk
          rw [loadedL_get hi (by rw [loadedL_len] at hi; exact hi)] at hkk
          have : ∀ x : AV, (∀ k, k ∈ qf6 x → False) ∨ True := fun _ => .inr trivial
          have hx' : ∀ x : AV, (∃ v T, OW X w x v T) → ∀ kk, kk ∈ qf6 (qb6 k p (off + i) x) → kk = k := by
            rintro x ⟨v, T, hO⟩ kk hkk
            cases hO <;> simp [qb6, qf6] at hkk <;> exact hkk
          obtain ⟨arr, vs', Ts, c1, c2, c3, c4, c5, _⟩ := hat
          have hil : i < xs.length := by rw [loadedL_len] at hi; exact hi
          obtain ⟨hh, he⟩ := getR_at hxs hil
          have := hx' xs[i] ⟨_, _, by rw [← he]; exact c5 _ hh⟩ kk hkk
          subst this
          exact hk _ (by simp [qf6])
        · exact h
  · rename_i cs
    obtain ⟨hg0, h⟩ := guardB_run' h
    have hg0 := of_decide_eq_true hg0
    obtain ⟨xs, hxs, h⟩ := ofOpt_run h
    obtain ⟨hxl, hxg⟩ := getR_inv hxs
    cases ha with
    | bx =>
      have : xs = [] ∨ xs ≠ [] := Classical.em _
      rcases this with e | e
      · subst e
        have hz : row.size = 0 := by simpa using hxl.symm
        omega
      · obtain ⟨x, xs', rfl⟩ := List.exists_cons_of_ne_nil e
        obtain ⟨hh, _⟩ := getR_at hxs (i := 0) (by simp)
        simp at hh
    | box _ b o arr vs hne hS hb hv hf hr =>
      have hbw : RBlk w b arr := hb.agree (hR.frame b hS)
      have hle : ∀ j, j < xs.length → j < cs.length := fun j hj => by obtain ⟨hh, _⟩ := getR_at hxs hj; omega
      refine conc b o xs ((List.range xs.length).map vs) t ht (by simp [hxl]) (by simp) (fun j hj => ?_) (fun j hj => ?_) (fun j hj hj' => ?_) (fun kk hkk => ?_) h
      · simp only [List.length_map, List.length_range] at hj
        simp only [List.getElem_map, List.getElem_range]
        rw [cell?_of hbw]; exact hv j (hle j hj)
      · simp only [List.length_map, List.length_range] at hj
        simp only [List.getElem_map, List.getElem_range]
        exact hf j (hle j hj)
      · simp only [List.getElem_map, List.getElem_range]
        obtain ⟨hh, he⟩ := getR_at hxs hj'
        have := hr j (hle j hj')
        have e2 : cs[j]'(hle j hj') = xs[j] := by rw [← he]; congr 1; omega
        rw [← e2]; exact this
      · obtain ⟨i, hi, hkk⟩ := keysL_mem hkk
        obtain ⟨hh, he⟩ := getR_at hxs hi
        rw [← he] at hkk
        exact hk kk (by simp only [qf6]; exact mem_keysL hh hkk)
  · rename_i tg cs off
    obtain ⟨xs, hxs, h⟩ := ofOpt_run h
    obtain ⟨hxl, hxg⟩ := getR_inv hxs
    cases ha with
    | rp _ _ _ b o arr vs htg hS hb hv hr =>
      have hbw : RBlk w b arr := hb.agree (hR.frame b (tagS_fo hX hS))
      have hcell : ∀ j (hj : j < xs.length), w.cell? ⟨b, o + off + j, none⟩ = some (vs (off + j)) ∧ RD X.w0 (tagS X tg) xs[j] (vs (off + j)) := by
        intro j hj
        obtain ⟨hh, he⟩ := getR_at hxs hj
        refine ⟨by rw [cell?_of hbw, Nat.add_assoc]; exact hv _ hh, ?_⟩
        rw [← he]; exact hr _ hh
      let us : List Value := (List.range xs.length).map fun j => vs (off + j)
      have hul : us.length = xs.length := by simp [us]
      have hus : ∀ j (hj : j < us.length), us[j] = vs (off + j) := by intro j hj; simp [us]
      have hh' : HM.run (bif row.td.agg then HM.ret (.agg (xs.map (qb7 tg))) else match xs.map (qb7 tg) with | [x] => HM.ret x | _ => HM.fail) H t K = some r := by
        rw [← h]
        congr 1
        cases xs with
        | nil => rfl
        | cons x xs => cases xs <;> rfl
      refine conc b (o + off) (xs.map (qb7 tg)) us t ht (by omega) (by simp [hul]) (fun j hj => by rw [hus j hj]; exact (hcell j (by omega)).1) (fun j hj => by rw [hus j hj]; exact (hcell j (by omega)).2.leaf) (fun j hj hj' => ?_) (fun kk hkk => ?_) hh'
      · rw [hus j hj, List.getElem_map]; exact rd_rv htg (hcell j (by omega)).2
      · obtain ⟨i, hi, hkk⟩ := keysL_mem hkk
        rw [List.getElem_map, rd_keys (hcell i (by simpa using hi)).2] at hkk
        exact absurd hkk (by simp)
  · simp [HM.run] at h

theorem equal_leaf {ft : TypeId} {z : Value} (h : leafTy P ft z = true) {x y : AV} {b : Bool} (he : eqC z x y = some b) {u v : Value} (hx : RV X μ H w x u) (hy : RV X μ H w y v) (d : Nat) : (Op.equalIn (d + 1) ft u v).run P w = .ok b w := by
  unfold eqC at he
  split at he
  · cases hx; cases hy
    split at he
    · rename_i hk; subst hk
      injection he with he; subst he
      unfold leafTy at h
      split at h
      · rename_i hu _; exact run_equalIn_int w d ft _ _ _ _ hu
      · rename_i hz; cases hz
      · rename_i hz; cases hz
      · simp at h
    · simp at he
  · cases hx; cases hy
    injection he with he; subst he
    unfold leafTy at h
    split at h
    · rename_i hz; cases hz
    · rename_i hu _; exact run_equalIn_string w d ft _ _ hu
    · rename_i hz; cases hz
    · simp at h
  · cases hx; cases hy
    injection he with he; subst he
    unfold leafTy at h
    split at h
    · rename_i hz; cases hz
    · rename_i hz; cases hz
    · rename_i hu _; exact run_equalIn_bool' w d ft _ _ hu
    · simp at h
  · simp at he

theorem part_leaf {ft : TypeId} {z : Value} (h : leafTy P ft z = true) {cs : Array Value} {i : Nat} {v : Value} (hi : cs[i]? = some v) : (part ft cs i).run P w = .ok v w := by
  unfold leafTy at h
  split at h
  · rename_i hu; simp [part, isAgg, underlying, hu, hi]
  · rename_i hu; simp [part, isAgg, underlying, hu, hi]
  · rename_i hu; simp [part, isAgg, underlying, hu, hi]
  · simp at h

theorem equal_fields (d : Nat) {xs ys : Array Value} : ∀ {fs : List Field} {zs : List Value} {as bs : List AV} {i : Nat} {b : Bool}, cmpF P i fs zs = true → eqCells zs as bs = some b →
    (∀ j (h : j < as.length), ∃ v, xs[i + j]? = some v ∧ RV X μ H w as[j] v) → (∀ j (h : j < bs.length), ∃ v, ys[i + j]? = some v ∧ RV X μ H w bs[j] v) →
    (Op.eqFields (d + 1) xs ys fs).run P w = .ok b w
  | [], zs, as, bs, i, b, hc, he, hx, hy => by
    cases zs with
    | cons z zs => simp [cmpF] at hc
    | nil =>
      cases as with
      | cons _ _ => simp [eqCells] at he
      | nil =>
        cases bs with
        | cons _ _ => simp [eqCells] at he
        | nil =>
          simp only [eqCells, Option.some.injEq] at he
          subst he; simp [Op.eqFields]
  | f :: fs, zs, as, bs, i, b, hc, he, hx, hy => by
    cases zs with
    | nil => simp [cmpF] at hc
    | cons z zs =>
      cases as with
      | nil => simp [eqCells] at he
      | cons x as =>
      cases bs with
      | nil => simp [eqCells] at he
      | cons y bs =>
        simp only [eqCells] at he
        simp only [cmpF, Bool.and_eq_true, beq_iff_eq, bne_iff_ne] at hc
        obtain ⟨c1, c2, c3, c4⟩ := hc
        split at he
        · rename_i a b' g1 g2
          injection he with he
          obtain ⟨v, hv, rv⟩ := hx 0 (by simp)
          obtain ⟨v', hv', rv'⟩ := hy 0 (by simp)
          simp only [Nat.add_zero, List.getElem_cons_zero] at hv hv' rv rv'
          have ih := equal_fields d c4 g2 (fun j hj => by
            obtain ⟨v, hv, rv⟩ := hx (j + 1) (by simpa using hj)
            exact ⟨v, by rw [← hv]; congr 1; omega, by simpa using rv⟩) (fun j hj => by
            obtain ⟨v, hv, rv⟩ := hy (j + 1) (by simpa using hj)
            exact ⟨v, by rw [← hv]; congr 1; omega, by simpa using rv⟩)
          rw [← c1] at hv hv'
          simp only [Op.eqFields, c2, ne_eq, not_false_eq_true, if_true, Sem.run_bind, part_leaf c3 hv, part_leaf c3 hv', Result.andThen_ok, equal_leaf c3 g1 rv rv' d]
          cases a with
          | true => simp only [Bool.not_true, Bool.false_eq_true, if_false, ih]; rw [← he]; rfl
          | false => simp only [Bool.not_false, if_true, Sem.run_pure]; rw [← he]; rfl
        · simp at he

theorem aggBin_sound (hR : Rel X μ F H w (fun _ => False)) (ht : t.kl = []) {row : Row} {op : BinOp} {xt : TypeId} {ox oy : Operand} {xs ys : List AV} {u v : Value} (hrow : RowOK P xt row) (hx : RV X μ H w (.agg xs) u) (hy : RV X μ H w (.agg ys) v)
    (h : (aggBin (some row) op xs ys).run H t K = some r) : ∃ z, ((do eqGuard op xt ox oy u v; Go.binOp op xt u v) : Sem Value).run P w = .ok z w ∧ OP X U fr μ H w K r z w := by
  unfold aggBin at h
  split at h
  · rename_i z1 fs z2 z3 zero e
    injection e with e; subst e
    have hc := hrow.cmp rfl
    simp only at hc
    unfold cmpB at hc
    split at hc
    · rename_i gs hu
      simp only [Bool.and_eq_true, Bool.not_eq_true'] at hc
      obtain ⟨c1, c2, c3⟩ := hc
      have hf : P.fieldsOf xt = gs := by simp [Program.fieldsOf, hu]
      cases hx with
      | agg _ us q1 q2 q3 =>
      cases hy with
      | agg _ vs p1 p2 p3 =>
      cases hq : eqCells zero xs ys with
      | none => simp [hq, ofOpt, HM.bind, HM.run] at h
      | some b =>
        simp only [hq, ofOpt, HM.bind] at h
        have hb := equal_fields (P := P) (X := X) (μ := μ) (H := H) (w := w) 9998 (xs := us) (ys := vs) c1 hq (fun j hj => ⟨us[j]'(by omega), by rw [Nat.zero_add]; exact Array.getElem?_eq_getElem (by omega), q3 j hj (by omega)⟩) (fun j hj => ⟨vs[j]'(by omega), by rw [Nat.zero_add]; exact Array.getElem?_eq_getElem (by omega), p3 j hj (by omega)⟩)
        have he := run_equalIn_struct (P := P) w 9999 xt us vs (by rw [hf]; exact hu) c2
        rw [hf, hb] at he
        have hg := run_eqGuard_agg (P := P) w op xt ox oy us vs c3
        split at h
        · refine ⟨.bool b, ?_, OP.pure hR ht h (.val _) (fun k hk => by simp [qf6] at hk)⟩
          rw [Sem.run_bind, hg, Result.andThen_ok, run_eql_struct, he]; rfl
        · refine ⟨.bool (!b), ?_, OP.pure hR ht h (.val _) (fun k hk => by simp [qf6] at hk)⟩
          rw [Sem.run_bind, hg, Result.andThen_ok, run_neq_struct, he]; rfl
        · simp [HM.run] at h
    · simp at hc
  · simp [HM.run] at h

end
end Go.Proofs.Ythgopooldcheeaa.VH
end

section
namespace Go.Proofs.Ythgopooldcheeaa.VH

section
variable {R : Type} {X : Cx} {U : Nat → Prop} {fr : Nat} {μ : Nat → Option (Nat × Nat)} {F : Nat → Nat → Prop} {H : Heap} {w : World} {K : AV → Heap → Tr → Option R} {r : R} {t : Tr} {P : Program} {E : Env}

theorem fieldR_inv (hE : E.OK P) {ty : TypeId} {f off : Nat} {row : Row} (h : qb9 E ty f = some (off, row)) : ∃ fields fd, P.underlying ty = some (.struct fields) ∧ fields[f]? = some fd ∧ fd.offset = off ∧ RowOK P fd.type row := by
  unfold qb9 at h
  split at h
  · rename_i fs _ _ _ _ hrow
    split at h
    · rename_i o ft hf
      split at h
      · rename_i r' hr'
        injection h with h; injection h with h1 h2; subst h1; subst h2
        obtain ⟨fields, h1, h2⟩ := (hE _ _ hrow).td
        rw [← h2] at hf
        rw [List.getElem?_map] at hf
        cases hfd : fields.toList[f]? with
        | none => simp [hfd] at hf
        | some fd =>
          simp only [hfd, Option.map_some] at hf
          injection hf with hf; injection hf with e1 e2; subst e1; subst e2
          exact ⟨fields, fd, h1, by simpa using hfd, rfl, hE _ _ hr'⟩
      · exact absurd h (by simp)
    · exact absurd h (by simp)
  · exact absurd h (by simp)

theorem fieldAddr_sound (hR : Rel X μ F H w (fun _ => False)) (ht : t.kl = []) (hE : E.OK P) {ty : TypeId} {f off : Nat} {row : Row} (hf : qb9 E ty f = some (off, row)) (hsz : 0 < row.size) {a : AV} {u : Value} (ha : RV X μ H w a u) (hk : ∀ k, k ∈ qf6 a → U k)
    {b : AV} (hb : (∃ k p o, a = .ptr k p o ∧ b = .ptr k p (o + off)) ∨ (∃ tg cs o, a = .rp tg cs o ∧ b = .rp tg cs (o + off)) ∨ (∃ cs, a = .bx cs ∧ b = .bx (cs.drop off) ∧ off < cs.length)) (h : K b H t = some r) : ∃ z, (Instr.fieldAt ty u f).run P w = .ok z w ∧ OP X U fr μ H w K r z w := by
  obtain ⟨fields, fd, h1, h2, h3, h4⟩ := fieldR_inv hE hf
  have conc : ∀ a0 : Addr, (Instr.fieldAt ty (.pointer (some a0)) f).run P w = .ok (.pointer (some (a0.add off))) w := by
    intro a0
    have : ¬ row.size = 0 := by omega
    simp [Instr.fieldAt, underlying, h1, h2, Instr.sureAddr, fieldPlace, sizeOf_run P w h4, this, h3]
  rcases hb with ⟨k, p, o, rfl, rfl⟩ | ⟨tg, cs, o, rfl, rfl⟩ | ⟨cs, rfl, rfl, hlt⟩
  · cases ha with
    | ptr _ _ _ a0 haa =>
      refine ⟨_, conc a0, OP.pure hR ht h (.ptr k p _ _ fun cs b o' ds hkk hq => ?_) (fun k hk' => hk k hk')⟩
      rw [haa cs b o' ds hkk hq, add_spot, Nat.add_assoc]
  · cases ha with
    | rp _ _ _ b o1 arr vs htg hS hb hv hr =>
      refine ⟨_, conc _, OP.pure hR ht h ?_ (fun k hk' => by simp [qf6] at hk')⟩
      rw [add_spot, Nat.add_assoc]
      exact .rp tg cs _ b o1 arr vs htg hS hb hv hr
  · cases ha with
    | bx => simp at hlt
    | box _ b o1 arr vs hne hS hb hv hf hr =>
      refine ⟨_, conc _, OP.pure hR ht h ?_ (fun k hk' => ?_)⟩
      · rw [add_spot]
        refine .box _ b (o1 + off) arr (fun j => vs (off + j)) (by simp; omega) hS hb (fun j hj => ?_) (fun j hj => ?_) fun j hj => ?_
        · rw [Nat.add_assoc]; exact hv _ (by simp at hj; omega)
        · exact hf _ (by simp at hj; omega)
        · rw [List.getElem_drop]; exact hr _ (by simp at hj; omega)
      · simp only [qf6] at hk' hk
        obtain ⟨i, hi, hk'⟩ := keysL_mem hk'
        rw [List.getElem_drop] at hk'
        exact hk k (mem_keysL _ hk')

theorem rv_agg_inv {xs : List AV} {u : Value} (h : RV X μ H w (.agg xs) u) : ∃ vs : Array Value, u = .agg vs ∧ vs.size = xs.length ∧ (∀ i (h : i < vs.size), qc4 vs[i] = true) ∧ ∀ i (h : i < xs.length) (h' : i < vs.size), RV X μ H w xs[i] vs[i] := by
  cases h with
  | agg _ vs hl hf hh => exact ⟨vs, rfl, hl, hf, hh⟩

theorem part_sound (hR : Rel X μ F H w (fun _ => False)) (ht : t.kl = []) {ty : TypeId} {row : Row} (hrow : RowOK P ty row) {xs : List AV} {vs : Array Value} {off : Nat} (hl : vs.size = xs.length) (hf : ∀ i (h : i < vs.size), qc4 vs[i] = true)
    (hx : ∀ i (h : i < xs.length) (h' : i < vs.size), RV X μ H w xs[i] vs[i]) (hk : ∀ k, k ∈ qf5 xs → U k) (h : (qc row xs off).run H t K = some r) : ∃ z, (part ty vs off).run P w = .ok z w ∧ OP X U fr μ H w K r z w := by
  unfold qc at h
  obtain ⟨hz, h⟩ := guardB_run' h
  have hz := of_decide_eq_true hz
  obtain ⟨ys, hys, h⟩ := ofOpt_run h
  obtain ⟨hyl, _⟩ := getR_inv hys
  have hat : ∀ i (hi : i < ys.length), ∃ (h1 : off + i < xs.length), xs[off + i] = ys[i] := fun i hi => getR_at hys hi
  cases hag : row.td.agg with
  | true =>
    rw [hag] at h
    simp only [cond_true] at h
    · have hle : off + row.size ≤ xs.length := by
        obtain ⟨h1, _⟩ := hat (row.size - 1) (by omega)
        omega
      refine ⟨.agg (vs.extract off (off + row.size)), by simp [part, isAgg_run P w hrow.td, hag, sizeOf_run P w hrow], OP.pure hR ht h (.agg _ _ (by simp; omega) (fun i hi => ?_) fun i hi hi' => ?_) (fun k hk' => ?_)⟩
      · simp only [Array.getElem_extract]; exact hf _ _
      · obtain ⟨h1, h2⟩ := hat i hi
        simp only [Array.getElem_extract]
        rw [← h2]
        exact hx _ h1 _
      · obtain ⟨i, hi, hk'⟩ := keysL_mem hk'
        obtain ⟨h1, h2⟩ := hat i hi
        rw [← h2] at hk'
        exact hk k (mem_keysL h1 hk')
  | false =>
    rw [hag] at h
    have h1 := hrow.one hag
    rw [h1] at hyl
    obtain ⟨y, rfl⟩ := List.length_eq_one_iff.mp hyl
    simp only [cond_false] at h
    obtain ⟨h2, h3⟩ := hat 0 (by simp)
    simp only [Nat.add_zero, List.getElem_cons_zero] at h2 h3
    refine ⟨vs[off]'(by omega), ?_, OP.pure hR ht h (by rw [← h3]; exact hx _ h2 _) (fun k hk' => hk k (mem_keysL h2 (by rw [h3]; exact hk')))⟩
    have : vs[off]? = some (vs[off]'(by omega)) := Array.getElem?_eq_getElem _
    simp [part, isAgg_run P w hrow.td, hag, this]

theorem field_sound (hR : Rel X μ F H w (fun _ => False)) (ht : t.kl = []) (hE : E.OK P) {ty : TypeId} {f off : Nat} {row : Row} (hf : qb9 E ty f = some (off, row)) {xs : List AV} {u : Value} (ha : RV X μ H w (.agg xs) u) (hk : ∀ k, k ∈ qf5 xs → U k)
    (h : (qc row xs off).run H t K = some r) : ∃ z, (Instr.field ty u f).run P w = .ok z w ∧ OP X U fr μ H w K r z w := by
  obtain ⟨fields, fd, h1, h2, h3, h4⟩ := fieldR_inv hE hf
  obtain ⟨vs, rfl, hl, hf', hx⟩ := rv_agg_inv ha
  obtain ⟨z, hz, hO⟩ := part_sound (fr := fr) hR ht h4 hl hf' hx hk h
  refine ⟨z, ?_, hO⟩
  simp [Instr.field, underlying, h1, h2, asAgg, h3, hz]

theorem extract_sound (hR : Rel X μ F H w (fun _ => False)) (ht : t.kl = []) {xs : List AV} {u : Value} {i : Nat} {x : AV} (ha : RV X μ H w (.tup xs) u) (hk : ∀ k, k ∈ qf5 xs → U k) (hi : xs[i]? = some x) (h : K x H t = some r) :
    ∃ z, (Instr.extract u i).run P w = .ok z w ∧ OP X U fr μ H w K r z w := by
  cases ha with
  | tup _ vs hl hh =>
    obtain ⟨h1, h2⟩ := List.getElem?_eq_some_iff.mp hi
    have : vs[i]? = some (vs[i]'(by omega)) := Array.getElem?_eq_getElem _
    refine ⟨vs[i]'(by omega), by simp [Instr.extract, this], OP.pure hR ht h (by rw [← h2]; exact hh _ h1 _) (fun k hk' => hk k (mem_keysL h1 (by rw [h2]; exact hk')))⟩

theorem len_sound (hR : Rel X μ F H w (fun _ => False)) (ht : t.kl = []) {ts : Array TypeId} {ty ty' : TypeId} {td : TD} (hts : ts[0]? = some ty) (htd : tdOK P ty td) (htd' : (match td with | .slice _ | .string => True | _ => False)) {x : AV} {u : Value} {n : Nat} (hx : RV X μ H w x u) (hl : lenAV x = some n)
    (htx : (match td with | .string => ∃ s, x = .val (.string s) | _ => ¬ ∃ s, x = .val (.string s))) (h : K (.val (.int .i64 n)) H t = some r) :
    ∃ z, (Builtin.len_ ts ty' #[u]).run P w = .ok z w ∧ OP X U fr μ H w K r z w := by
  refine ⟨.int .i64 n, ?_, OP.pure hR ht h (.val _) (fun k hk => by simp [qf6] at hk)⟩
  cases td <;> simp only at htd' htx
  · obtain ⟨s, rfl⟩ := htx
    cases hx
    simp only [lenAV] at hl
    injection hl with hl; subst hl
    simp [Builtin.len_, hts, underlying, show P.underlying ty = _ from htd, goInt]
  · rename_i e
    have hsl : qb x = some n := by
      unfold lenAV at hl
      unfold qb
      split at hl
      · exact hl
      · rename_i s; exact absurd ⟨s, rfl⟩ htx
      · exact hl
      · exact hl
      · exact absurd hl (by simp)
    obtain ⟨A, c, rfl, _⟩ := slLen_hdr hsl hx
    simp [Builtin.len_, hts, underlying, show P.underlying ty = _ from htd, goInt]

/-- bounds of a cut -/
theorem bound_inv {d : Int} {x : Option AV} {i : Int} (h : qa7 d x = some i) : (x = none ∧ i = d) ∨ ∃ k, x = some (.val (.int k i)) := by
  unfold qa7 at h
  split at h
  · injection h with h; exact .inl ⟨rfl, h.symm⟩
  · injection h with h; subst h; exact .inr ⟨_, rfl⟩
  · exact absurd h (by simp)

theorem sliceBounds_run {b : Bool} {n c : Nat} {lo hi mx : Option AV} {lo' hi' mx' : Option Value} {l h m : Int} (hlo : Option.map (fun x => x) lo = lo) (h1 : qa7 0 lo = some l) (h2 : qa7 n hi = some h) (h3 : qa7 n mx = some m)
    (e1 : (lo = none ∧ lo' = none) ∨ ∃ x v, lo = some x ∧ lo' = some v ∧ RV X μ H w x v) (e2 : (hi = none ∧ hi' = none) ∨ ∃ x v, hi = some x ∧ hi' = some v ∧ RV X μ H w x v) (e3 : (mx = none ∧ mx' = none) ∨ ∃ x v, mx = some x ∧ mx' = some v ∧ RV X μ H w x v)
    (g1 : 0 ≤ l) (g2 : l ≤ h) (g3 : h ≤ m) (g4 : m ≤ n) (hnc : n ≤ c) (hmh : mx ≠ none → hi ≠ none) : (Instr.sliceBounds b n c lo' hi' mx').run P w = .ok (l.toNat, h.toNat, if mx = none then c else m.toNat) w := by
  have val : ∀ {x : AV} {v : Value} {k : IntKind} {i : Int}, x = .val (.int k i) → RV X μ H w x v → v = .int k i := by
    intro x v k i e hv; subst e; cases hv; rfl
  unfold Instr.sliceBounds
  rcases e3 with ⟨rfl, rfl⟩ | ⟨x3, v3, rfl, rfl, r3⟩
  · rcases bound_inv h3 with ⟨_, rfl⟩ | ⟨k, hh⟩
    · rcases e2 with ⟨rfl, rfl⟩ | ⟨x2, v2, rfl, rfl, r2⟩
      · rcases bound_inv h2 with ⟨_, rfl⟩ | ⟨k, hh⟩
        · rcases e1 with ⟨rfl, rfl⟩ | ⟨x1, v1, rfl, rfl, r1⟩
          · rcases bound_inv h1 with ⟨_, rfl⟩ | ⟨k, hh⟩
            · simp
            · simp at hh
          · rcases bound_inv h1 with ⟨hh, _⟩ | ⟨k, hh⟩
            · simp at hh
            · injection hh with hh
              have := val hh r1; subst this
              simp [Instr.sliceBound, asIntOf, g1, g2]
        · simp at hh
      · rcases bound_inv h2 with ⟨hh, _⟩ | ⟨k, hh⟩
        · simp at hh
        · injection hh with hh
          have := val hh r2; subst this
          have hhc : 0 ≤ h ∧ h ≤ (c : Int) := ⟨by omega, by omega⟩
          rcases e1 with ⟨rfl, rfl⟩ | ⟨x1, v1, rfl, rfl, r1⟩
          · rcases bound_inv h1 with ⟨_, rfl⟩ | ⟨k, hh⟩
            · simp [Instr.sliceBound, asIntOf, hhc]
            · simp at hh
          · rcases bound_inv h1 with ⟨hh, _⟩ | ⟨k, hh⟩
            · simp at hh
            · injection hh with hh
              have := val hh r1; subst this
              have hlh : 0 ≤ l ∧ l ≤ (h.toNat : Int) := ⟨g1, by omega⟩
              simp only [Instr.sliceBound, asIntOf, Sem.run_bind, Sem.run_pure, Result.andThen_ok, Sem.run_ite, hhc, if_true, hlh, and_self]
    · simp at hh
  · rcases bound_inv h3 with ⟨hh, _⟩ | ⟨k, hh⟩
    · simp at hh
    · injection hh with hh
      have := val hh r3; subst this
      have hmc : 0 ≤ m ∧ m ≤ (c : Int) := ⟨by omega, by omega⟩
      rcases e2 with ⟨rfl, rfl⟩ | ⟨x2, v2, rfl, rfl, r2⟩
      · exact absurd rfl (hmh (by simp))
      · rcases bound_inv h2 with ⟨hh, _⟩ | ⟨k, hh⟩
        · simp at hh
        · injection hh with hh
          have := val hh r2; subst this
          have hhm : 0 ≤ h ∧ h ≤ (m.toNat : Int) := ⟨by omega, by omega⟩
          rcases e1 with ⟨rfl, rfl⟩ | ⟨x1, v1, rfl, rfl, r1⟩
          · rcases bound_inv h1 with ⟨_, rfl⟩ | ⟨k, hh⟩
            · simp only [Instr.sliceBound, asIntOf, Sem.run_bind, Sem.run_pure, Result.andThen_ok, Sem.run_ite, hmc, if_true, hhm, and_self]
              simp
            · simp at hh
          · rcases bound_inv h1 with ⟨hh, _⟩ | ⟨k, hh⟩
            · simp at hh
            · injection hh with hh
              have := val hh r1; subst this
              have hlh : 0 ≤ l ∧ l ≤ (h.toNat : Int) := ⟨g1, by omega⟩
              simp only [Instr.sliceBound, asIntOf, Sem.run_bind, Sem.run_pure, Result.andThen_ok, Sem.run_ite, hmc, if_true, hhm, and_self, hlh]
              simp

theorem sliceBounds_over {b : Bool} {n c : Nat} {lo hi : Option AV} {lo' hi' : Option Value} {l h : Int} (h1 : qa7 0 lo = some l) (h2 : qa7 n hi = some h) (hhi : hi ≠ none)
    (e1 : (lo = none ∧ lo' = none) ∨ ∃ x v, lo = some x ∧ lo' = some v ∧ RV X μ H w x v) (e2 : (hi = none ∧ hi' = none) ∨ ∃ x v, hi = some x ∧ hi' = some v ∧ RV X μ H w x v)
    (g1 : 0 ≤ l) (g2 : l ≤ h) (hc : h ≤ (c : Int)) : (Instr.sliceBounds b n c lo' hi' none).run P w = .ok (l.toNat, h.toNat, c) w := by
  have val : ∀ {x : AV} {v : Value} {k : IntKind} {i : Int}, x = .val (.int k i) → RV X μ H w x v → v = .int k i := by
    intro x v k i e hv; subst e; cases hv; rfl
  unfold Instr.sliceBounds
  rcases e2 with ⟨rfl, rfl⟩ | ⟨x2, v2, rfl, rfl, r2⟩
  · exact absurd rfl hhi
  · rcases bound_inv h2 with ⟨hh, _⟩ | ⟨k, hh⟩
    · simp at hh
    · injection hh with hh
      have := val hh r2; subst this
      have hhc : 0 ≤ h ∧ h ≤ (c : Int) := ⟨by omega, by omega⟩
      rcases e1 with ⟨rfl, rfl⟩ | ⟨x1, v1, rfl, rfl, r1⟩
      · rcases bound_inv h1 with ⟨_, rfl⟩ | ⟨k, hh⟩
        · simp [Instr.sliceBound, asIntOf, hhc]
        · simp at hh
      · rcases bound_inv h1 with ⟨hh, _⟩ | ⟨k, hh⟩
        · simp at hh
        · injection hh with hh
          have := val hh r1; subst this
          have hlh : 0 ≤ l ∧ l ≤ (h.toNat : Int) := ⟨g1, by omega⟩
          simp only [Instr.sliceBound, asIntOf, Sem.run_bind, Sem.run_pure, Result.andThen_ok, Sem.run_ite, hhc, if_true, hlh, and_self]

end
end Go.Proofs.Ythgopooldcheeaa.VH
end

section
namespace Go.Proofs.Ythgopooldcheeaa.VH

section
variable {R : Type} {X : Cx} {U : Nat → Prop} {fr : Nat} {μ : Nat → Option (Nat × Nat)} {F : Nat → Nat → Prop} {H : Heap} {w : World} {K : AV → Heap → Tr → Option R} {r : R} {t : Tr} {P : Program} {E : Env}

theorem slice_sound (hR : Rel X μ F H w (fun _ => False)) (ht : t.kl = []) {ty e : TypeId} {re : Row} (hty : P.underlying ty = some (.slice e)) (hre : RowOK P e re) {x : AV} {u : Value} (hx : RV X μ H w x u) (hk : ∀ k, k ∈ qf6 x → U k)
    (hz : ∀ tg z n cap cs, x = .sl tg z n cap cs → z = re.size) (hz' : ∀ k p z off n cap, x = .ref k p z off n cap → z = re.size) (hstr : ¬ ∃ s, x = .val (.string s))
    {lo hi mx : Option AV} {lo' hi' mx' : Option Value} (e1 : (lo = none ∧ lo' = none) ∨ ∃ x v, lo = some x ∧ lo' = some v ∧ RV X μ H w x v) (e2 : (hi = none ∧ hi' = none) ∨ ∃ x v, hi = some x ∧ hi' = some v ∧ RV X μ H w x v)
    (e3 : (mx = none ∧ mx' = none) ∨ ∃ x v, mx = some x ∧ mx' = some v ∧ RV X μ H w x v) (hmh : mx ≠ none → hi ≠ none)
    (h : (qa6 x lo hi mx).run H t K = some r) : ∃ z, (Instr.sliceAt ty u lo' hi' mx').run P w = .ok z w ∧ OP X U fr μ H w K r z w := by
  have conc : ∀ (A : Option Addr) (n c : Nat) (l h m : Int), qa7 0 lo = some l → qa7 n hi = some h → qa7 n mx = some m → 0 ≤ l → l ≤ h → h ≤ m → m ≤ n → n ≤ c →
      (Instr.sliceAt ty (.slice A n c) lo' hi' mx').run P w = .ok (.slice (if (if mx = none then c else m.toNat) = l.toNat then A else A.map (·.add (l.toNat * re.size))) (h.toNat - l.toNat) ((if mx = none then c else m.toNat) - l.toNat)) w := by
    intro A n c l h m b1 b2 b3 g1 g2 g3 g4 g5
    have := sliceBounds_run (P := P) (b := true) (c := c) (by simp) b1 b2 b3 e1 e2 e3 g1 g2 g3 g4 g5 hmh
    simp only [Instr.sliceAt, Sem.run_bind, underlying, run_program, Result.andThen_ok, hty, Sem.run_pure, Instr.slice, this, sizeOf_run P w hre]
  unfold qa6 at h
  split at h
  · exact absurd ⟨_, rfl⟩ hstr
  · -- nil
    split at h
    · rename_i l hh m b1 b2 b3
      obtain ⟨hg, h⟩ := guardB_run' h
      simp only [Bool.and_eq_true, decide_eq_true_eq] at hg
      obtain ⟨⟨rfl, rfl⟩, rfl⟩ := hg
      cases hx
      refine ⟨_, conc none 0 0 0 0 0 b1 (by simpa using b2) (by simpa using b3) (by omega) (by omega) (by omega) (by omega) (by omega), ?_⟩
      have e0 : (if mx = none then 0 else 0) = 0 := by split <;> rfl
      simp only [Int.toNat_zero, e0, if_true, Nat.sub_self]
      exact OP.pure hR ht h (.val _) (fun k hk => by simp [qf6] at hk)
    · simp [HM.run] at h
  · rename_i tg z n cap cs
    split at h
    · rename_i l hh m b1 b2 b3
      obtain ⟨hg, h⟩ := guardB_run' h
      simp only [Bool.and_eq_true, decide_eq_true_eq] at hg
      obtain ⟨⟨⟨g1, g2⟩, g3⟩, g4⟩ := hg
      have hzz := hz tg z n cap cs rfl
      cases hx with
      | sl _ _ _ _ _ _ htg hr =>
        have fin : ∀ A c, n ≤ c → (∀ q, cap = some q → c = q) → (∀ (cs' : List AV) cap', (∀ q, cap' = some q → (if mx = none then c else m.toNat) - l.toNat = q) → cs' = (cs.drop (l.toNat * z)).take ((hh - l).toNat * z) →
            RD X.w0 (tagS X tg) (.sl tg z (hh - l).toNat cap' cs') (.slice (if (if mx = none then c else m.toNat) = l.toNat then A else A.map (·.add (l.toNat * re.size))) (hh - l).toNat ((if mx = none then c else m.toNat) - l.toNat))) →
            ∃ v, (Instr.sliceAt ty (.slice A n c) lo' hi' mx').run P w = .ok v w ∧ OP X U fr μ H w K r v w := by
          intro A c hnc hcap hrd
          refine ⟨_, conc A n c l hh m b1 b2 b3 g1 g2 g3 g4 hnc, ?_⟩
          have he : hh.toNat - l.toNat = (hh - l).toNat := by omega
          rw [he]
          refine OP.pure hR ht h (.sl _ _ _ _ _ _ htg (hrd _ _ ?_ rfl)) (fun k hk => by simp [qf6] at hk)
          intro q hq
          cases hmx : mx with
          | none =>
            rw [hmx] at hq
            simp only [if_true]
            cases hcq : cap with
            | none => rw [hcq] at hq; simp at hq
            | some q' => rw [hcq] at hq; simp only [Option.map_some] at hq; injection hq with hq; rw [hcap q' hcq]; omega
          | some a =>
            rw [hmx] at hq
            simp only at hq
            injection hq with hq
            simp only [reduceCtorEq, if_false]
            omega
        cases hr with
        | nil _ _ _ A c hc =>
          refine fin A c (Nat.zero_le _) hc fun cs' cap' hcap' hcs' => ?_
          have h0 : (hh - l).toNat = 0 := by omega
          have : cs' = [] := by rw [hcs', h0]; simp
          subst this
          rw [h0]
          exact .nil _ _ _ _ _ hcap'
        | sl _ _ _ _ _ b o c arr vs h1 h2 h3 h4 h5 h6 h7 =>
          refine fin _ c h3 h4 fun cs' cap' hcap' hcs' => ?_
          have hlen : cs'.length = (hh - l).toNat * z := by
            rw [hcs']
            simp only [List.length_take, List.length_drop, h5]
            have : (hh - l).toNat * z + l.toNat * z ≤ n * z := by rw [← Nat.add_mul]; exact Nat.mul_le_mul_right _ (by omega)
            omega
          by_cases hml : (if mx = none then c else m.toNat) = l.toNat
          · have h0 : (hh - l).toNat = 0 := by
              split at hml <;> omega
            have : cs' = [] := List.eq_nil_of_length_eq_zero (by rw [hlen, h0]; simp)
            subst this
            rw [h0]
            exact .nil _ _ _ _ _ hcap'
          · simp only [hml, if_false, Option.map_some, add_spot]
            rw [← hzz]
            have hle : ∀ j, j < cs'.length → l.toNat * z + j < cs.length := by
              intro j hj
              have : (hh - l).toNat * z + l.toNat * z ≤ n * z := by rw [← Nat.add_mul]; exact Nat.mul_le_mul_right _ (by omega)
              omega
            refine .sl _ _ _ _ _ b (o + l.toNat * z) _ arr (fun j => vs (l.toNat * z + j)) h1 h2 (by split <;> omega) hcap' hlen (fun j hj => ?_) fun j hj => ?_
            · rw [Nat.add_assoc]; exact h6 _ (hle j hj)
            · have := h7 _ (hle j hj)
              have e : cs'[j] = cs[l.toNat * z + j]'(hle j hj) := by simp [hcs']
              rw [e]; exact this
    · simp [HM.run] at h
  · rename_i k p z off n cap
    split at h
    · rename_i l hh m b1 b2 b3
      have hzz := hz' k p z off n cap rfl
      cases hov : hi.isSome && mx.isNone && cap.isNone && decide (0 < z) && decide ((n : Int) < hh) with
      | true =>
        rw [hov] at h
        simp only [cond_true] at h
        obtain ⟨hg, h⟩ := guardB_run' h
        simp only [Bool.and_eq_true, decide_eq_true_eq, Option.isNone_iff_eq_none] at hg hov
        obtain ⟨g1, g2⟩ := hg
        obtain ⟨⟨⟨⟨_, rfl⟩, rfl⟩, hz0⟩, hlt⟩ := hov
        simp only [qb2, HM.bind, HM.run] at h
        cases hkk : H k with
        | none => simp [hkk] at h
        | some cs =>
        simp only [hkk] at h
        cases hs : sub p cs with
        | none => simp [hs, HM.bind, HM.run] at h
        | some ds =>
        simp only [hs, HM.bind] at h
        obtain ⟨hfit, h⟩ := guardB_run' h
        have hfit := of_decide_eq_true hfit
        obtain ⟨res, T, hq, hat, _⟩ := look_at hR hkk hs
        cases hx with
        | ref _ _ _ _ _ _ A c hn hc hA hok =>
        have hc' : z = 0 ∨ hh.toNat ≤ c := by
          rcases Nat.eq_zero_or_pos z with e | hz0
          · exact .inl e
          right
          refine Nat.le_of_mul_le_mul_right (c := z) ?_ hz0
          have := hok cs res ds hkk hq
          cases res with
          | none =>
            have hd : ds = [] := hat
            rw [hd] at hfit
            simp only [List.length_nil] at hfit; omega
          | some bo =>
            obtain ⟨b, o⟩ := bo
            rcases this with ⟨h0, h0'⟩ | ⟨h1, h2, h3⟩
            · have := h0' rfl; omega
            · have := h2 rfl; omega
        rcases hc' with hc0 | hc'
        · exact absurd hc0 (by omega)
        have hrun : (Instr.sliceAt ty (.slice A n c) lo' hi' mx').run P w = .ok (.slice (if c = l.toNat then A else A.map (·.add (l.toNat * re.size))) (hh.toNat - l.toNat) (c - l.toNat)) w := by
          rcases e3 with ⟨_, rfl⟩ | ⟨_, _, e, _⟩
          · have := sliceBounds_over (P := P) (b := true) (c := c) b1 b2 (fun e => by rw [e] at b2; simp only [qa7, Option.some.injEq] at b2; omega) e1 e2 g1 g2 (by omega)
            simp only [Instr.sliceAt, Sem.run_bind, underlying, run_program, Result.andThen_ok, hty, Sem.run_pure, Instr.slice, this, sizeOf_run P w hre]
          · simp at e
        refine ⟨_, hrun, ?_⟩
        have he : hh.toNat - l.toNat = (hh - l).toNat := by omega
        rw [he]
        simp only [HM.run] at h
        refine OP.pure (t := ⟨k :: t.rd, t.wr, t.kl, t.nt⟩) hR ht h (.ref k p z (off + l.toNat * z) (hh - l).toNat none _ _ (by omega) (fun q hq => by cases hq) (fun e => ?_) fun cs' res' ds' hkk' hq' => ?_) (fun k hk' => hk k hk')
        · by_cases hml : c = l.toNat
          · omega
          · simp only [hml, if_false] at e
            have hAn : A = none := by cases A <;> simp at e ⊢
            have := hA hAn
            omega
        · have := hok cs' res' ds' hkk' hq'
          cases res' with
          | none =>
            have hc0 : c = 0 := this
            show c - l.toNat = 0
            omega
          | some bo =>
            obtain ⟨b, o⟩ := bo
            by_cases hml : c = l.toNat
            · left
              refine ⟨by omega, fun _ => ?_⟩
              rcases this with ⟨h0, h0'⟩ | ⟨h1, h2, h3⟩
              · have := h0' rfl; omega
              · have := h2 rfl; rw [hml] at this; exact this
            · rcases this with ⟨h0, h0'⟩ | ⟨h1, h2, h3⟩
              · left
                exact ⟨by omega, fun _ => by have := h0' rfl; omega⟩
              · subst h1
                simp only [hml, if_false, Option.map_some, add_spot]
                right
                have e6 : l.toNat * z ≤ c * z := Nat.mul_le_mul_right _ (by omega)
                refine ⟨by rw [← hzz, Nat.add_assoc], fun _ => ?_, fun arr ha => ?_⟩
                · have := h2 rfl
                  rw [Nat.sub_mul]; omega
                · obtain ⟨this, hum⟩ := h3 arr ha
                  exact ⟨by rw [Nat.sub_mul]; omega, hum⟩
      | false =>
      rw [hov] at h
      simp only [cond_false] at h
      cases hov2 : hi.isSome && mx.isNone && cap.isSome && decide ((n : Int) < hh) with
      | true =>
        rw [hov2] at h
        simp only [cond_true] at h
        obtain ⟨hg, h⟩ := guardB_run' h
        simp only [Bool.and_eq_true, decide_eq_true_eq, Option.isNone_iff_eq_none] at hg hov2
        obtain ⟨⟨g1, g2⟩, g3⟩ := hg
        obtain ⟨⟨⟨_, rfl⟩, hcs⟩, hlt⟩ := hov2
        obtain ⟨q, rfl⟩ := Option.isSome_iff_exists.mp hcs
        simp only [Option.getD_some] at g3
        cases hx with
        | ref _ _ _ _ _ _ A c hn hc hA hok =>
        have hcq := hc q rfl
        subst hcq
        have hrun : (Instr.sliceAt ty (.slice A n c) lo' hi' mx').run P w = .ok (.slice (if c = l.toNat then A else A.map (·.add (l.toNat * re.size))) (hh.toNat - l.toNat) (c - l.toNat)) w := by
          rcases e3 with ⟨_, rfl⟩ | ⟨_, _, e, _⟩
          · have := sliceBounds_over (P := P) (b := true) (c := c) b1 b2 (fun e => by rw [e] at b2; simp only [qa7, Option.some.injEq] at b2; omega) e1 e2 g1 g2 (by omega)
            simp only [Instr.sliceAt, Sem.run_bind, underlying, run_program, Result.andThen_ok, hty, Sem.run_pure, Instr.slice, this, sizeOf_run P w hre]
          · simp at e
        refine ⟨_, hrun, ?_⟩
        have he : hh.toNat - l.toNat = (hh - l).toNat := by omega
        rw [he]
        simp only [HM.run, Option.map_some] at h
        refine OP.pure hR ht h (.ref k p z (off + l.toNat * z) (hh - l).toNat _ _ _ (by omega) (fun q hq => by injection hq) (fun e => ?_) fun cs' res' ds' hkk' hq' => ?_) (fun k hk' => hk k hk')
        · by_cases hml : c = l.toNat
          · omega
          · simp only [hml, if_false] at e
            have hAn : A = none := by cases A <;> simp at e ⊢
            have := hA hAn
            omega
        · have := hok cs' res' ds' hkk' hq'
          cases res' with
          | none =>
            have hc0 : c = 0 := this
            show c - l.toNat = 0
            omega
          | some bo =>
            obtain ⟨b, o⟩ := bo
            by_cases hml : c = l.toNat
            · left
              exact ⟨by omega, fun e => by simp at e⟩
            · rcases this with ⟨h0, h0'⟩ | ⟨h1, h2, h3⟩
              · left
                exact ⟨by omega, fun e => by simp at e⟩
              · subst h1
                simp only [hml, if_false, Option.map_some, add_spot]
                right
                have e6 : l.toNat * z ≤ c * z := Nat.mul_le_mul_right _ (by omega)
                refine ⟨by rw [← hzz, Nat.add_assoc], fun e => by simp at e, fun arr ha => ?_⟩
                obtain ⟨this, hum⟩ := h3 arr ha
                exact ⟨by rw [Nat.sub_mul]; omega, hum⟩
      | false =>
      rw [hov2] at h
      simp only [cond_false] at h
      obtain ⟨hg, h⟩ := guardB_run' h
      simp only [Bool.and_eq_true, decide_eq_true_eq] at hg
      obtain ⟨⟨⟨g1, g2⟩, g3⟩, g4⟩ := hg
      cases hx with
      | ref _ _ _ _ _ _ A c hn hc hA hok =>
        refine ⟨_, conc A n c l hh m b1 b2 b3 g1 g2 g3 g4 hn, ?_⟩
        have he : hh.toNat - l.toNat = (hh - l).toNat := by omega
        rw [he]
        refine OP.pure hR ht h (.ref k p z _ _ _ _ _ (by split <;> omega) ?_ (fun e => ?_) fun cs res ds hkk hq => ?_) (fun k hk' => hk k hk')
        · intro q hq
          cases hmx : mx with
          | none =>
            rw [hmx] at hq
            simp only [if_true]
            cases hcq : cap with
            | none => rw [hcq] at hq; simp at hq
            | some q' => rw [hcq] at hq; simp only [Option.map_some] at hq; injection hq with hq; rw [hc q' hcq]; omega
          | some a =>
            rw [hmx] at hq
            simp only at hq
            injection hq with hq
            simp only [reduceCtorEq, if_false]
            omega
        · by_cases hml : (if mx = none then c else m.toNat) = l.toNat
          · omega
          · simp only [hml, if_false] at e
            have hAn : A = none := by cases A <;> simp at e ⊢
            have := hA hAn
            have hm0 : m.toNat = 0 := by omega
            split <;> omega
        · have := hok cs res ds hkk hq
          cases res with
          | none =>
            have hc0 : c = 0 := this
            have hm0 : m.toNat = 0 := by omega
            show (if mx = none then c else m.toNat) - l.toNat = 0
            split <;> omega
          | some bo =>
            obtain ⟨b, o⟩ := bo
            by_cases hml : (if mx = none then c else m.toNat) = l.toNat
            · left
              refine ⟨by omega, fun hcn => ?_⟩
              cases hmx : mx with
              | some a => rw [hmx] at hcn; simp at hcn
              | none =>
                rw [hmx] at hcn hml
                simp only [Option.map_eq_none_iff] at hcn
                simp only [if_true] at hml
                rcases this with ⟨h0, h0'⟩ | ⟨h1, h2, h3⟩
                · have := h0' hcn; omega
                · have := h2 hcn; rw [hml] at this; exact this
            · rcases this with ⟨h0, h0'⟩ | ⟨h1, h2, h3⟩
              · left
                have hm0 : m.toNat = 0 := by omega
                refine ⟨by split <;> omega, fun hcn => ?_⟩
                cases hmx : mx with
                | some a => rw [hmx] at hcn; simp at hcn
                | none =>
                  rw [hmx] at hcn
                  simp only [Option.map_eq_none_iff] at hcn
                  have := h0' hcn; omega
              · subst h1
                simp only [hml, if_false, Option.map_some, add_spot]
                right
                have e6 : l.toNat * z ≤ c * z := Nat.mul_le_mul_right _ (by omega)
                refine ⟨by rw [← hzz, Nat.add_assoc], fun hcn => ?_, fun arr ha => ?_⟩
                · cases hmx : mx with
                  | some a => rw [hmx] at hcn; simp at hcn
                  | none =>
                    rw [hmx] at hcn
                    simp only [Option.map_eq_none_iff] at hcn
                    have := h2 hcn
                    simp only [if_true]
                    rw [Nat.sub_mul]; omega
                · obtain ⟨this, hum⟩ := h3 arr ha
                  have e7 : ((if mx = none then c else m.toNat) - l.toNat) * z + l.toNat * z ≤ c * z := by
                    rw [← Nat.add_mul]; exact Nat.mul_le_mul_right _ (by split <;> omega)
                  exact ⟨by omega, hum⟩
    · simp [HM.run] at h
  · simp [HM.run] at h

end
end Go.Proofs.Ythgopooldcheeaa.VH
end

section
namespace Go.Proofs.Ythgopooldcheeaa.VH

section
variable {R : Type} {X : Cx} {U : Nat → Prop} {fr : Nat} {μ : Nat → Option (Nat × Nat)} {F : Nat → Nat → Prop} {H : Heap} {w : World} {K : AV → Heap → Tr → Option R} {r : R} {t : Tr} {P : Program} {E : Env}

theorem cells_new {ys : List AV} {arr : Array Value} {e : TypeId} {Ts : Nat → Nat → Prop} (hl : ys.length ≤ arr.size) (hv : ∀ j (h : j < ys.length), OW X w ys[j] (arr[j]'(by omega)) (Ts j)) (hlt : ∀ j, j < ys.length → ∀ x, Ts j x → x < w.heap.size)
    (hd : ∀ i j, i < ys.length → j < ys.length → i ≠ j → ∀ x, Ts i x → ¬ Ts j x) (fz : Nat × Nat) (hfz : ∀ i, i < arr.size → ¬ (fz.1 ≤ i ∧ i < fz.2)) (hlf : ∀ i, ys.length ≤ i → ∀ h : i < arr.size, qc4 arr[i] = true) :
    Cells X (w.alloc (.cells arr e fz)) w.heap.size 0 ys (fun x => x = w.heap.size ∨ ∃ j, j < ys.length ∧ Ts j x) := by
  refine ⟨arr, fun j => if h : j < arr.size then arr[j] else undef, Ts, ⟨e, fz, by show (w.heap.push _)[w.heap.size]? = _; simp, hfz, fun i hi => if hy : i < ys.length then (hv i hy).leaf else hlf i (by omega) hi⟩, .inl rfl, by omega, fun j hj => ?_, fun j hj => ?_, fun j hj x hx => .inr ⟨j, hj, hx⟩, fun j hj hx => ?_, hd⟩
  · simp only [Nat.zero_add]
    rw [dif_pos (by omega)]
    exact Array.getElem?_eq_getElem _
  · show OW X _ _ (if h : j < arr.size then arr[j] else undef) _
    rw [dif_pos (show j < arr.size by omega)]
    exact (hv j hj).agree fun b hb => by
      show (w.heap.push _)[b]? = _
      rw [Array.getElem?_push, if_neg (by have := hlt j hj b hb; omega)]
  · have := hlt j hj _ hx; omega

/-- a new root behind an absorption -/
theorem new_rel {μ0 : Nat → Option (Nat × Nat)} {H0 : Heap} (hX : X.WF) {ys : List AV} {arr : Array Value} {e : TypeId} {Ts : Nat → Nat → Prop} (hR : Rel X μ F H w (fun b => False ∨ ∃ i, i < ys.length ∧ Ts i b)) (hK : ∀ U, Keep U [] μ0 H0 w μ H w) (hf : H fr = none) (hU : ∀ k, U k → k ≠ fr)
    (hl : ys.length ≤ arr.size) (hv : ∀ j (h : j < ys.length), OW X w ys[j] (arr[j]'(by omega)) (Ts j)) (hd : ∀ i j, i < ys.length → j < ys.length → i ≠ j → ∀ x, Ts i x → ¬ Ts j x) (fz : Nat × Nat) (hfz : ∀ i, i < arr.size → ¬ (fz.1 ≤ i ∧ i < fz.2)) (hlf : ∀ i, ys.length ≤ i → ∀ h : i < arr.size, qc4 arr[i] = true) :
    ∃ F', Rel X (updM μ fr (some (w.heap.size, 0))) F' (upd H fr (some ys)) (w.alloc (.cells arr e fz)) (fun _ => False) ∧ Keep U [] μ0 H0 w (updM μ fr (some (w.heap.size, 0))) (upd H fr (some ys)) (w.alloc (.cells arr e fz)) := by
  have hlt : ∀ j, j < ys.length → ∀ x, Ts j x → x < w.heap.size := fun j hj x hx => (hR.gout x (.inr ⟨j, hj, hx⟩)).2
  have hC := cells_new (X := X) (e := e) hl hv hlt hd fz hfz hlf
  obtain ⟨h1, h2⟩ := newroot (w' := w.alloc (.cells arr e fz)) (m := some (w.heap.size, 0)) (T := fun x => x = w.heap.size ∨ ∃ j, j < ys.length ∧ Ts j x) (ys := ys) (G := fun _ => False) (E := fun b => ∃ i, i < ys.length ∧ Ts i b) hX hR hf (Chg.alloc _ _ _) hC (fun x hx => by
    rcases hx with hx | hx
    · right; subst hx; simp
    · exact .inl ⟨hx, fun h => h⟩)
  refine ⟨_, h1, ?_⟩
  have := (hK U).trans (h2 U hU)
  simpa using this

theorem keep_fresh {H' : Heap} (hN : ∀ j, H j = none → H' j = none) {c : Option (List AV)} : ∀ k, H k = none → ¬ (fr ≤ k ∧ k < fr + 8) → upd H' fr c k = none := by
  intro k hk hne
  simp only [upd]
  split
  · omega
  · exact hN k hk

theorem rel_nil {G : Nat → Prop} (h : Rel X μ F H w (fun _ => False)) (e : ∀ b, ¬ G b) : Rel X μ F H w G := by
  have : G = fun _ => False := by funext b; exact propext ⟨fun h => e b h, fun h => h.elim⟩
  rw [this]; exact h

theorem rv_new_ptr {H' : Heap} {w' : World} {b : Nat} : RV X (updM μ fr (some (b, 0))) H' w' (.ptr fr [] 0) (.pointer (some ⟨b, 0, none⟩)) := by
  refine .ptr fr [] 0 _ fun cs b' o ds _ hq => ?_
  obtain ⟨e, _⟩ := hq
  simp only [updM, if_true] at e
  injection e with e; injection e with e1 e2
  subst e1; subst e2; rfl

theorem unm_alloc {w : World} {arr : Array Value} {e : TypeId} : Unm (w.alloc (.cells arr e (0, 0))) w.heap.size := by
  intro a1 e1 f1 hh
  have : (w.alloc (.cells arr e (0, 0))).heap[w.heap.size]? = some (.cells arr e (0, 0)) := by show (w.heap.push _)[w.heap.size]? = _; simp
  rw [this] at hh
  injection hh with hh; injection hh with h1 h2 h3
  subst h3
  simp

theorem rv_new_ref {H' : Heap} {w' : World} {b z n c : Nat} {cap : Option Nat} {cs : List AV} {arr : Array Value} (hH : H' fr = some cs) (hb : RBlk w' b arr) (hn : n ≤ c) (hc : ∀ q, cap = some q → c = q) (hlen : cap = none → cs.length ≤ c * z) (ha : c * z ≤ arr.size) (hu : 2 ≤ z → Unm w' b) :
    RV X (updM μ fr (some (b, 0))) H' w' (.ref fr [] z 0 n cap) (.slice (some ⟨b, 0, none⟩) n c) := by
  refine .ref fr [] z 0 n cap _ c hn hc (fun e => by simp at e) fun cs' res ds hk hq => ?_
  rw [hH] at hk; injection hk with hk; subst hk
  obtain ⟨e, rfl⟩ := hq
  simp only [updM, if_true] at e
  subst e
  refine .inr ⟨rfl, fun h => by have := hlen h; omega, fun arr' h' => ?_⟩
  rw [h'.uniq hb]; exact ⟨by omega, hu⟩

theorem zero_run (P : Program) (w : World) {ty : TypeId} {row : Row} (h : RowOK P ty row) : ∃ z, (zeroValue ty).run P w = .ok z w ∧ z.cells.toList = row.zero := by
  obtain ⟨i, z, h1, h2, h3, h4, h5⟩ := h.info
  exact ⟨z, by simp [zeroValue, typeInfo, h1, h4], h5⟩

theorem alloc_sound (hX : X.WF) (hR : Rel X μ F H w (fun _ => False)) (ht : t.kl = []) {ty : TypeId} {row : Row} (hrow : RowOK P ty row) (hf : H fr = none) (hU : ∀ k, U k → k ≠ fr)
    (h : (HM.put fr (some (row.zero.map .val)) (HM.ret (AV.ptr fr [] 0))).run H t K = some r) : ∃ z w', (Instr.alloc ty true (.tuple #[])).run P w = .ok z w' ∧ OP X U fr μ H w K r z w' := by
  obtain ⟨z, hz, hzl⟩ := zero_run P w hrow
  simp only [HM.run] at h
  have hsz : z.cells.size = row.zero.length := by rw [← hzl]; simp
  obtain ⟨F', h1, h2⟩ := new_rel (e := ty) (arr := z.cells) (Ts := fun _ _ => False) (ys := row.zero.map .val) (U := U) hX (rel_nil hR (by simp)) (fun U => Keep.refl U μ H w) hf hU (by simp [hsz]) (fun j hj => by
      simp only [List.getElem_map]
      have e : row.zero[j]'(by simpa using hj) = z.cells[j]'(by rw [hsz]; simpa using hj) := by simp only [← hzl, Array.getElem_toList]
      rw [← e]
      exact .val _ _ (hrow.zleaf _ (List.getElem_mem _))) (by simp) (0, 0) (by simp) (fun i h1 h2 => by simp only [List.length_map] at h1; omega)
  refine ⟨.pointer (some ⟨w.heap.size, 0, none⟩), w.alloc (.cells z.cells ty), by simp [Instr.alloc, hz, newVar, newRow], .ptr fr [] 0, _, F', _, _, h, h1, by simpa [ht] using h2, rv_new_ptr, ?_, ?_⟩
  · intro k hk; simp [qf6] at hk; right; omega
  · exact keep_fresh fun _ h => h

theorem cells_of_rv {x : AV} {v : Value} (hx : RV X μ H w x v) (hne : (∃ xs, x = .agg xs) ∨ qc4 v = true) : v.cells.size = (cellsOf x).length ∧ ∀ i (h : i < (cellsOf x).length) (h' : i < v.cells.size), RV X μ H w (cellsOf x)[i] v.cells[i] := by
  rcases hne with ⟨xs, rfl⟩ | hl
  · obtain ⟨vs, rfl, h1, h2, h3⟩ := rv_agg_inv hx
    exact ⟨h1, h3⟩
  · have hc : v.cells = #[v] := by cases v <;> first | rfl | exact absurd hl (by simp [qc4])
    have hx' : cellsOf x = [x] := by
      cases x <;> first | rfl | (cases hx; exact absurd hl (by simp [qc4]))
    rw [hc, hx']
    exact ⟨rfl, fun i h h' => by
      have : i = 0 := by simp at h; exact h
      subst this
      exact hx⟩

/-- an absorption of a whole value -/
theorem absorbV_sound {α : Type} {x : AV} {v : Value} {g : List AV → HM α} {K : α → Heap → Tr → Option R} (hR : Rel X μ F H w (fun _ => False)) (hx : RV X μ H w x v) (h : ((qc0 (cellsOf x)).bind g).run H t K = some r) :
    ∃ (ys : List AV) (H' : Heap) (t' : Tr) (F' : Nat → Nat → Prop) (Ts : Nat → Nat → Prop), (g ys).run H' t' K = some r ∧ t'.kl = t.kl ∧ v.cells.size = ys.length ∧ (∀ i (h : i < ys.length) (h' : i < v.cells.size), OW X w ys[i] v.cells[i] (Ts i)) ∧
      (∀ i j, i < ys.length → j < ys.length → i ≠ j → ∀ x, Ts i x → ¬ Ts j x) ∧
      Rel X μ F' H' w (fun b => False ∨ ∃ i, i < ys.length ∧ Ts i b) ∧ (∀ U, Keep U [] μ H w μ H' w) ∧ (∀ j, H j = none → H' j = none) := by
  have hdec : (∃ xs, x = .agg xs) ∨ ∀ xs, x ≠ .agg xs := by
    cases x <;> first | exact .inl ⟨_, rfl⟩ | exact .inr (by simp)
  rcases hdec with hagg | hnag
  · obtain ⟨h1, h2⟩ := cells_of_rv hx (.inl hagg)
    obtain ⟨ys, H', t', F', Ts, a1, a2, a3, a4, a5, a6, a7, a8, a9⟩ := absorbL_sound (vs := fun i => if h : i < v.cells.size then v.cells[i] else undef) hR (fun i hi => by rw [dif_pos (by omega)]; exact h2 i hi _) h
    exact ⟨ys, H', t', F', Ts, a1, a2, by omega, fun i hi hi' => by have := a4 i hi; rwa [dif_pos hi'] at this, a5, a7, a8, a9⟩
  · have hc : cellsOf x = [x] := by
      cases x <;> first | rfl | exact absurd rfl (hnag _)
    rw [hc] at h
    obtain ⟨ys, H', t', F', Ts, a1, a2, a3, a4, a5, a6, a7, a8, a9⟩ := absorbL_sound (vs := fun _ => v) hR (fun i hi => by
      have : i = 0 := by simp at hi; exact hi
      subst this; exact hx) h
    have hl : qc4 v = true := (a4 0 (by simp [a3])).leaf
    have hcv : v.cells = #[v] := by cases v <;> first | rfl | exact absurd hl (by simp [qc4])
    refine ⟨ys, H', t', F', Ts, a1, a2, by rw [hcv, a3]; rfl, fun i hi hi' => ?_, a5, a7, a8, a9⟩
    have := a4 i hi
    have e : v.cells[i] = v := by
      have : i = 0 := by rw [a3] at hi; simpa using hi
      subst this
      simp [hcv]
    rw [e]; exact this

theorem box_sound (hX : X.WF) (hR : Rel X μ F H w (fun _ => False)) (ht : t.kl = []) {ty : TypeId} {row : Row} (hf : H fr = none) (hU : ∀ k, U k → k ≠ fr) {x : AV} {v : Value} (hx : RV X μ H w x v)
    (h : ((qc0 (cellsOf x)).bind fun ys => guardB (decide (ys.length = row.size)) (HM.put fr (some ys) (HM.ret (AV.ptr fr [] 0)))).run H t K = some r) : ∃ z w', (Instr.box ty v).run P w = .ok z w' ∧ OP X U fr μ H w K r z w' := by
  obtain ⟨ys, H', t', F', Ts, h, ht', hl, hO, hd, hR', hK, hN⟩ := absorbV_sound hR hx h
  obtain ⟨_, h⟩ := guardB_run' h
  simp only [HM.run] at h
  obtain ⟨F'', h1, h2⟩ := new_rel (e := ty) (arr := v.cells) (U := U) hX hR' hK (hN fr hf) hU (by omega) (fun j hj => hO j hj (by omega)) hd (0, 0) (by simp) (fun i h1 h2 => by omega)
  refine ⟨.pointer (some ⟨w.heap.size, 0, none⟩), w.alloc (.cells v.cells ty), by simp [Instr.box, newVar, newRow], .ptr fr [] 0, _, F'', _, _, h, h1, by simpa [ht', ht] using h2, rv_new_ptr, ?_, ?_⟩
  · intro k hk; simp [qf6] at hk; right; omega
  · exact keep_fresh hN

end
end Go.Proofs.Ythgopooldcheeaa.VH
end

section
namespace Go.Proofs.Ythgopooldcheeaa.VH

theorem setAt_len : ∀ {ys cs : List AV} {off : Nat}, (setAt cs off ys).length = cs.length
  | [], _, _ => rfl
  | y :: ys, cs, off => by simp [setAt, setAt_len]

theorem setAt_get : ∀ {ys cs : List AV} {off j : Nat}, off + ys.length ≤ cs.length → (setAt cs off ys)[j]? = if off ≤ j ∧ j < off + ys.length then ys[j - off]? else cs[j]?
  | [], cs, off, j, _ => by simp [setAt]; intro h1 h2; omega
  | y :: ys, cs, off, j, h => by
    simp only [setAt]
    rw [setAt_get (by simp at h ⊢; omega)]
    simp only [List.length_cons] at h ⊢
    by_cases h1 : off + 1 ≤ j ∧ j < off + 1 + ys.length
    · rw [if_pos h1, if_pos (by omega)]
      have : j - off = (j - (off + 1)) + 1 := by omega
      rw [this, List.getElem?_cons_succ]
    · rw [if_neg h1]
      by_cases h2 : j = off
      · subst h2
        rw [List.getElem?_set_self (by omega), if_pos (by omega)]
        simp
      · rw [List.getElem?_set_ne (by omega), if_neg (by omega)]

section
variable {R : Type} {X : Cx} {U : Nat → Prop} {fr : Nat} {μ : Nat → Option (Nat × Nat)} {F : Nat → Nat → Prop} {H : Heap} {w : World} {K : AV → Heap → Tr → Option R} {r : R} {t : Tr} {P : Program} {E : Env}

theorem setCell_blk {w : World} {b x : Nat} {arr : Array Value} (h : OBlk w b arr) (v : Value) (hv : qc4 v = true) : OBlk (w.setCell ⟨b, x, none⟩ v) b (arr.setIfInBounds x v) ∧ Chg w (w.setCell ⟨b, x, none⟩ v) (fun y => y = b) := by
  obtain ⟨e, fz, h1, h2⟩ := h
  have hlt : b < w.heap.size := (Array.getElem?_eq_some_iff.mp h1).1
  have hself : (w.setCell ⟨b, x, none⟩ v).heap[b]? = some (.cells (arr.setIfInBounds x v) e fz) := by
    simp [World.setCell, Array.getElem?_modify, h1]
  have hoth : ∀ y, y ≠ b → (w.setCell ⟨b, x, none⟩ v).heap[y]? = w.heap[y]? := by
    intro y hy
    simp only [World.setCell, Array.getElem?_modify]
    rw [if_neg (fun hh => hy hh.symm)]
  refine ⟨⟨e, fz, hself, by simpa using h2.1, fun i hi => ?_⟩, rfl, rfl, rfl, by simp, fun y _ hy => hoth y hy, fun y a hy hr => ?_, fun y hy hu => ?_⟩
  · simp only [Array.size_setIfInBounds] at hi
    rw [Array.getElem_setIfInBounds hi]
    split
    · exact hv
    · exact h2.2 i hi
  by_cases hyb : y = b
  · subst hyb
    obtain ⟨e', fz', hr⟩ := hr
    rw [hself] at hr
    injection hr with hr; injection hr with q1
    exact ⟨arr, ⟨e, fz, h1⟩, by simp [← q1]⟩
  · exact ⟨a, hr.back (hoth y hyb), rfl⟩
  · by_cases hyb : y = b
    · subst hyb
      intro a1 e1 f1 hh
      rw [hself] at hh
      injection hh with hh; injection hh with q1 q2 q3
      subst q1; subst q3
      rw [Array.size_setIfInBounds]; exact hu arr e fz h1
    · exact hu.agree (hoth y hyb)

theorem storeCells_run (P : Program) (b o : Nat) : ∀ (vs : List Value) (i : Nat) (w : World) (arr : Array Value), OBlk w b arr → o + i + vs.length ≤ arr.size → (∀ v ∈ vs, qc4 v = true) →
    ∃ w' arr', (storeCells ⟨b, o, none⟩ vs i).run P w = .ok () w' ∧ Chg w w' (fun x => x = b) ∧ OBlk w' b arr' ∧ arr'.size = arr.size ∧ ∀ j, arr'[j]? = if o + i ≤ j ∧ j < o + i + vs.length then vs[j - (o + i)]? else arr[j]? := by
  intro vs
  induction vs with
  | nil =>
    intro i w arr h _ _
    exact ⟨w, arr, by simp [storeCells], Chg.refl _ _, h, rfl, fun j => by rw [if_neg (by simp)]⟩
  | cons v vs ih =>
    intro i w arr h hl hf
    simp only [List.length_cons] at hl
    have hv : v.oneCell' = true := by have := hf v (by simp); cases v <;> first | rfl | exact absurd this (by simp [qc4])
    have hcell : w.cell? ⟨b, o + i, none⟩ = some (arr[o + i]'(by omega)) := by rw [cell?_of h.rblk]; exact Array.getElem?_eq_getElem _
    have hfz : w.frozen? ⟨b, o + i, none⟩ = false := by
      obtain ⟨e, fz, h1, h2⟩ := h
      have := h2.1 (o + i) (by omega)
      simp only [World.frozen?, h1]
      simp only [Bool.and_eq_false_iff, decide_eq_false_iff_not]
      omega
    obtain ⟨g1, g2⟩ := setCell_blk (x := o + i) h v (hf v (by simp))
    obtain ⟨w', arr', k1, k2, k3, k4, k5⟩ := ih (i + 1) (w.setCell ⟨b, o + i, none⟩ v) _ g1 (by simp; omega) (fun u hu => hf u (List.mem_cons_of_mem _ hu))
    refine ⟨w', arr', ?_, g2.trans k2, k3, by simpa using k4, fun j => ?_⟩
    · simp only [storeCells, Sem.run_bind, add_spot, run_store P w _ v .plain hv, hcell, hfz]
      simpa using k1
    · rw [k5]
      simp only [List.length_cons]
      by_cases h1 : o + (i + 1) ≤ j ∧ j < o + (i + 1) + vs.length
      · rw [if_pos h1, if_pos (by omega)]
        have : j - (o + i) = (j - (o + (i + 1))) + 1 := by omega
        rw [this, List.getElem?_cons_succ]
      · rw [if_neg h1]
        by_cases h2 : j = o + i
        · subst h2
          rw [Array.getElem?_setIfInBounds_self_of_lt (by omega), if_pos (by omega)]
          simp
        · rw [Array.getElem?_setIfInBounds_ne (by omega), if_neg (by omega)]

/-- the cells of a place, some of them written anew -/
theorem cells_put {w w' : World} {b o off : Nat} {ds ys : List AV} {T : Nat → Prop} {Ts : Nat → Nat → Prop} {arr arr' : Array Value} {vs : List Value} (hC : Cells X w b o ds T) (hl : ys.length = vs.length) (hle : off + ys.length ≤ ds.length)
    (ha : OBlk w b arr) (ha' : OBlk w' b arr') (hsz : arr'.size = arr.size) (hg : ∀ j, arr'[j]? = if o + off ≤ j ∧ j < o + off + vs.length then vs[j - (o + off)]? else arr[j]?)
    (hch : Chg w w' (fun x => x = b)) (hO : ∀ i (h : i < ys.length) (h' : i < vs.length), OW X w ys[i] vs[i] (Ts i)) (hd : ∀ i j, i < ys.length → j < ys.length → i ≠ j → ∀ x, Ts i x → ¬ Ts j x)
    (hT : ∀ i, i < ys.length → ∀ x, Ts i x → ¬ T x) (hlt : ∀ i, i < ys.length → ∀ x, Ts i x → x < w.heap.size) (hTlt : ∀ x, T x → x < w.heap.size) :
    Cells X w' b o (setAt ds off ys) (fun x => T x ∨ ∃ i, i < ys.length ∧ Ts i x) := by
  obtain ⟨arr0, us, Us, c1, c2, c3, c4, c5, c6, c7, c8⟩ := hC
  have := c1.rblk.uniq ha.rblk; subst this
  have hin : ∀ j, j < ds.length → (off ≤ j ∧ j < off + ys.length) ∨ ¬ (off ≤ j ∧ j < off + ys.length) := fun _ _ => Classical.em _
  refine ⟨arr', fun j => if off ≤ j ∧ j < off + ys.length then vs.getD (j - off) undef else us j, fun j => if off ≤ j ∧ j < off + ys.length then Ts (j - off) else Us j, ha', .inl c2, by rw [setAt_len, hsz]; exact c3, fun j hj => ?_, fun j hj => ?_, fun j hj x hx => ?_, fun j hj hx => ?_, fun i j hi hj hne x hx hx' => ?_⟩
  · rw [setAt_len] at hj
    rw [hg]
    by_cases h : off ≤ j ∧ j < off + ys.length
    · rw [if_pos (by omega)]
      show _ = some (if off ≤ j ∧ j < off + ys.length then vs.getD (j - off) undef else us j)
      rw [if_pos h]
      have e : o + j - (o + off) = j - off := by omega
      rw [e, List.getD_eq_getElem?_getD, List.getElem?_eq_getElem (by omega)]; rfl
    · rw [if_neg (by omega)]
      show _ = some (if off ≤ j ∧ j < off + ys.length then vs.getD (j - off) undef else us j)
      rw [if_neg h]
      exact c4 j hj
  · rw [setAt_len] at hj
    have hget := setAt_get (cs := ds) (off := off) (j := j) (ys := ys) hle
    by_cases h : off ≤ j ∧ j < off + ys.length
    · rw [if_pos h] at hget
      simp only [h, and_self, if_true]
      have e1 : (setAt ds off ys)[j]'(by rw [setAt_len]; exact hj) = ys[j - off]'(by omega) := by
        have h1 : (setAt ds off ys)[j]? = some ((setAt ds off ys)[j]'(by rw [setAt_len]; exact hj)) := List.getElem?_eq_getElem _
        have h2 : ys[j - off]? = some (ys[j - off]'(by omega)) := List.getElem?_eq_getElem _
        rw [h1, h2] at hget; exact Option.some.inj hget
      have e2 : vs.getD (j - off) undef = vs[j - off]'(by omega) := by
        rw [List.getD_eq_getElem?_getD, List.getElem?_eq_getElem (by omega)]; rfl
      rw [e1, e2]
      exact (hO _ _ _).agree fun x hx => hch.same x (hlt _ (by omega) x hx) fun e => hT (j - off) (by omega) x hx (by rw [e]; exact c2)
    · rw [if_neg h] at hget
      simp only [h, if_false]
      have e1 : (setAt ds off ys)[j]'(by rw [setAt_len]; exact hj) = ds[j] := by
        have h1 : (setAt ds off ys)[j]? = some ((setAt ds off ys)[j]'(by rw [setAt_len]; exact hj)) := List.getElem?_eq_getElem _
        rw [h1, List.getElem?_eq_getElem hj] at hget; exact Option.some.inj hget
      rw [e1]
      exact (c5 j hj).agree fun x hx => hch.same x (hTlt x (c6 j hj x hx)) fun e => c7 j hj (by rw [← e]; exact hx)
  · rw [setAt_len] at hj
    by_cases h : off ≤ j ∧ j < off + ys.length
    · simp only [h, and_self, if_true] at hx
      exact .inr ⟨j - off, by omega, hx⟩
    · simp only [h, if_false] at hx
      exact .inl (c6 j hj x hx)
  · rw [setAt_len] at hj
    by_cases h : off ≤ j ∧ j < off + ys.length
    · simp only [h, and_self, if_true] at hx
      exact hT _ (by omega) b hx c2
    · simp only [h, if_false] at hx
      exact c7 j hj hx
  · rw [setAt_len] at hi hj
    by_cases h : off ≤ i ∧ i < off + ys.length
    · simp only [h, and_self, if_true] at hx
      by_cases h' : off ≤ j ∧ j < off + ys.length
      · simp only [h', and_self, if_true] at hx'
        exact hd _ _ (by omega) (by omega) (by omega) x hx hx'
      · simp only [h', if_false] at hx'
        exact hT _ (by omega) x hx (c6 j hj x hx')
    · simp only [h, if_false] at hx
      by_cases h' : off ≤ j ∧ j < off + ys.length
      · simp only [h', and_self, if_true] at hx'
        exact hT _ (by omega) x hx' (c6 i hi x hx)
      · simp only [h', if_false] at hx'
        exact c8 i j hi hj hne x hx hx'

/-- cells written at a place -/
theorem put_sound {μ0 : Nat → Option (Nat × Nat)} {H0 : Heap} (hX : X.WF) {ys : List AV} {vs : List Value} {Ts : Nat → Nat → Prop} {k : Nat} {p : List Nat} {cs ds : List AV} {off : Nat}
    (hR : Rel X μ F H w (fun b => False ∨ ∃ i, i < ys.length ∧ Ts i b)) (hK : ∀ U, Keep U [] μ0 H0 w μ H w) (hk : H k = some cs) (hs : sub p cs = some ds) (hpos : 0 < ys.length) (hle : off + ys.length ≤ ds.length) (hl : ys.length = vs.length)
    (hO : ∀ i (h : i < ys.length) (h' : i < vs.length), OW X w ys[i] vs[i] (Ts i)) (hd : ∀ i j, i < ys.length → j < ys.length → i ≠ j → ∀ x, Ts i x → ¬ Ts j x) :
    ∃ b o T, LocQ w (μ k) cs p (some (b, o)) ds ∧ Cells X w b o ds T ∧ ∃ w' F', (storeCells ⟨b, o + off, none⟩ vs 0).run P w = .ok () w' ∧
      Rel X μ F' (upd H k (some (modp p (fun xs => setAt xs off ys) cs))) w' (fun _ => False) ∧
      ∀ U, Keep U (bif ys.any qb8 then [k] else []) μ0 H0 w μ (upd H k (some (modp p (fun xs => setAt xs off ys) cs))) w' := by
  have hne : ds ≠ [] := by intro e; rw [e] at hle; simp only [List.length_nil] at hle; omega
  have hGE : ∀ b, (∃ i, i < ys.length ∧ Ts i b) → ¬ (fun _ : Nat => False) b := fun _ _ h => h
  obtain ⟨b, o, T, n1, n2, n3, n4⟩ := node_upd (G := fun _ => False) (E := fun b => ∃ i, i < ys.length ∧ Ts i b) hX hR hGE hk hs hne
  have n2' := n2
  obtain ⟨arr, us, Us, c1, c2, c3, _⟩ := n2'
  have hleaf : ∀ v ∈ vs, qc4 v = true := by
    intro v hv
    obtain ⟨i, hi, rfl⟩ := List.mem_iff_getElem.mp hv
    exact (hO i (hl ▸ hi) hi).leaf
  obtain ⟨w', arr', s1, s2, s3, s4, s5⟩ := storeCells_run P b (o + off) vs 0 w arr c1 (by omega) hleaf
  have hTlt : ∀ x, T x → x < w.heap.size := fun x hx => (hR.out k cs x hk (n3 x hx)).2.1
  have hcells := cells_put (w' := w') (off := off) n2 hl hle c1 s3 s4 (by simpa using s5) s2 hO hd (fun i hi x hx hTx => (hR.out k cs x hk (n3 x hTx)).2.2 (.inr ⟨i, hi, hx⟩)) (fun i hi x hx => (hR.gout x (.inr ⟨i, hi, hx⟩)).2) hTlt
  have hm : modp p (fun xs => setAt xs off ys) cs = modp p (fun _ => setAt ds off ys) cs := modp_congr hs rfl
  obtain ⟨F', r1, r2⟩ := n4 w' (setAt ds off ys) _ (bif ys.any qb8 then [k] else []) (setAt_len) s2 hcells (fun x hx => hx) (by
    cases hany : ys.any qb8 with
    | true => right; simp
    | false =>
      left
      intro i z n cap fs hi
      have hget := setAt_get (cs := ds) (off := off) (j := i) (ys := ys) hle
      rw [hi] at hget
      by_cases h : off ≤ i ∧ i < off + ys.length
      · rw [if_pos h] at hget
        have hmem : AV.sl .own z n cap fs ∈ ys := List.mem_of_getElem? hget.symm
        have := List.any_eq_false.mp hany _ hmem
        simp [qb8] at this
      · rw [if_neg h] at hget
        refine ⟨hget.symm, ?_⟩
        rw [cell?_of s3.rblk, cell?_of c1.rblk, s5, if_neg (by omega)])
  rw [← hm] at r1 r2
  refine ⟨b, o, T, n1, n2, w', F', s1, r1, fun U => ?_⟩
  have := (hK U).trans (r2 U)
  simpa using this

theorem store_sound (hX : X.WF) (hR : Rel X μ F H w (fun _ => False)) (ht : t.kl = []) {ty : TypeId} {row : Row} (hrow : RowOK P ty row) {a x : AV} {ua v : Value} (ha : RV X μ H w a ua) (hx : RV X μ H w x v)
    (h : (qb0 row a x).run H t K = some r) : ∃ w', (Instr.storeAt ty ua v).run P w = .ok () w' ∧ OP X U fr μ H w K r undef w' := by
  unfold qb0 at h
  split at h
  · rename_i k p off
    obtain ⟨ys, H', t', F', Ts, h, ht', hl, hO, hd, hR', hK, hN⟩ := absorbV_sound hR hx h
    obtain ⟨hg, h⟩ := guardB_run' h
    simp only [Bool.and_eq_true, decide_eq_true_eq] at hg
    obtain ⟨hg1, hg2⟩ := hg
    simp only [HM.run] at h
    cases hk : H' k with
    | none => simp [hk] at h
    | some cs =>
    simp only [hk] at h
    cases hs : sub p cs with
    | none => simp [hs, HM.run] at h
    | some ds =>
    simp only [hs] at h
    obtain ⟨hg3, h⟩ := guardB_run' h
    have hg3 := of_decide_eq_true hg3
    simp only [HM.run] at h
    obtain ⟨b, o, T, q1, q2, w', F'', s1, r1, r2⟩ := put_sound (P := P) (off := off) (vs := v.cells.toList) hX hR' hK hk hs (by omega) (by omega) (by simp; omega) (fun i hi hi' => by simpa using hO i hi (by simpa using hi')) hd
    have ha' := ha.keep0 hK
    cases ha' with
    | ptr _ _ _ a0 haa =>
      have := haa cs b o ds hk q1
      subst this
      refine ⟨w', ?_, ?_⟩
      · have hsz : ¬ v.cells.size ≠ row.size := by omega
        simp only [Instr.storeAt, Instr.sureAddr, storeVar, Sem.run_bind, Sem.run_pure, Result.andThen_ok, sizeOf_run P w hrow, hsz, if_false]
        simpa using s1
      · cases hany : ys.any qb8 with
        | true =>
          rw [hany] at h r2
          simp only [cond_true, HM.run] at h r2
          exact ⟨.und, μ, F'', _, _, h, r1, by simpa [ht', ht] using r2 U, .und _, by simp [qf6], keep_fresh' hN hk⟩
        | false =>
          rw [hany] at h r2
          simp only [cond_false, HM.run] at h r2
          exact ⟨.und, μ, F'', _, _, h, r1, by simpa [ht', ht] using r2 U, .und _, by simp [qf6], keep_fresh' hN hk⟩
  · simp [HM.run] at h
where
  keep_fresh' {H H' : Heap} {k : Nat} {cs : List AV} {c : Option (List AV)} {fr : Nat} (hN : ∀ j, H j = none → H' j = none) (hk : H' k = some cs) : ∀ j, H j = none → ¬ (fr ≤ j ∧ j < fr + 8) → upd H' k c j = none := by
    intro j hj _
    simp only [upd]
    split
    · rename_i e; subst e; rw [hN j hj] at hk; exact absurd hk (by simp)
    · exact hN j hj

end
end Go.Proofs.Ythgopooldcheeaa.VH
end

section
namespace Go.Proofs.Ythgopooldcheeaa.VH

theorem renL_eq (ρ : Nat → Nat) : ∀ xs, qf ρ xs = xs.map (qe9 ρ)
  | [] => rfl
  | x :: xs => by simp [qf, renL_eq ρ xs]

theorem RV.ren {X : Cx} {μ μ' : Nat → Option (Nat × Nat)} {H H' : Heap} {w : World} {ρ : Nat → Nat} {x : AV} {v : Value} (h : RV X μ H w x v) : (∀ k, k ∈ qf6 x → H' (ρ k) = H k ∧ μ' (ρ k) = μ k) → RV X μ' H' w (qe9 ρ x) v := by
  induction h with
  | und v => exact fun _ => by simp only [qe9]; exact .und v
  | bx b => exact fun _ => by simp only [qe9, qf]; exact .bx b
  | box cs b o arr vs hne hS hb hv hf hr ih =>
    intro hU
    simp only [qe9, renL_eq]
    refine .box _ b o arr vs (by simpa using hne) hS hb (fun j hj => hv j (by simpa using hj)) (fun j hj => hf j (by simpa using hj)) fun j hj => ?_
    rw [List.getElem_map]
    exact ih j (by simpa using hj) fun k hk => hU k (by simp only [qf6]; exact mem_keysL _ hk)
  | val v => exact fun _ => by simp only [qe9]; exact .val v
  | sl tg z n cap cs v ht h => exact fun _ => by simp only [qe9]; exact .sl tg z n cap cs v ht h
  | ref k p z off n cap A c hn hc hA h =>
    intro hU
    simp only [qe9]
    obtain ⟨e1, e2⟩ := hU k (by simp [qf6])
    exact .ref _ p z off n cap A c hn hc hA fun cs r ds hk hq => h cs r ds (e1 ▸ hk) (e2 ▸ hq)
  | ptr k p off a h =>
    intro hU
    simp only [qe9]
    obtain ⟨e1, e2⟩ := hU k (by simp [qf6])
    exact .ptr _ p off a fun cs b o ds hk hq => h cs b o ds (e1 ▸ hk) (e2 ▸ hq)
  | rp tg cs off b o arr vs ht hS hb hv hr => exact fun _ => by simp only [qe9]; exact .rp tg cs off b o arr vs ht hS hb hv hr
  | agg xs vs hl hf h ih =>
    intro hU
    simp only [qe9, renL_eq]
    refine .agg _ vs (by simpa using hl) hf fun i hi hi' => ?_
    rw [List.getElem_map]
    exact ih i (by simpa using hi) hi' fun k hk => hU k (by simp only [qf6]; exact mem_keysL _ hk)
  | tup xs vs hl h ih =>
    intro hU
    simp only [qe9, renL_eq]
    refine .tup _ vs (by simpa using hl) fun i hi hi' => ?_
    rw [List.getElem_map]
    exact ih i (by simpa using hi) hi' fun k hk => hU k (by simp only [qf6]; exact mem_keysL _ hk)
  | fn f xs vs hl h ih =>
    intro hU
    simp only [qe9, renL_eq]
    refine .fn f _ vs (by simpa using hl) fun i hi hi' => ?_
    rw [List.getElem_map]
    exact ih i (by simpa using hi) hi' fun k hk => hU k (by simp only [qf6]; exact mem_keysL _ hk)

def sel {α : Type} (ids : List Nat) (f : Nat → α) : Nat → α := fun i => f (ids.getD i 0)

theorem hp_map {ids : List Nat} {H : Heap} {i : Nat} : hp (ids.map H) i = (ids[i]?).bind H := by
  simp only [hp, List.getElem?_map]
  cases ids[i]? <;> rfl

theorem hp_sel {ids : List Nat} {H : Heap} {i : Nat} (h : i < ids.length) : hp (ids.map H) i = H (ids.getD i 0) := by
  rw [hp_map, List.getElem?_eq_getElem h, List.getD_eq_getElem?_getD, List.getElem?_eq_getElem h]; rfl

theorem hp_lt {l : List (Option (List AV))} {i : Nat} {cs : List AV} (h : hp l i = some cs) : i < l.length := by
  rcases Nat.lt_or_ge i l.length with h' | h'
  · exact h'
  · simp [hp, List.getElem?_eq_none h'] at h

theorem Rel.ren {X : Cx} {μ : Nat → Option (Nat × Nat)} {F : Nat → Nat → Prop} {H : Heap} {w : World} {G : Nat → Prop} (hR : Rel X μ F H w G) {ids : List Nat} (hn : ids.Nodup) :
    Rel X (sel ids μ) (sel ids F) (hp (ids.map H)) w G := by
  have key : ∀ {i cs}, hp (ids.map H) i = some cs → i < ids.length ∧ H (ids.getD i 0) = some cs := by
    intro i cs h
    have hl : i < ids.length := by simpa using hp_lt h
    exact ⟨hl, (hp_sel hl).symm.trans h⟩
  refine ⟨hR.os, hR.tape, hR.output, hR.size, hR.frame, fun k cs hk => ?_, fun k k' cs cs' hne hk hk' b hb => ?_, fun k cs b hk hb => ?_, hR.gout⟩
  · exact hR.root _ cs (key hk).2
  · obtain ⟨l1, e1⟩ := key hk
    obtain ⟨l2, e2⟩ := key hk'
    refine hR.sep _ _ cs cs' (fun e => hne ?_) e1 e2 b hb
    rw [List.getD_eq_getElem?_getD, List.getD_eq_getElem?_getD, List.getElem?_eq_getElem l1, List.getElem?_eq_getElem l2] at e
    exact (List.getElem_inj (h₀ := l1) (h₁ := l2) hn).mp (by simpa using e)
  · exact hR.out _ cs b (key hk).2 hb

theorem nodup_eraseDups_aux : ∀ (n : Nat) (l : List Nat), l.length ≤ n → l.eraseDups.Nodup
  | 0, l, h => by have : l = [] := List.eq_nil_of_length_eq_zero (by omega); subst this; simp
  | n + 1, [], _ => by simp
  | n + 1, a :: l, h => by
    rw [List.eraseDups_cons, List.nodup_cons]
    refine ⟨fun hm => ?_, nodup_eraseDups_aux n _ (Nat.le_trans (List.length_filter_le _ _) (by simpa using h))⟩
    rw [List.mem_eraseDups, List.mem_filter] at hm
    simp at hm

theorem keep_nodup (L : Nat) (T : List AV) : (keep L T).Nodup := by
  unfold keep
  rw [List.nodup_append]
  refine ⟨List.nodup_range, nodup_eraseDups_aux _ _ (Nat.le_refl _), fun a ha b hb e => ?_⟩
  subst e
  simp only [qf4, List.mem_eraseDups, List.mem_filter, decide_eq_true_eq] at hb
  have := List.mem_range.mp ha
  omega

theorem mem_keep {L : Nat} {T : List AV} {k : Nat} (h : k < L ∨ k ∈ qf5 T) : k ∈ keep L T := by
  simp only [keep, List.mem_append, List.mem_range, qf4, List.mem_eraseDups, List.mem_filter, decide_eq_true_eq]
  by_cases hk : k < L
  · exact .inl hk
  · exact .inr ⟨h.resolve_left hk, by omega⟩

theorem keep_len (L : Nat) (T : List AV) : L ≤ (keep L T).length := by simp [keep]

theorem keep_get {L : Nat} {T : List AV} {k : Nat} (h : k < L) : (keep L T).getD k 0 = k := by
  simp only [keep]
  rw [List.getD_eq_getElem?_getD, List.getElem?_append_left (by simpa using h)]
  simp [h]

theorem idxOf_getD {l : List Nat} {k : Nat} (h : k ∈ l) : l.idxOf k < l.length ∧ l.getD (l.idxOf k) 0 = k := by
  have h1 := List.idxOf_lt_length_iff.mpr h
  exact ⟨h1, by rw [List.getD_eq_getElem?_getD, List.getElem?_eq_getElem h1]; simp⟩

theorem sel_keep {X : Cx} {L : Nat} {T : List AV} {μ : Nat → Option (Nat × Nat)} {H : Heap} {w : World} {x : AV} {v : Value} (h : RV X μ H w x v) (hk : ∀ k, k ∈ qf6 x → k < L ∨ k ∈ qf5 T) :
    RV X (sel (keep L T) μ) (hp ((keep L T).map H)) w (qe9 (fun k => (keep L T).idxOf k) x) v := by
  refine h.ren fun k hk' => ?_
  obtain ⟨h1, h2⟩ := idxOf_getD (mem_keep (hk k hk'))
  exact ⟨by rw [hp_sel h1, h2], by simp only [sel, h2]⟩

theorem keep_keep {L : Nat} {T : List AV} {μ : Nat → Option (Nat × Nat)} {H : Heap} {w : World} : Keep (fun k => k < L) [] μ H w (sel (keep L T) μ) (hp ((keep L T).map H)) w := by
  refine ⟨fun k p cs' r ds hU _ hk hq => ?_, fun _ _ h => h, Nat.le_refl _⟩
  rw [hp_sel (Nat.lt_of_lt_of_le hU (keep_len L T)), keep_get hU] at hk
  simp only [sel, keep_get hU] at hq
  exact ⟨cs', ds, hk, hq, rfl, fun _ _ _ arr' h => ⟨arr', h, rfl⟩⟩

theorem ren_keys {L : Nat} {T : List AV} {x : AV} (hk : ∀ k, k ∈ qf6 x → k < L ∨ k ∈ qf5 T) : ∀ k, k ∈ qf6 (qe9 (fun k => (keep L T).idxOf k) x) → k < (keep L T).length := by
  have gen : ∀ (ρ : Nat → Nat) (n : Nat) (x : AV), (∀ k, k ∈ qf6 x → ρ k < n) → ∀ k, k ∈ qf6 (qe9 ρ x) → k < n := by
    intro ρ n x
    exact AV.rec (motive_1 := fun x => (∀ k, k ∈ qf6 x → ρ k < n) → ∀ k, k ∈ qf6 (qe9 ρ x) → k < n)
      (motive_2 := fun xs => (∀ k, k ∈ qf5 xs → ρ k < n) → ∀ k, k ∈ qf5 (qf ρ xs) → k < n)
      (fun _ k h => by simp [qe9, qf6] at h) (fun _ _ k h => by simp [qe9, qf6] at h) (fun _ _ _ _ _ _ _ k h => by simp [qe9, qf6] at h)
      (fun k0 p z off n' cap hh k h => by simp only [qe9, qf6, List.mem_singleton] at h; subst h; exact hh k0 (by simp [qf6]))
      (fun k0 p off hh k h => by simp only [qe9, qf6, List.mem_singleton] at h; subst h; exact hh k0 (by simp [qf6]))
      (fun _ _ _ _ _ k h => by simp [qe9, qf6] at h)
      (fun xs ih hh k h => by simp only [qe9, qf6] at h; exact ih (fun k hk => hh k (by simpa [qf6] using hk)) k h)
      (fun xs ih hh k h => by simp only [qe9, qf6] at h; exact ih (fun k hk => hh k (by simpa [qf6] using hk)) k h)
      (fun f xs ih hh k h => by simp only [qe9, qf6] at h; exact ih (fun k hk => hh k (by simpa [qf6] using hk)) k h)
      (fun xs ih hh k h => by simp only [qe9, qf6] at h; exact ih (fun k hk => hh k (by simpa [qf6] using hk)) k h)
      (fun _ k h => by simp [qf, qf5] at h)
      (fun x xs h1 h2 hh k h => by
        simp only [qf, qf5, List.mem_append] at h hh
        rcases h with h | h
        · exact h1 (fun k hk => hh k (.inl hk)) k h
        · exact h2 (fun k hk => hh k (.inr hk)) k h) x
  exact gen _ _ x fun k hk' => (idxOf_getD (mem_keep (hk k hk'))).1

end Go.Proofs.Ythgopooldcheeaa.VH
end

section
namespace Go.Proofs.Ythgopooldcheeaa.VH

/- From the evaluator's steps to the program's. -/

def UU (nx : Nat) (D : Nat → Prop) (k : Nat) : Prop := k < nx ∨ ∃ i, D i ∧ nx + 8 * i ≤ k ∧ k < nx + 8 * i + 8

/-- one operation is told rightly -/
def ExecSound (P : Program) (E : Env) (C : Oracle) : Prop :=
  ∀ (R : Type) (X : Cx) (μ : Nat → Option (Nat × Nat)) (F : Nat → Nat → Prop) (H : Heap) (w : World) (U : Nat → Prop) (fr : Nat) (T : Nat → AV) (a : Act) (o : Oper) (K : AV → Heap → Tr → Option R) (r : R)
    (next : Act → World → Prop) (Q : Exit → Act → World → Prop), X.WF → Rel X μ F H w (fun _ => False) → (∀ t, RV X μ H w (T t) (a.tmps.getD t undef)) → (∀ t k, k ∈ qf6 (T t) → U k) →
    (∀ k, U k → ¬ (fr ≤ k ∧ k < fr + 8)) → (∀ k, fr ≤ k ∧ k < fr + 8 → H k = none) → (execOp E C o.op (opnd T) fr).run H {} K = some r →
    (∀ v w', OP X U fr μ H w K r v w' → next (a.put o.dst v) w') → o.wp P a w next Q

structure SR (X : Cx) (μ : Nat → Option (Nat × Nat)) (F : Nat → Nat → Prop) (H : Heap) (w : World) (N nx : Nat) (D : Nat → Prop) (T : Nat → AV) (a : Act) : Prop where
  rel : Rel X μ F H w (fun _ => False)
  slots : ∀ t, RV X μ H w (T t) (a.tmps.getD t undef)
  keys : ∀ t k, k ∈ qf6 (T t) → UU nx D k
  fresh : ∀ k, ¬ UU nx D k → H k = none
  defers : a.defers = []
  size : N ≤ a.tmps.size

theorem put_getD (a : Act) (N : Nat) (hN : N ≤ a.tmps.size) (d : Option Tmp) (hd : ∀ x, d = some x → x < N) (v : Value) (t : Nat) : (a.put d v).tmps.getD t undef = match d with | some d => if t = d then v else a.tmps.getD t undef | none => a.tmps.getD t undef := by
  cases d with
  | none => rfl
  | some d =>
    have := hd d rfl
    simp only [Act.put, Array.getD_eq_getD_getElem?, Array.getElem?_setIfInBounds]
    by_cases h : t = d
    · subst h
      have h2 : t < a.tmps.size := Nat.lt_of_lt_of_le this hN
      simp [h2]
    · rw [if_neg (fun e => h e.symm), if_neg h]

theorem killT_eq (ks : List Nat) (T : Nat → AV) (t : Nat) : killT ks T t = qc2 ks (T t) := by
  cases ks with
  | nil => simp [killT, killAV_nil]
  | cons => rfl

mutual
theorem killAV_keys (ks : List Nat) : ∀ (x : AV) (k : Nat), k ∈ qf6 (qc2 ks x) → k ∈ qf6 x
  | .und, k, h | .val _, k, h | .sl .., k, h | .rp .., k, h => by simpa [qc2] using h
  | .bx xs, k, h => by simp only [qc2, qf6] at h ⊢; exact killL_keys ks xs k h
  | .ref j p z off n cap, k, h => by
    simp only [qc2] at h
    cases hb : (!p.isEmpty && ks.contains j) with
    | true => rw [hb] at h; simp [qf6] at h
    | false => rw [hb] at h; exact h
  | .ptr j p off, k, h => by
    simp only [qc2] at h
    cases hb : (!p.isEmpty && ks.contains j) with
    | true => rw [hb] at h; simp [qf6] at h
    | false => rw [hb] at h; exact h
  | .agg xs, k, h => by simp only [qc2, qf6] at h ⊢; exact killL_keys ks xs k h
  | .tup xs, k, h => by simp only [qc2, qf6] at h ⊢; exact killL_keys ks xs k h
  | .fn f xs, k, h => by simp only [qc2, qf6] at h ⊢; exact killL_keys ks xs k h
theorem killL_keys (ks : List Nat) : ∀ (xs : List AV) (k : Nat), k ∈ qf5 (qc3 ks xs) → k ∈ qf5 xs
  | [], k, h => by simpa [qc3] using h
  | x :: xs, k, h => by
    simp only [qc3, qf5, List.mem_append] at h ⊢
    exact h.imp (killAV_keys ks x k) (killL_keys ks xs k)
end

/-- the state behind an operation -/
theorem SR.put {R : Type} {X : Cx} {μ : Nat → Option (Nat × Nat)} {F : Nat → Nat → Prop} {H : Heap} {w : World} {N nx : Nat} {D : Nat → Prop} {T : Nat → AV} {a : Act} (h : SR X μ F H w N nx D T a) {i : Nat}
    {K : AV → Heap → Tr → Option R} {r : R} {v : Value} {w' : World} {d : Option Tmp} (hd : ∀ x, d = some x → x < N) (ho : OP X (UU nx D) (nx + 8 * i) μ H w K r v w') :
    ∃ (x : AV) (μ' : Nat → Option (Nat × Nat)) (F' : Nat → Nat → Prop) (H' : Heap) (t' : Tr), K x H' t' = some r ∧ Keep (UU nx D) t'.kl μ H w μ' H' w' ∧ SR X μ' F' H' w' N nx (fun j => D j ∨ j = i) (putT (killT t'.kl T) d x) (a.put d v) := by
  obtain ⟨x, μ', F', H', t', hk, hrel, hkeep, hv, hkeys, hfresh⟩ := ho
  have hmono : ∀ k, UU nx D k → UU nx (fun j => D j ∨ j = i) k := fun k hk => hk.imp id fun ⟨j, hj, h⟩ => ⟨j, .inl hj, h⟩
  refine ⟨x, μ', F', H', t', hk, hkeep, hrel, fun t => ?_, fun t k hk => ?_, fun k hk => ?_, ?_, ?_⟩
  · rw [put_getD a N h.size d hd]
    cases d with
    | none => simp only [putT, killT_eq]; exact (h.slots t).keep hkeep (h.keys t)
    | some d =>
      simp only [putT, killT_eq]
      split
      · exact hv
      · exact (h.slots t).keep hkeep (h.keys t)
  · have hx : ∀ k, k ∈ qf6 x → UU nx (fun j => D j ∨ j = i) k := fun k hk => (hkeys k hk).elim (hmono k) fun hh => .inr ⟨i, .inr rfl, hh⟩
    have ht : ∀ t k, k ∈ qf6 (killT t'.kl T t) → UU nx (fun j => D j ∨ j = i) k := fun t k hk => by
      rw [killT_eq] at hk
      exact hmono k (h.keys t k (killAV_keys _ _ _ hk))
    cases d with
    | none => exact ht t k hk
    | some d =>
      simp only [putT] at hk
      split at hk
      · exact hx k hk
      · exact ht t k hk
  · refine hfresh k (h.fresh k fun hh => hk (hmono k hh)) fun hh => hk (.inr ⟨i, .inr rfl, hh⟩)
  · cases d <;> exact h.defers
  · cases d with
    | none => exact h.size
    | some d => simp only [Act.put, Array.size_setIfInBounds]; exact h.size

theorem SR.skip {X : Cx} {μ : Nat → Option (Nat × Nat)} {F : Nat → Nat → Prop} {H : Heap} {w : World} {N nx : Nat} {D : Nat → Prop} {T : Nat → AV} {a : Act} (h : SR X μ F H w N nx D T a) {i : Nat} {d : Option Tmp} (hd : ∀ x, d = some x → x < N) :
    SR X μ F H w N nx (fun j => D j ∨ j = i) (putT T d skipV) (a.put d undef) := by
  have hmono : ∀ k, UU nx D k → UU nx (fun j => D j ∨ j = i) k := fun k hk => hk.imp id fun ⟨j, hj, h⟩ => ⟨j, .inl hj, h⟩
  refine ⟨h.rel, fun t => ?_, fun t k hk => ?_, fun k hk => h.fresh k fun hh => hk (hmono k hh), ?_, ?_⟩
  · rw [put_getD a N h.size d hd]
    cases d with
    | none => exact h.slots t
    | some d =>
      simp only [putT]
      split
      · exact .val _
      · exact h.slots t
  · cases d with
    | none => exact hmono k (h.keys t k hk)
    | some d =>
      simp only [putT] at hk
      split at hk
      · simp [qf6] at hk
      · exact hmono k (h.keys t k hk)
  · cases d <;> exact h.defers
  · cases d with
    | none => exact h.size
    | some d => simp only [Act.put, Array.size_setIfInBounds]; exact h.size

theorem SR.congrD {X : Cx} {μ : Nat → Option (Nat × Nat)} {F : Nat → Nat → Prop} {H : Heap} {w : World} {N nx : Nat} {D D' : Nat → Prop} {T : Nat → AV} {a : Act} (h : SR X μ F H w N nx D T a) (e : ∀ j, D j ↔ D' j) : SR X μ F H w N nx D' T a := by
  have : D = D' := funext fun j => propext (e j)
  subst this; exact h

/-- one operation of a region, wanted or not -/
theorem stepOp_sound {R : Type} {P : Program} {E : Env} {C : Oracle} (hC : ExecSound P E C) {X : Cx} (hX : X.WF) {μ : Nat → Option (Nat × Nat)} {F : Nat → Nat → Prop} {w : World} {N : Nat} {D : Nat → Prop} {S : St} {a : Act}
    (hS : SR X μ F S.H w N S.nx D S.T a) {ops : Array Oper} {i : Nat} {o : Oper} (ho : ops[i]? = some o) (hi : ¬ D i) (hd : ∀ x, o.dst = some x → x < N) {K : St → Tr → Option R} {r : R} (h : stepOp E C ops i o S K = some r)
    {Q : Exit → Act → World → Prop} {next : Act → World → Prop}
    (hK : ∀ S' t' a' w' μ' F', K S' t' = some r → S'.nx = S.nx → SR X μ' F' S'.H w' N S.nx (fun j => D j ∨ j = i) S'.T a' → Keep (UU S.nx D) t'.kl μ S.H w μ' S'.H w' → next a' w') :
    wpOp P ops Q i next a w := by
  have hne : ∀ k, UU S.nx D k → ¬ (S.nx + 8 * i ≤ k ∧ k < S.nx + 8 * i + 8) := by
    rintro k (hk | ⟨j, hj, hk⟩) hh
    · omega
    · by_cases e : j = i
      · subst e; exact hi hj
      · omega
  have run : (execOp E C o.op (opnd S.T) (S.nx + 8 * i)).run S.H {} (fun v H' t => K { S with T := putT (killT t.kl S.T) o.dst v, H := H' } t) = some r → o.wp P a w next Q := fun h =>
    hC R X μ F S.H w (UU S.nx D) (S.nx + 8 * i) S.T a o _ r next Q hX hS.rel hS.slots hS.keys hne (fun k hk => hS.fresh k fun hh => hne k hh hk) h fun v w' hop => by
      obtain ⟨x, μ', F', H', t', h1, h2, h3⟩ := hS.put hd hop
      exact hK _ t' _ _ μ' F' h1 rfl h3 h2
  unfold wpOp
  simp only [ho]
  unfold stepOp at h
  cases hg : o.guard with
  | none =>
    simp only [hg] at h
    have hw : Region.wanted o (yielded ops a.tmps) = true := by simp [Region.wanted, hg]
    rw [if_pos hw]
    exact .inl (run h)
  | some g =>
    obtain ⟨j, want⟩ := g
    simp only [hg] at h
    cases hj : (ops[j]?).bind (·.dst) with
    | none => simp [hj] at h
    | some t =>
      simp only [hj] at h
      cases hT : S.T t with
      | val u =>
        cases u with
        | bool b =>
          simp only [hT] at h
          have hv : a.tmps.getD t undef = .bool b := by
            have := hS.slots t
            rw [hT] at this
            generalize hu : a.tmps.getD t undef = u at this
            cases this; rfl
          have hy : yielded ops a.tmps j = some b := by
            have : a.tmps[t]? = some (.bool b) := by
              rw [Array.getD_eq_getD_getElem?] at hv
              cases hx : a.tmps[t]? with
              | none => rw [hx] at hv; exact absurd hv (by simp [undef])
              | some u => rw [hx] at hv; exact congrArg some hv
            simp [yielded, hj, this]
          cases hb : (b == want) with
          | true =>
            simp only [hb, cond_true] at h
            have : b = want := by simpa using hb
            subst this
            have hw : Region.wanted o (yielded ops a.tmps) = true := by simp [Region.wanted, hg, hy]
            rw [if_pos hw]
            exact .inl (run h)
          | false =>
            simp only [hb, cond_false] at h
            have hw : ¬ Region.wanted o (yielded ops a.tmps) = true := by
              simp only [Region.wanted, hg, hy]
              simpa using hb
            rw [if_neg hw]
            exact hK _ _ _ _ μ F h rfl (hS.skip hd) (Keep.refl _ _ _ _)
        | tuple us =>
          simp only [hT] at h
          have hv : a.tmps.getD t undef = .tuple us := by
            have := hS.slots t
            rw [hT] at this
            generalize hu : a.tmps.getD t undef = u at this
            cases this; rfl
          have hy : yielded ops a.tmps j = none := by
            rw [Array.getD_eq_getD_getElem?] at hv
            cases hx : a.tmps[t]? with
            | none => simp [yielded, hj, hx]
            | some u =>
              rw [hx] at hv
              have : u = .tuple us := hv
              simp [yielded, hj, hx, this]
          have hw : ¬ Region.wanted o (yielded ops a.tmps) = true := by
            simp [Region.wanted, hg, hy]
          rw [if_neg hw]
          exact hK _ _ _ _ μ F h rfl (hS.skip hd) (Keep.refl _ _ _ _)
        | _ => simp [hT] at h
      | _ => simp [hT] at h

/-- the operations of a region, in the order of the text -/
theorem runOps_sound {R : Type} {P : Program} {E : Env} {C : Oracle} (hC : ExecSound P E C) {X : Cx} (hX : X.WF) {N : Nat} {ops : Array Oper} {r : R} {Q : Exit → Act → World → Prop} {K : St → Option R} (hd : ∀ (i : Nat) (o : Oper), ops[i]? = some o → ∀ x, o.dst = some x → x < N) :
    ∀ (os : List Oper) (i : Nat) (S : St) (μ : Nat → Option (Nat × Nat)) (F : Nat → Nat → Prop) (w : World) (a : Act), (∀ j, os[j]? = ops[i + j]?) → SR X μ F S.H w N S.nx (fun j => j < i) S.T a → runOps E C ops i os S K = some r →
      (∀ S' a' w' μ' F' ks, K S' = some r → S'.nx = S.nx → SR X μ' F' S'.H w' N S.nx (fun j => j < i + os.length) S'.T a' → Keep (fun k => k < S.nx) ks μ S.H w μ' S'.H w' → Q .normal a' w') →
      wpOps P ops Q (List.range' i os.length) a w := by
  intro os
  induction os with
  | nil => intro i S μ F w a _ hS h hK; exact hK S a w μ F [] h rfl hS (Keep.refl _ _ _ _)
  | cons o os ih =>
    intro i S μ F w a hos hS h hK
    simp only [runOps] at h
    have ho : ops[i]? = some o := by have := hos 0; simpa using this.symm
    simp only [List.length_cons, List.range'_succ]
    rw [wpOps_cons]
    refine stepOp_sound hC hX hS ho (by omega) (hd i o ho) h fun S' t' a' w' μ' F' hk hnx hS' hkeep => ?_
    refine ih (i + 1) S' μ' F' w' a' (fun j => by have := hos (j + 1); rw [List.getElem?_cons_succ] at this; rw [this]; congr 1; omega) ?_ hk fun S2 a2 w2 μ2 F2 ks hk2 hnx2 hS2 hkeep2 => ?_
    · rw [hnx]; exact hS'.congrD fun j => by omega
    · refine hK S2 a2 w2 μ2 F2 (ks ++ t'.kl) hk2 (hnx2.trans hnx) ?_ ?_
      · rw [← hnx]; exact hS2.congrD fun j => by simp only [List.length_cons]; omega
      · rw [hnx] at hkeep2
        exact (hkeep.mono (fun k hk => .inl hk) fun _ h => h).trans hkeep2

end Go.Proofs.Ythgopooldcheeaa.VH
end

