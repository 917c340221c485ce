/- Part of a proof about the given program: the verified evaluator and what it tells of the functions (VhCore). Conditions: none beyond the hypotheses that each theorem states. -/
import Derived.Calls
namespace Go.Proofs.Ytlmifbpihlcabaa.VH

/- The evaluator: pure values in, pure values out. -/

inductive Tg where
  | fgn | own | snap
  deriving DecidableEq

inductive AV where
  | und
  | val (v : Value)
  | sl (tg : Tg) (z n : Nat) (cap : Option Nat) (cs : List AV)
  | ref (k : Nat) (p : List Nat) (z off n : Nat) (cap : Option Nat)
  | ptr (k : Nat) (p : List Nat) (off : Nat)
  | rp (tg : Tg) (cs : List AV) (off : Nat)
  | agg (xs : List AV)
  | tup (xs : List AV)
  | fn (f : FuncId) (caps : List AV)
  | bx (cs : List AV)
  deriving Inhabited

inductive TD where
  | bool | int (k : IntKind) | string
  | slice (e : TypeId) | struct (fs : List (Nat × TypeId)) | array (n : Nat) (e : TypeId)
  | pointer (e : TypeId) | other
  deriving DecidableEq, Inhabited

structure Row where
  td : TD
  size : Nat
  bytes : Nat
  zero : List Value
  flat : Bool
  deriving Inhabited

def TD.agg : TD → Bool
  | .struct _ | .array .. => true
  | _ => false

abbrev Oracle := FuncId → List AV → List (List AV) → Option (AV × List (Option (List AV)))

structure Env where
  hand : Oracle
  row : TypeId → Option Row
  lend : FuncId → List Bool
  live : FuncId → Nat → List Nat
  body : FuncId → Option (Code × List ResultVar)

abbrev Heap := Nat → Option (List AV)

def upd (H : Heap) (k : Nat) (c : Option (List AV)) : Heap := fun j => if j = k then c else H j

/-- programs on the heap -/
inductive HM (α : Type) where
  | ret (a : α)
  | fail
  | look (k : Nat) (f : List AV → HM α)
  | put (k : Nat) (c : Option (List AV)) (m : HM α)
  | kill (k : Nat) (m : HM α)

namespace HM
def bind {α β : Type} : HM α → (α → HM β) → HM β
  | .ret a, g => g a
  | .fail, _ => .fail
  | .look k f, g => .look k fun cs => (f cs).bind g
  | .put k c m, g => .put k c (m.bind g)
  | .kill k m, g => .kill k (m.bind g)
end HM

/-- what an operation touched: keys read, keys written, keys whose parts are struck from the slots -/
structure Tr where
  rd : List Nat := []
  wr : List Nat := []
  kl : List Nat := []

def HM.run {α R : Type} : HM α → Heap → Tr → (α → Heap → Tr → Option R) → Option R
  | .ret a, H, t, K => K a H t
  | .fail, _, _, _ => none
  | .look k f, H, t, K => match H k with
    | some cs => (f cs).run H { t with rd := k :: t.rd } K
    | none => none
  | .put k c m, H, t, K => m.run (upd H k c) { t with wr := k :: t.wr } K
  | .kill k m, H, t, K => m.run H { t with kl := k :: t.kl } K

def LIM : Nat := 2 ^ 39

def sub : List Nat → List AV → Option (List AV)
  | [], cs => some cs
  | c :: p, cs => match cs[c]? with
    | some (.sl .own _ _ _ ds) => sub p ds
    | _ => none

def modp : List Nat → (List AV → List AV) → List AV → List AV
  | [], f, cs => f cs
  | c :: p, f, cs => match cs[c]? with
    | some (.sl .own z n cap ds) => cs.set c (.sl .own z n cap (modp p f ds))
    | _ => cs

def setAt (cs : List AV) (off : Nat) : List AV → List AV
  | [] => cs
  | x :: xs => setAt (cs.set off x) (off + 1) xs

def look1 (k : Nat) (p : List Nat) : HM (List AV) :=
  .look k fun cs => match sub p cs with
    | some ds => .ret ds
    | none => .fail

/-- what lies at a place, taken out of it -/
def takeOut (k : Nat) (p : List Nat) : HM (List AV) :=
  .look k fun cs => match sub p cs with
    | some ds => match p with
      | [] => .put k none (.ret ds)
      | _ :: _ => .put k (some (modp p.dropLast (fun xs => xs.set (p.getLastD 0) .und) cs)) (.ret ds)
    | none => .fail

def ofOpt {α : Type} : Option α → HM α
  | some a => .ret a
  | none => .fail

def guardB {α : Type} (b : Bool) (m : HM α) : HM α := bif b then m else .fail

def leafV : Value → Bool
  | .agg _ | .tuple _ => false
  | _ => true

/-- a value as a cell of memory: what it leads to moves with it -/
def absorb1 : AV → HM AV
  | .val v => guardB (leafV v) (.ret (.val v))
  | .sl .fgn z n cap cs => .ret (.sl .fgn z n cap cs)
  | .sl .snap z n cap cs => .ret (.sl .snap z n cap cs)
  | .ref k p z off n _ => (takeOut k p).bind fun ds => guardB (decide (off + n * z ≤ ds.length)) (.ret (.sl .own z n none ((ds.drop off).take (n * z))))
  | _ => .fail

def absorbL : List AV → HM (List AV)
  | [] => .ret []
  | x :: xs => (absorb1 x).bind fun y => (absorbL xs).bind fun ys => .ret (y :: ys)

def cellsOf : AV → List AV
  | .agg xs => xs
  | x => [x]

def isOwn : AV → Bool
  | .sl .own .. => true
  | _ => false

def loaded (k : Nat) (p : List Nat) (i : Nat) : AV → AV
  | .sl .own z n cap _ => .ref k (p ++ [i]) z 0 n cap
  | x => x

def borrowed (tg : Tg) : AV → AV
  | .sl _ z n cap cs => .sl tg z n cap cs
  | x => x

def getR (cs : List AV) (off : Nat) : Nat → Option (List AV)
  | 0 => some []
  | n + 1 => match cs[off]? with
    | some x => match getR cs (off + 1) n with
      | some r => some (x :: r)
      | none => none
    | none => none

def loadedL (k : Nat) (p : List Nat) (i : Nat) : List AV → List AV
  | [] => []
  | x :: xs => loaded k p i x :: loadedL k p (i + 1) xs

def nilV : Value := .slice none 0 0

def intBin (op : BinOp) (k : IntKind) (a b : Int) : HM AV :=
  match op with
  | .add => .ret (.val (.int k (k.wrap (a + b))))
  | .sub => .ret (.val (.int k (k.wrap (a - b))))
  | .mul => .ret (.val (.int k (k.wrap (a * b))))
  | .quo => guardB (!decide (b = 0)) (.ret (.val (.int k (k.wrap (a.tdiv b)))))
  | .rem => guardB (!decide (b = 0)) (.ret (.val (.int k (a.tmod b))))
  | .and => .ret (.val (.int k (k.wrap (BitVec.ofInt k.bits a &&& BitVec.ofInt k.bits b).toNat)))
  | .or => .ret (.val (.int k (k.wrap (BitVec.ofInt k.bits a ||| BitVec.ofInt k.bits b).toNat)))
  | .xor => .ret (.val (.int k (k.wrap (BitVec.ofInt k.bits a ^^^ BitVec.ofInt k.bits b).toNat)))
  | .andNot => .ret (.val (.int k (k.wrap (BitVec.ofInt k.bits a &&& ~~~BitVec.ofInt k.bits b).toNat)))
  | .eql => .ret (.val (.bool (a == b)))
  | .neq => .ret (.val (.bool (a != b)))
  | .lss => .ret (.val (.bool (decide (a < b))))
  | .leq => .ret (.val (.bool (decide (a ≤ b))))
  | .gtr => .ret (.val (.bool (decide (a > b))))
  | .geq => .ret (.val (.bool (decide (a ≥ b))))
  | .shl => guardB (decide (0 ≤ b)) (.ret (.val (.int k (k.wrap (a * 2 ^ (min b.toNat k.bits))))))
  | .shr => guardB (decide (0 ≤ b)) (.ret (.val (.int k (a.fdiv (2 ^ (min b.toNat k.bits))))))

def strBin (op : BinOp) (x y : ByteArray) : HM AV :=
  match op with
  | .add => guardB (decide (x.size + y.size ≤ LIM)) (.ret (.val (.string (x ++ y))))
  | .eql => .ret (.val (.bool (x.toList == y.toList)))
  | .neq => .ret (.val (.bool (!(x.toList == y.toList))))
  | .lss => .ret (.val (.bool (Op.bytesLess x.toList y.toList)))
  | .leq => .ret (.val (.bool (Op.bytesLess x.toList y.toList || x.toList == y.toList)))
  | .gtr => .ret (.val (.bool (!(Op.bytesLess x.toList y.toList || x.toList == y.toList))))
  | .geq => .ret (.val (.bool (!(Op.bytesLess x.toList y.toList))))
  | _ => .fail

def lenAV : AV → Option Nat
  | .val (.slice none 0 0) => some 0
  | .val (.string s) => some s.size
  | .sl _ _ n _ _ => some n
  | .ref _ _ _ _ n _ => some n
  | _ => none

def slLen : AV → Option Nat
  | .val (.slice none 0 0) => some 0
  | .sl _ _ n _ _ => some n
  | .ref _ _ _ _ n _ => some n
  | _ => none

def opnd (T : Nat → AV) : Operand → AV
  | .tmp t => T t
  | .const (.agg cs) => bif cs.toList.all leafV then .agg (cs.toList.map .val) else .und
  | .const v => .val v
  | .func f => .fn f []
  | .global _ => .und

def isNil : AV → Bool
  | .val (.slice none 0 0) => true
  | _ => false

def bin (td : Option TD) (op : BinOp) (x y : AV) : HM AV :=
  match x, y with
  | .val (.int k a), .val (.int k' b) => match op with
    | .shl | .shr => intBin op k a b
    | _ => guardB (decide (k = k')) (intBin op k a b)
  | .val (.string a), .val (.string b) => strBin op a b
  | .val (.bool a), .val (.bool b) => match td, op with
    | some .bool, .eql => .ret (.val (.bool (a == b)))
    | some .bool, .neq => .ret (.val (.bool (!(a == b))))
    | _, _ => .fail
  | x, y => match td, slLen x, op with
    | some (.slice _), some n, .eql => guardB (isNil y && (isNil x || decide (0 < n))) (.ret (.val (.bool (isNil x))))
    | some (.slice _), some n, .neq => guardB (isNil y && (isNil x || decide (0 < n))) (.ret (.val (.bool (!isNil x))))
    | _, _, _ => .fail

def idxAddr (x : AV) (z : Nat) (i : Int) : HM AV :=
  match x with
  | .sl tg _ n _ cs => guardB (decide (0 ≤ i) && decide (i < n)) (.ret (.rp tg cs (i.toNat * z)))
  | .ref k p _ off n _ => guardB (decide (0 ≤ i) && decide (i < n)) (.ret (.ptr k p (off + i.toNat * z)))
  | _ => .fail

def arrAddr (x : AV) (len z : Nat) (i : Int) : HM AV :=
  match x with
  | .ptr k p off => guardB (decide (0 ≤ i) && decide (i < len)) (.ret (.ptr k p (off + i.toNat * z)))
  | .rp tg cs off => guardB (decide (0 ≤ i) && decide (i < len)) (.ret (.rp tg cs (off + i.toNat * z)))
  | _ => .fail

def loadHM (r : Row) (a : AV) : HM AV :=
  match a with
  | .ptr k p off => (look1 k p).bind fun ds => (ofOpt (getR ds off r.size)).bind fun xs =>
      bif r.td.agg then .ret (.agg (loadedL k p off xs)) else match loadedL k p off xs with
        | [x] => .ret x
        | _ => .fail
  | .rp tg cs off => (ofOpt (getR cs off r.size)).bind fun xs =>
      bif r.td.agg then .ret (.agg (xs.map (borrowed tg))) else match xs with
        | [x] => .ret (borrowed tg x)
        | _ => .fail
  | _ => .fail

def storeHM (r : Row) (a v : AV) : HM AV :=
  match a with
  | .ptr k p off =>
    (absorbL (cellsOf v)).bind fun ys => guardB (decide (ys.length = r.size) && decide (0 < r.size))
      (.look k fun cs => match sub p cs with
        | some ds => guardB (decide (off + r.size ≤ ds.length))
          (.put k (some (modp p (fun xs => setAt xs off ys) cs)) (bif ys.any isOwn then .kill k (.ret .und) else .ret .und))
        | none => .fail)
  | _ => .fail

def byteOf : AV → Option UInt8
  | .val (.int .u8 n) => some (UInt8.ofNat n.toNat)
  | _ => none

def bytesOf : List AV → Option (List UInt8)
  | [] => some []
  | x :: xs => match byteOf x with
    | some b => match bytesOf xs with
      | some r => some (b :: r)
      | none => none
    | none => none

def u8 (b : UInt8) : AV := .val (.int .u8 b.toNat)

def isSl : AV → Bool
  | .sl .. => true
  | _ => false

def borL (tg : Tg) (cs : List AV) : List AV := bif cs.any isSl then cs.map (borrowed tg) else cs

/-- the cells of a slice that is read; what it leads to stays -/
def cellsIn (x : AV) : HM (List AV) :=
  match x with
  | .val (.slice none 0 0) => .ret []
  | .sl _ z n _ cs => .ret (cs.take (n * z))
  | .ref k p z off n _ => (look1 k p).bind fun ds => .ret ((ds.drop off).take (n * z))
  | _ => .fail

/-- a slice whose elements have so many cells -/
def zOK (z : Nat) : AV → Bool
  | .val (.slice none 0 0) => true
  | .sl _ z' _ _ _ => z' == z
  | .ref _ _ z' _ _ _ => z' == z
  | _ => false

def convHM (row : TypeId → Option Row) (s d : TD) (x : AV) (fr : Nat) : HM AV :=
  match d, x with
  | .int k, .val (.int _ n) => .ret (.val (.int k (k.wrap n)))
  | .string, .val (.string a) => .ret (.val (.string a))
  | .slice e, .val (.string a) => match s, row e with
    | .string, some { td := .int .u8, .. } => .put fr (some (a.data.toList.map u8)) (.ret (.ref fr [] 1 0 a.size none))
    | _, _ => .fail
  | .string, x => match s with
    | .slice e => match row e with
      | some { td := .int .u8, .. } => guardB (zOK 1 x) ((cellsIn x).bind fun cs => guardB (some cs.length == slLen x) ((ofOpt (bytesOf cs)).bind fun bs => .ret (.val (.string ⟨bs.toArray⟩))))
      | _ => .fail
    | _ => .fail
  | _, _ => .fail

def zeros (r : Row) (n : Nat) : List AV := (List.replicate n (r.zero.map AV.val)).flatten

def fillP (place : Nat → Option (Nat × Nat)) (cs : List AV) : List (Nat × List AV) → Option (List AV)
  | [] => some cs
  | (i, v) :: rest => match place i with
    | some (off, size) => if v.length = size ∧ off + size ≤ cs.length then fillP place (setAt cs off v) rest else none
    | none => none

def solid : AV → Bool
  | .und | .tup _ | .bx _ => false
  | .val v => leafV v
  | _ => true

def inOrd : Nat → List Nat → Bool
  | _, [] => true
  | k, i :: r => i == k && inOrd (k + 1) r

def fieldsPlace (E : Env) (fs : List (Nat × TypeId)) (i : Nat) : Option (Nat × Nat) :=
  match fs[i]? with
  | some (off, t) => match E.row t with
    | some r => some (off, r.size)
    | none => none
  | none => none

def dropI (z : Nat) (lo : Int) (cs : List AV) : List AV := cs.drop (lo.toNat * z)

def bound (d : Int) : Option AV → Option Int
  | none => some d
  | some (.val (.int _ i)) => some i
  | _ => none

def sliceHM (x : AV) (lo hi mx : Option AV) : HM AV :=
  match x with
  | .val (.string s) => match bound 0 lo, bound s.size hi, mx with
    | some l, some h, none => guardB (decide (0 ≤ l) && decide (l ≤ h) && decide (h ≤ s.size)) (.ret (.val (.string (s.extract l.toNat h.toNat))))
    | _, _, _ => .fail
  | .val (.slice none 0 0) => match bound 0 lo, bound 0 hi, bound 0 mx with
    | some l, some h, some m => guardB (decide (l = 0) && decide (h = 0) && decide (m = 0)) (.ret (.val nilV))
    | _, _, _ => .fail
  | .sl tg z n cap cs => match bound 0 lo, bound n hi, bound n mx with
    | some l, some h, some m =>
      guardB (decide (0 ≤ l) && decide (l ≤ h) && decide (h ≤ m) && decide (m ≤ n))
        (.ret (.sl tg z (h - l).toNat (match mx with | some _ => some (m - l).toNat | none => cap.map fun c => c - l.toNat) ((cs.drop (l.toNat * z)).take ((h - l).toNat * z))))
    | _, _, _ => .fail
  | .ref k p z off n cap => match bound 0 lo, bound n hi, bound n mx with
    | some l, some h, some m =>
      guardB (decide (0 ≤ l) && decide (l ≤ h) && decide (h ≤ m) && decide (m ≤ n))
        (.ret (.ref k p z (off + l.toNat * z) (h - l).toNat (match mx with | some _ => some (m - l).toNat | none => cap.map fun c => c - l.toNat)))
    | _, _, _ => .fail
  | _ => .fail

/-- what is appended: cells; rows whose elements lead further move -/
def srcCells (r : Row) (x : AV) : HM (Nat × List AV) :=
  match x with
  | .val (.slice none 0 0) => .ret (0, [])
  | .val (.string s) => guardB (decide (r.size = 1)) (.ret (s.size, s.data.toList.map u8))
  | .sl tg z n _ cs => guardB (z == r.size) (.ret (n, borL tg cs))
  | .ref k p z off n _ => (look1 k p).bind fun ds => guardB (z == r.size && decide (off + n * z ≤ ds.length))
      (bif ((ds.drop off).take (n * z)).any isOwn then (takeOut k p).bind fun ds => guardB (decide (off + n * z ≤ ds.length)) (.ret (n, (ds.drop off).take (n * z)))
        else .ret (n, (ds.drop off).take (n * z)))
  | _ => .fail

def appendHM (r : Row) (d : AV) (m : Nat) (new : List AV) (fr : Nat) : HM AV :=
  match d with
  | .val (.slice none 0 0) => guardB (decide (m ≤ LIM)) (.put fr (some new) (.ret (.ref fr [] r.size 0 m none)))
  | .sl tg z n (some q) cs => guardB (z == r.size && decide (q = n) && (decide (n = 0) || decide (0 < m)) && decide (n + m ≤ LIM))
      (.put fr (some (borL tg cs ++ new)) (.ret (.ref fr [] z 0 (n + m) none)))
  | .ref k p z off n cap => (look1 k p).bind fun ds =>
      guardB (z == r.size && decide (n + m ≤ LIM))
        (bif decide (off + n * z = ds.length) then
          (takeOut k p).bind fun ds => guardB (decide (off + n * z = ds.length)) (.put fr (some (ds.drop off ++ new)) (.ret (.ref fr [] z 0 (n + m) none)))
        else .fail)
  | _ => .fail

/- calls -/
structure Pk where
  lent : List Nat := []
  snap : List Nat := []

def Pk.add (k : Nat) (q : Pk) : Pk := bif q.lent.contains k then q else { q with lent := q.lent ++ [k] }

mutual
/-- an argument: what is lent goes by number, all else is read where it lies -/
def pack1 (lend : Bool) (q : Pk) : AV → HM (AV × Pk)
  | .val v => .ret (.val v, q)
  | .und => .ret (.und, q)
  | .sl tg z n cap cs => .ret (.sl (match tg with | .fgn => .fgn | _ => .snap) z n cap cs, q)
  | .rp tg cs off => .ret (.rp (match tg with | .fgn => .fgn | _ => .snap) cs off, q)
  | .ref k p z off n cap => bif lend && p.isEmpty then .ret (.ref ((q.add k).lent.idxOf k) [] z off n cap, q.add k)
    else (look1 k p).bind fun ds => guardB (decide (off + n * z ≤ ds.length)) (.ret (.sl .snap z n none ((ds.drop off).take (n * z)), { q with snap := k :: q.snap }))
  | .ptr k p off => bif lend && p.isEmpty then .ret (.ptr ((q.add k).lent.idxOf k) [] off, q.add k)
    else (look1 k p).bind fun ds => guardB (!ds.isEmpty) (.ret (.rp .snap ds off, { q with snap := k :: q.snap }))
  | .agg xs => (packL lend q xs).bind fun (ys, q) => .ret (.agg ys, q)
  | .fn f caps => (packL lend q caps).bind fun (ys, q) => .ret (.fn f ys, q)
  | .tup _ => .fail
  | .bx _ => .fail
def packL (lend : Bool) (q : Pk) : List AV → HM (List AV × Pk)
  | [] => .ret ([], q)
  | x :: xs => (pack1 lend q x).bind fun (y, q) => (packL lend q xs).bind fun (ys, q) => .ret (y :: ys, q)
end

def packA : List Bool → Pk → List AV → HM (List AV × Pk)
  | _, q, [] => .ret ([], q)
  | b, q, x :: xs => (pack1 (b.headD false) q x).bind fun (y, q) => (packA b.tail q xs).bind fun (ys, q) => .ret (y :: ys, q)

def lentOk : List Nat → List Nat → Bool
  | [], _ => true
  | k :: r, sn => !sn.contains k && !r.contains k && lentOk r sn

def getLent : List Nat → HM (List (List AV))
  | [] => .ret []
  | k :: r => .look k fun ds => (getLent r).bind fun rs => .ret (ds :: rs)

/-- what was lent comes back, and new rows come with it -/
def putBack (fr : Nat) : List Nat → List (Option (List AV)) → HM Unit
  | [], [] => .ret ()
  | [], c :: cs => .put fr c (putBack (fr + 1) [] cs)
  | k :: r, c :: cs => .put k c (bif (c.getD []).any isOwn then .kill k (putBack fr r cs) else putBack fr r cs)
  | _ :: _, [] => .fail

mutual
def renAV (ρ : Nat → Nat) : AV → AV
  | .ref k p z off n cap => .ref (ρ k) p z off n cap
  | .ptr k p off => .ptr (ρ k) p off
  | .agg xs => .agg (renL ρ xs)
  | .tup xs => .tup (renL ρ xs)
  | .fn f xs => .fn f (renL ρ xs)
  | x => x
def renL (ρ : Nat → Nat) : List AV → List AV
  | [] => []
  | x :: xs => renAV ρ x :: renL ρ xs
end

def backK (lent : List Nat) (fr k : Nat) : Nat := match lent[k]? with
  | some j => j
  | none => fr + (k - lent.length)

def callHM (E : Env) (C : Oracle) (f : AV) (args : List AV) (fr : Nat) : HM AV :=
  match f with
  | .fn g caps => (packA (E.lend g) {} (args ++ caps)).bind fun (xs, q) => guardB (lentOk q.lent q.snap)
      ((getLent q.lent).bind fun cts => (ofOpt (C g xs cts)).bind fun (r, cts') =>
        guardB (decide (q.lent.length ≤ cts'.length) && decide (cts'.length ≤ q.lent.length + 8))
          ((putBack fr q.lent cts').bind fun _ => .ret (renAV (backK q.lent fr) r)))
  | _ => .fail

def elTD (E : Env) : TD → Option TD
  | .slice e => (E.row e).map (·.td)
  | _ => none

def builtinHM (E : Env) (b : Builtin) (ts : List TypeId) (xs : List AV) (fr : Nat) : HM AV :=
  match b, ts, xs with
  | .len, t :: _, [x] => match E.row t with
    | some { td := .slice _, .. } => (ofOpt (slLen x)).bind fun n => .ret (.val (.int .i64 n))
    | some { td := .string, .. } => match x with
      | .val (.string s) => .ret (.val (.int .i64 s.size))
      | _ => .fail
    | _ => .fail
  | .cap, t :: _, [x] => match E.row t with
    | some { td := .slice _, .. } => match x with
      | .val (.slice none 0 0) => .ret (.val (.int .i64 0))
      | .sl _ _ _ (some q) _ => .ret (.val (.int .i64 q))
      | .ref _ _ _ _ _ (some q) => .ret (.val (.int .i64 q))
      | _ => .fail
    | _ => .fail
  | .min, _, [.val (.int k a), .val (.int _ b)] => .ret (.val (.int k (if b < a then b else a)))
  | .max, _, [.val (.int k a), .val (.int _ b)] => .ret (.val (.int k (if b > a then b else a)))
  | .append, t :: u :: _, [d, s] => match E.row t with
    | some { td := .slice e, .. } => match E.row e, E.row u with
      | some r, some { td := .int _, .. } => match s with
        | .val (.int _ n) => guardB (decide (0 < r.size) && decide (0 ≤ n) && decide (n ≤ LIM)) (appendHM r d n.toNat (zeros r n.toNat) fr)
        | _ => .fail
      | some r, some { td := .slice _, .. } => guardB (decide (0 < r.size)) ((srcCells r s).bind fun (m, new) => appendHM r d m new fr)
      | some r, some { td := .string, .. } => guardB (decide (0 < r.size)) ((srcCells r s).bind fun (m, new) => appendHM r d m new fr)
      | _, _ => .fail
    | _ => .fail
  | _, _, _ => .fail

def fieldR (E : Env) (t : TypeId) (f : Nat) : Option (Nat × Row) :=
  match E.row t with
  | some { td := .struct fs, .. } => match fs[f]? with
    | some (off, ft) => match E.row ft with
      | some r => some (off, r)
      | none => none
    | none => none
  | _ => none

def partHM (r : Row) (cs : List AV) (off : Nat) : HM AV :=
  guardB (decide (0 < r.size)) ((ofOpt (getR cs off r.size)).bind fun xs => bif r.td.agg then .ret (.agg xs) else match xs with
    | [x] => .ret x
    | _ => .fail)

def execOp (E : Env) (C : Oracle) (o : Op) (ev : Operand → AV) (fr : Nat) : HM AV :=
  match o with
  | .move x | .assign x => .ret (ev x)
  | .pick c a b => match ev c with
    | .val (.bool c) => bif c then .ret (ev a) else .ret (ev b)
    | _ => .fail
  | .binOp op t x y _ => bin ((E.row t).map (·.td)) op (ev x) (ev y)
  | .unOp op _ x => match op, ev x with
    | .not, .val (.bool b) => .ret (.val (.bool (!b)))
    | .neg, .val (.int k n) => intBin .sub k 0 n
    | .xor, .val (.int k n) => intBin .xor k (if k.signed then -1 else k.max) n
    | _, _ => .fail
  | .call { callee := .builtin b, args, argTypes } => builtinHM E b argTypes.toList (args.toList.map ev) fr
  | .call { callee := .value f, args, .. } => callHM E C (ev f) (args.toList.map ev) fr
  | .indexAddr t x i => match E.row t, ev i with
    | some { td := .slice e, .. }, .val (.int _ i) => match E.row e with
      | some r => idxAddr (ev x) r.size i
      | none => .fail
    | some { td := .array n e, .. }, .val (.int _ i) => match E.row e with
      | some r => guardB (decide (1 < n)) (arrAddr (ev x) n r.size i)
      | none => .fail
    | _, _ => .fail
  | .index t x i => match E.row t, ev x, ev i with
    | some { td := .string, .. }, .val (.string s), .val (.int _ i) => guardB (decide (0 ≤ i)) (match s[i.toNat]? with
        | some b => .ret (u8 b)
        | none => .fail)
    | some { td := .array n e, .. }, .agg xs, .val (.int _ i) => match E.row e with
      | some r => guardB (decide (0 ≤ i) && decide (i < n)) (partHM r xs (i.toNat * r.size))
      | none => .fail
    | _, _, _ => .fail
  | .fieldAddr t x f => match fieldR E t f, ev x with
    | some (off, r), .ptr k p o => guardB (decide (0 < r.size)) (.ret (.ptr k p (o + off)))
    | some (off, r), .rp tg cs o => guardB (decide (0 < r.size)) (.ret (.rp tg cs (o + off)))
    | _, _ => .fail
  | .field t x f => match fieldR E t f, ev x with
    | some (off, r), .agg xs => partHM r xs off
    | _, _ => .fail
  | .load t a => match E.row t with
    | some r => loadHM r (ev a)
    | none => .fail
  | .store t a v => match E.row t with
    | some r => storeHM r (ev a) (ev v)
    | none => .fail
  | .convert s d x => match E.row s, E.row d with
    | some rs, some rd => convHM E.row rs.td rd.td (ev x) fr
    | _, _ => .fail
  | .extract x i => match ev x with
    | .tup xs => ofOpt xs[i]?
    | _ => .fail
  | .nilCheck x => match ev x with
    | .ptr k p o => .ret (.ptr k p o)
    | .rp tg cs o => .ret (.rp tg cs o)
    | .fn f caps => .ret (.fn f caps)
    | _ => .fail
  | .alloc t => match E.row t with
    | some r => .put fr (some (r.zero.map .val)) (.ret (.ptr fr [] 0))
    | none => .fail
  | .box t x => match E.row t with
    | some r => (absorbL (cellsOf (ev x))).bind fun ys => guardB (decide (ys.length = r.size)) (.put fr (some ys) (.ret (.ptr fr [] 0)))
    | none => .fail
  | .build t ps => match E.row t with
    | some { td := .struct fs, zero, .. } => guardB ((fs.all fun f => (E.row f.2).isSome) && ps.toList.all (fun p => solid (ev p.2))) ((ofOpt (fillP (fieldsPlace E fs) (zero.map .val) (ps.toList.map fun (i, x) => (i, cellsOf (ev x))))).bind fun cs => .ret (.agg cs))
    | _ => .fail
  | .buildSlice t n ps => match E.row t with
    | some { td := .slice e, .. } => match E.row e with
      | some r => guardB (decide (n * r.size ≤ 16777216) && decide (ps.size ≤ n) && inOrd 0 (ps.toList.map (·.1)) && ps.toList.all (fun p => solid (ev p.2) && decide ((cellsOf (ev p.2)).length = r.size)))
          ((absorbL (ps.toList.flatMap fun p => cellsOf (ev p.2))).bind fun ys => .put fr (some (ys ++ zeros r (n - ps.size))) (.ret (.ref fr [] r.size 0 n (some n))))
      | none => .fail
    | _ => .fail
  | .makeSlice t l c => match E.row t, ev l, ev c with
    | some { td := .slice e, .. }, .val (.int _ n), .val (.int _ m) => match E.row e with
      | some r => guardB (decide (n = m) && decide (0 ≤ n) && decide (n ≤ LIM)) (.put fr (some (zeros r n.toNat)) (.ret (.ref fr [] r.size 0 n.toNat (some n.toNat))))
      | none => .fail
    | _, _, _ => .fail
  | .slice t x lo hi mx => match E.row t with
    | some { td := .slice e, .. } => match E.row e with
      | some r => guardB (zOK r.size (ev x) && (mx.isNone || hi.isSome)) (sliceHM (ev x) (lo.map ev) (hi.map ev) (mx.map ev))
      | none => .fail
    | some { td := .string, .. } => match ev x with
      | .val (.string s) => guardB mx.isNone (sliceHM (.val (.string s)) (lo.map ev) (hi.map ev) none)
      | _ => .fail
    | _ => .fail
  | .makeFunc (.func f) first caps => guardB (first.size == 0) (.ret (.fn f (caps.toList.map ev)))
  | _ => .fail

structure St where
  T : Nat → AV
  H : Heap
  nx : Nat

def putT (T : Nat → AV) (d : Option Tmp) (v : AV) : Nat → AV :=
  match d with
  | some d => fun t => if t = d then v else T t
  | none => T

mutual
def killAV (ks : List Nat) : AV → AV
  | .ref k p z off n cap => bif !p.isEmpty && ks.contains k then .und else .ref k p z off n cap
  | .ptr k p off => bif !p.isEmpty && ks.contains k then .und else .ptr k p off
  | .agg xs => .agg (killL ks xs)
  | .tup xs => .tup (killL ks xs)
  | .fn f xs => .fn f (killL ks xs)
  | x => x
def killL (ks : List Nat) : List AV → List AV
  | [] => []
  | x :: xs => killAV ks x :: killL ks xs
end

def killT (ks : List Nat) (T : Nat → AV) : Nat → AV :=
  match ks with
  | [] => T
  | _ :: _ => fun t => killAV ks (T t)

def stepOp {R : Type} (E : Env) (C : Oracle) (ops : Array Oper) (i : Nat) (o : Oper) (S : St) (K : St → Tr → Option R) : Option R :=
  match o.guard with
  | none => (execOp E C o.op (opnd S.T) (S.nx + 8 * i)).run S.H {} fun v H' t => K { S with T := putT (killT t.kl S.T) o.dst v, H := H' } t
  | some (j, want) => match (ops[j]?).bind (·.dst) with
    | some g => match S.T g with
      | .val (.bool b) => bif b == want then
          (execOp E C o.op (opnd S.T) (S.nx + 8 * i)).run S.H {} fun v H' t => K { S with T := putT (killT t.kl S.T) o.dst v, H := H' } t
        else K { S with T := putT S.T o.dst .und } {}
      | _ => none
    | none => none

def runOps {R : Type} (E : Env) (C : Oracle) (ops : Array Oper) : Nat → List Oper → St → (St → Option R) → Option R
  | _, [], S, K => K S
  | i, o :: os, S, K => stepOp E C ops i o S fun S' _ => runOps E C ops (i + 1) os S' K

def meets (a b : List Nat) : Bool := a.any fun x => b.contains x

def clash (a b : Tr) : Bool := meets a.wr b.wr || meets a.wr b.rd || meets a.rd b.wr || !a.kl.isEmpty || !b.kl.isEmpty

/-- 'i' stands before 'j' in every order -/
def bef (ops : Array Oper) : Nat → Nat → Nat → Bool
  | 0, _, _ => false
  | n + 1, i, j => match ops[j]? with
    | some o => o.after.any fun e => Region.binds .any e && (e.on == i || bef ops n i e.on)
    | none => false

/-- of each two operations that may change places: they touch nothing in common that one writes -/
def apartAll (ord : Nat → Nat → Bool) : List (Nat × Tr) → Bool
  | [] => true
  | (j, t) :: r => r.all (fun (i, s) => !clash s t || ord i j) && apartAll ord r

def runOpsD {R : Type} (E : Env) (C : Oracle) (ops : Array Oper) : Nat → List Oper → List (Nat × Tr) → St → (St → Option R) → Option R
  | _, [], tr, S, K => bif apartAll (bef ops ops.size) tr then K S else none
  | i, o :: os, tr, S, K => stepOp E C ops i o S fun S' t => runOpsD E C ops (i + 1) os ((i, t) :: tr) S' K

inductive Ex where
  | normal | exit (id : Nat) | ret
  deriving DecidableEq

def firstRegion : Code → Nat
  | .region id _ _ => id
  | .seq a _ => firstRegion a
  | .block _ c => firstRegion c
  | .loop c => firstRegion c
  | _ => 0

def tp (l : List (Nat × AV)) : Nat → AV := fun t => match l with
  | [] => .und
  | (a, x) :: r => if t = a then x else tp r t

def hp (l : List (Option (List AV))) : Heap := fun k => (l[k]?).join

/- at a loop's head: the slots that live, and the rows that they lead to, named anew -/
mutual
def keysAV : AV → List Nat
  | .ref k _ _ _ _ _ => [k]
  | .ptr k _ _ => [k]
  | .agg xs => keysL xs
  | .tup xs => keysL xs
  | .fn _ xs => keysL xs
  | _ => []
def keysL : List AV → List Nat
  | [] => []
  | x :: xs => keysAV x ++ keysL xs
end

def liveKeys (L : Nat) (T : List AV) : List Nat := ((keysL T).filter fun k => decide (L ≤ k)).eraseDups

/-- the rows that are kept, in their new order -/
def keep (L : Nat) (T : List AV) : List Nat := List.range L ++ liveKeys L T

def norm (L : Nat) (T : List Nat) (S : St) : St :=
  { T := tp (T.map fun t => (t, renAV (fun k => (keep L (T.map S.T)).idxOf k) (S.T t)))
    H := hp ((keep L (T.map S.T)).map S.H)
    nx := (keep L (T.map S.T)).length }

def LF : Nat := 2 ^ 50

def evLoop {R : Type} (nrm : St → St) (f : St → (Ex → St → Option R) → Option R) : Nat → St → (Ex → St → Option R) → Option R
  | 0, _, _ => none
  | n + 1, S, K => f (nrm S) fun e S1 => match e with
    | .normal => evLoop nrm f n S1 K
    | e => K e S1

def evC {R : Type} (E : Env) (C : Oracle) (L : Nat) (f : FuncId) : Code → St → (Ex → St → Option R) → Option R
  | .skip, S, K => K .normal S
  | .region _ ops false, S, K => runOps E C ops 0 ops.toList S fun S' => K .normal { S' with nx := S'.nx + 8 * ops.size }
  | .region _ ops true, S, K => runOpsD E C ops 0 ops.toList [] S fun S' => K .normal { S' with nx := S'.nx + 8 * ops.size }
  | .seq a b, S, K => evC E C L f a S fun e S1 => match e with
    | .normal => evC E C L f b S1 K
    | e => K e S1
  | .cond c t e, S, K => match opnd S.T c with
    | .val (.bool b) => bif b then evC E C L f t S K else evC E C L f e S K
    | _ => none
  | .block id c, S, K => evC E C L f c S fun e S1 => match e with
    | .exit i => if i = id then K .normal S1 else K (.exit i) S1
    | e => K e S1
  | .loop c, S, K => evLoop (norm L (E.live f (firstRegion c))) (evC E C L f c) LF S K
  | .exit id, S, K => K (.exit id) S
  | .ret, S, K => K .ret S
  | _, _, _ => none

mutual
/-- nothing in it that was only lent to be read -/
def noSnap : AV → Bool
  | .sl .own _ _ _ cs => noSnapL cs
  | .sl .fgn .. => true
  | .sl .snap .. => false
  | .rp .fgn .. => true
  | .rp .. => false
  | .agg xs => noSnapL xs
  | .tup xs => noSnapL xs
  | .fn _ xs => noSnapL xs
  | .bx _ => false
  | _ => true
def noSnapL : List AV → Bool
  | [] => true
  | x :: xs => noSnap x && noSnapL xs
end

def noSnapO : List (Option (List AV)) → Bool
  | [] => true
  | some x :: xs => noSnapL x && noSnapO xs
  | none :: xs => noSnapO xs

def resOf (E : Env) (T : Nat → AV) : List ResultVar → HM (List AV)
  | [] => .ret []
  | .tmp t :: r => (resOf E T r).bind fun xs => .ret (T t :: xs)
  | .cell a t :: r => match E.row t with
    | some row => (loadHM row (T a)).bind fun x => (resOf E T r).bind fun xs => .ret (x :: xs)
    | none => .fail

def resa : List AV → AV
  | [x] => x
  | xs => .tup xs

def finish (E : Env) (L : Nat) (rs : List ResultVar) (S : St) : Option (AV × List (Option (List AV))) :=
  (resOf E S.T rs).run S.H {} fun xs H _ =>
    bif noSnap (resa xs) && noSnapO ((keep L [resa xs]).map H) then some (renAV (fun k => (keep L [resa xs]).idxOf k) (resa xs), (keep L [resa xs]).map H) else none

def evFun (E : Env) : Nat → Oracle
  | 0, _, _, _ => none
  | d + 1, f, args, cts => match E.body f with
    | some (c, rs) => evC E (evFun E d) cts.length f c
        { T := fun t => args.getD t .und, H := hp (cts.map some), nx := cts.length }
        fun e S => match e with
          | .exit _ => none
          | _ => finish E cts.length rs S
    | none => E.hand f args cts

end Go.Proofs.Ytlmifbpihlcabaa.VH
