/-
  A small symbolic executor over the model's code, run by the kernel: values are integers (open terms may stand in them), bools, addresses of
  numbered regions, flat arrays; what it cannot decide it lays down as conditions. It is proved sound against 'Code.wp' and 'Calls'. Conditions: none.
-/
import Derived.WalkKit
import Derived.LoopN
import Derived.StillTail
import Derived.KernelRfl
namespace Go.SX

/-- Where a region lies, and how much room its slices have behind their end. -/
abbrev Asg := Nat → Nat × Nat

/-- A value of one cell. 'ptrS': an address whose place is an open term; 'vw': a slice of memory that was there at the start, only to be read;
  'slU': a slice whose room is not known (but for d cells of it); 'ptrW': the address of an integer that was there at the start. -/
inductive SC where
  | int (k : IntKind) (n : Int)
  | bool (b : Bool)
  | ptr (r off : Nat)
  | ptrS (r off : Nat)
  | sl (r off len cap : Nat)
  | slU (r off len d : Nat)
  | ptrW (a : Option Addr) (k : IntKind) (n : Int)
  | vw (a : Option Addr) (len cap : Nat) (k : IntKind) (f : Nat → Int)
  | str (s : ByteArray)

inductive S1 where
  | sc (c : SC)
  | agg (l : List SC)

inductive SV where
  | one (s : S1)
  | tup (l : List S1)

def SC.den (η : Asg) : SC → Value
  | .int k n => .int k n
  | .bool b => .bool b
  | .ptr r off => .pointer (some ⟨(η r).1, off, none⟩)
  | .ptrS r off => .pointer (some ⟨(η r).1, off, none⟩)
  | .sl r off len cap => .slice (some ⟨(η r).1, off, none⟩) len cap
  | .slU r off len d => .slice (some ⟨(η r).1, off, none⟩) len (len + d + (η r).2)
  | .vw a len cap _ _ => .slice a len cap
  | .ptrW a _ _ => .pointer a
  | .str s => .string s
def S1.den (η : Asg) : S1 → Value
  | .sc c => c.den η
  | .agg l => .agg (l.map (SC.den η)).toArray
def SV.den (η : Asg) : SV → Value
  | .one s => s.den η
  | .tup l => .tuple (l.map (S1.den η)).toArray

/-- The integers that lie there. -/
def BytesAt (w : World) (a : Option Addr) (n : Nat) (k : IntKind) (f : Nat → Int) : Prop :=
  n = 0 ∨ ∃ b off, a = some ⟨b, off, none⟩ ∧ b < w.heap.size ∧ ∀ i, i < n → w.cell? ⟨b, off + i, none⟩ = some (.int k (f i))

/-- The regions it names are of E; what it sees of the start's memory is so. -/
def SC.In (W : World) (E : Nat → Prop) : SC → Prop
  | .ptr r _ | .ptrS r _ | .sl r _ _ _ | .slU r _ _ _ => E r
  | .vw a len _ k f => BytesAt W a len k f
  | .ptrW a k n => BytesAt W a 1 k fun _ => n
  | _ => True
def S1.In (W : World) (E : Nat → Prop) : S1 → Prop
  | .sc c => c.In W E
  | .agg l => ∀ c ∈ l, c.In W E
def SV.In (W : World) (E : Nat → Prop) : SV → Prop
  | .one s => s.In W E
  | .tup l => ∀ s ∈ l, s.In W E

def S1.cells : S1 → List SC
  | .sc c => [c]
  | .agg l => l

/-- The frame: a tree over slot numbers. -/
inductive T where
  | e
  | n (l : T) (v : Option SV) (r : T)
def T.get : T → Nat → Option SV
  | .e, _ => none
  | .n l v r, i => bif i == 0 then v else bif i % 2 == 1 then l.get (i / 2) else r.get (i / 2 - 1)
def T.set : Nat → T → Nat → Option SV → T
  | 0, t, _, _ => t
  | f + 1, .e, i, x => bif i == 0 then .n .e x .e else bif i % 2 == 1 then .n (T.set f .e (i / 2) x) none .e else .n .e none (T.set f .e (i / 2 - 1) x)
  | f + 1, .n l v r, i, x => bif i == 0 then .n l x r else bif i % 2 == 1 then .n (T.set f l (i / 2) x) v r else .n l v (T.set f r (i / 2 - 1) x)

/-- What is known of a region: all its cells, or its first n cells, integers; or nothing any more. -/
inductive Body where
  | cells (l : List SC)
  | own (k : IntKind) (n : Nat) (f : Nat → Int)
  | gone
def Body.live : Body → Bool
  | .gone => false
  | _ => true

structure Reg where
  body : Body
  elem : TypeId

def Reg.In (W : World) (E : Nat → Prop) (R : Reg) : Prop :=
  match R.body with
  | .cells l => ∀ c ∈ l, c.In W E
  | _ => True

structure St where
  fid : Nat
  n : Nat
  fr : T
  regs : List Reg
  conds : List Prop

structure TI where
  desc : TypeDesc
  size : Nat
  bytes : Nat
  zero : Option (List SC)

inductive ORes where
  | val (v : SV) (ps : List Prop)
  | own (R : Reg) (len : Nat) (cap : Option Nat) (ps : List Prop)

inductive Ex where
  | normal
  | exit (id : Nat)
  | ret

def Ex.ex : Ex → Exit
  | .normal => .normal
  | .exit id => .exit id
  | .ret => .ret

def Ex.leaves : Ex → Prop
  | .normal => False
  | _ => True

/-- A loop told: the slots that stay, the state at each round's start, the number of rounds, how it is left. -/
structure SLoop where
  slots : List Nat
  at_ : Nat → St
  n : Nat
  ex : Ex
  out : St

abbrev Orc := List SV → (Nat → Option Reg) → Option ORes

/-- An answer. -/
inductive Ans where
  | b (v : Bool)
  | i (n : Int)

structure Ctx where
  /-- What is known of types. -/
  ty : Nat → Option TI
  /-- Types whose values are compared part by part with no guard. -/
  eqg : Nat → Bool
  /-- Functions taken by their contract. -/
  orc : Nat → Option Orc
  /-- At a loop (function, first region in it): the slots that stay. -/
  keep : Nat → Nat → Option (List Nat)
  /-- How an open test is answered, an open number told (function, slot that it is written to): the answer is a condition. -/
  hint : Nat → Nat → Option Ans
  /-- Loops told (function, first region in it). -/
  sloop : Nat → Nat → Option SLoop
  /-- What it is that code leads from one state to another. -/
  sem : Nat → Code → St → Ex → St → Prop
  /-- Where an index or a bound is an open term (function, slot written). -/
  sym : Nat → Nat → Bool

inductive Eff where
  | val (v : SV)
  | newp (R : Reg)
  | news (R : Reg) (len : Nat)
  | newu (R : Reg) (len : Nat)
  | app (r : Nat) (R : Reg) (len : Nat)
  | upd (r : Nat) (R : Reg) (v : SV)

def aggD : TypeDesc → Bool
  | .struct _ | .array _ _ => true
  | _ => false

def opv (fr : T) : Operand → Option SV
  | .tmp t => fr.get t
  | .const (.int k n) => some (.one (.sc (.int k n)))
  | .const (.bool b) => some (.one (.sc (.bool b)))
  | .const (.string s) => some (.one (.sc (.str s)))
  | .const (.slice none 0 0) => some (.one (.sc (.vw none 0 0 .u8 fun _ => 0)))
  | _ => none

def natOf : Int → Option Nat
  | .ofNat n => some n
  | .negSucc _ => none

def mkInt (k : IntKind) (n : Int) : SV := .one (.sc (.int k n))
def mkBool (b : Bool) : SV := .one (.sc (.bool b))

def evBin (op : BinOp) (k : IntKind) (a : Int) (k' : IntKind) (b : Int) : Option SV :=
  match op with
  | .add => bif k == k' then some (mkInt k (k.wrap (a + b))) else none
  | .sub => bif k == k' then some (mkInt k (k.wrap (a - b))) else none
  | .mul => bif k == k' then some (mkInt k (k.wrap (a * b))) else none
  | .quo => bif k == k' && !(b == 0) then some (mkInt k (k.wrap (a.tdiv b))) else none
  | .rem => bif k == k' && !(b == 0) then some (mkInt k (a.tmod b)) else none
  | .and => bif k == k' then some (mkInt k (bits .and k a b)) else none
  | .or => bif k == k' then some (mkInt k (bits .or k a b)) else none
  | .xor => bif k == k' then some (mkInt k (bits .xor k a b)) else none
  | .andNot => bif k == k' then some (mkInt k (bits .andNot k a b)) else none
  | .shl => match b with
    | .ofNat n => some (mkInt k (k.wrap (a * (2 ^ (min n k.bits) : Nat))))
    | .negSucc _ => none
  | .shr => match b with
    | .ofNat n => some (mkInt k (a / (2 ^ (min n k.bits) : Nat)))
    | .negSucc _ => none
  | .eql => bif k == k' then some (mkBool (a == b)) else none
  | .neq => bif k == k' then some (mkBool (a != b)) else none
  | .lss => bif k == k' then some (mkBool (decide (a < b))) else none
  | .leq => bif k == k' then some (mkBool (decide (a ≤ b))) else none
  | .gtr => bif k == k' then some (mkBool (decide (a > b))) else none
  | .geq => bif k == k' then some (mkBool (decide (a ≥ b))) else none

def fillS (ρ : Operand → Option SV) (z : List SC) : List (Nat × Operand) → Option (List SC)
  | [] => some z
  | (i, x) :: rest =>
    match ρ x with
    | some (.one (.sc c)) => bif Nat.blt i z.length then fillS ρ (z.set i c) rest else none
    | _ => none

def splice (l : List SC) (off : Nat) (cs : List SC) : List SC := l.take off ++ (cs ++ l.drop (off + cs.length))

/-- A bound of a slice expression: a number, or its default. -/
def bnd (ρ : Operand → Option SV) (x : Option Operand) (d : Nat) : Option Nat :=
  match x with
  | none => some d
  | some x => match ρ x with
    | some (.one (.sc (.int _ i))) => natOf i
    | _ => none

/-- The same where it is an open term, with what is asked of it. -/
def bndS (ρ : Operand → Option SV) (x : Option Operand) (d : Nat) : Option (Nat × List Prop) :=
  match x with
  | none => some (d, [])
  | some x => match ρ x with
    | some (.one (.sc (.int _ i))) => some (i.toNat, [0 ≤ i])
    | _ => none

def evLen (C : Ctx) (t : TypeId) (v : SV) : Option SV :=
  match C.ty t, v with
  | some ⟨.slice _, _, _, _⟩, .one (.sc (.sl _ _ len _)) => some (mkInt .i64 len)
  | some ⟨.slice _, _, _, _⟩, .one (.sc (.vw _ len _ _ _)) => some (mkInt .i64 len)
  | some ⟨.slice _, _, _, _⟩, .one (.sc (.slU _ _ len _)) => some (mkInt .i64 len)
  | some ⟨.array n _, _, _, _⟩, _ => some (mkInt .i64 n)
  | some ⟨.string, _, _, _⟩, .one (.sc (.str s)) => some (mkInt .i64 s.size)
  | _, _ => none

def evCopy (C : Ctx) (g : Nat → Option Reg) (t : TypeId) (d s : SV) : Option Eff :=
  match C.ty t, d, s with
  | some ⟨.slice e, _, _, _⟩, .one (.sc (.sl r o l _)), .one (.sc (.sl r' o' l' _)) =>
    match C.ty e, g r, g r' with
    | some i, some ⟨.cells R, el⟩, some ⟨.cells R', _⟩ =>
      let n := Nat.min l' l
      bif i.size == 1 && Nat.ble (o + n) R.length && Nat.ble (o' + n) R'.length then
        some (.upd r ⟨.cells (splice R o ((R'.drop o').take n)), el⟩ (mkInt .i64 n))
      else none
    | _, _, _ => none
  | _, _, _ => none

/-- Integers of one kind. -/
def intsOf (k : IntKind) : List SC → Option (List Int)
  | [] => some []
  | .int k' n :: l => bif k == k' then (intsOf k l).map (n :: ·) else none
  | _ :: _ => none

/-- A copy of integers that were there at the start: how many is an open term. -/
def evCopyS (C : Ctx) (g : Nat → Option Reg) (t : TypeId) (d s : SV) : Option Eff :=
  match C.ty t, d, s with
  | some ⟨.slice e, _, _, _⟩, .one (.sc (.sl r o l _)), .one (.sc (.vw _ l' _ k f)) =>
    match C.ty e, g r with
    | some i, some ⟨.cells R, el⟩ => match intsOf k R with
      | some zs => bif i.size == 1 && Nat.ble (o + l) R.length then
          some (.upd r ⟨.cells ((List.range R.length).map fun i => .int k (if o ≤ i ∧ i < o + Nat.min l' l then f (i - o) else zs.getD i 0)), el⟩ (mkInt .i64 (Nat.min l' l)))
        else none
      | none => none
    | _, _ => none
  | _, _, _ => none

def readR (R : Option Reg) (k : IntKind) (off len : Nat) : Option (Nat × (Nat → Int) × List Prop) :=
  match R with
  | some ⟨.own k' n f, _⟩ => bif k == k' then some (len, fun i => f (off + i), [off + len ≤ n]) else none
  | some ⟨.cells l, _⟩ => match intsOf k l with
    | some zs => some (len, fun i => zs.getD (off + i) 0, [off + len ≤ zs.length])
    | none => none
  | _ => none
/-- The integers that a slice sees. -/
def readS (g : Nat → Option Reg) (k : IntKind) : SV → Option (Nat × (Nat → Int) × List Prop)
  | .one (.sc (.vw _ len _ k' f)) => bif k == k' then some (len, f, []) else none
  | .one (.sc (.sl r off len _)) => readR (g r) k off len
  | .one (.sc (.slU r off len _)) => readR (g r) k off len
  | _ => none

/-- An append: one that does not fit; one onto nothing; one onto a whole row whose room is not known: the old row is no more. -/
def evAppend (C : Ctx) (g : Nat → Option Reg) (t t' : TypeId) (d s : SV) : Option (Eff × List Prop) :=
  match C.ty t, d with
  | some ⟨.slice e, _, _, _⟩, .one (.sc (.sl _ _ _ cap)) =>
    match C.ty e with
    | some ⟨.int k, sz, by_, some [_]⟩ => match readS g k d, readS g k s with
      | some (n, f, ps), some (m, h, qs) => bif sz == 1 && Nat.ble by_ 8 && t == t' then
          some (.newu ⟨.own k (n + m) (fun i => if i < n then f i else h (i - n)), e⟩ (n + m), ps ++ (qs ++ [cap < n + m, n ≤ cap, 0 < m, n + m ≤ 1000000])) else none
      | _, _ => none
    | _ => none
  | some ⟨.slice e, _, _, _⟩, .one (.sc (.vw none 0 0 _ _)) =>
    match C.ty e with
    | some ⟨.int k, sz, by_, some [_]⟩ => match readS g k s with
      | some (m, h, qs) => bif sz == 1 && Nat.ble by_ 8 && t == t' then some (.newu ⟨.own k m h, e⟩ m, qs ++ [0 < m, m ≤ 1000000]) else none
      | none => none
    | _ => none
  | some ⟨.slice e, _, _, _⟩, .one (.sc (.slU r 0 len 0)) =>
    match C.ty e, g r with
    | some ⟨.int k, sz, by_, some [_]⟩, some ⟨.own k' n f, e'⟩ => match readS g k s with
      | some (m, h, qs) => bif sz == 1 && Nat.ble by_ 8 && t == t' && k == k' && Nat.beq n len && e == e' then
          some (.app r ⟨.own k (n + m) (fun i => bif Nat.blt i n then f i else h (i - n)), e⟩ (n + m), qs ++ [0 < m, n + m ≤ 1000000]) else none
      | none => none
    | _, _ => none
  | _, _ => none

def evBuiltin (C : Ctx) (sy : Bool) (ρ : Operand → Option SV) (g : Nat → Option Reg) (b : Builtin) (ts : List TypeId) (xs : List Operand) : Option (Eff × List Prop) :=
  match b, ts, xs with
  | .len, [t], [x] => match ρ x with
    | some v => (evLen C t v).map fun v => (.val v, [])
    | none => none
  | .min, _, [x, y] => match ρ x, ρ y with
    | some (.one (.sc (.int k a))), some (.one (.sc (.int _ b))) => some (.val (mkInt k (if b < a then b else a)), [])
    | _, _ => none
  | .copy, t :: _, [x, y] => match ρ x, ρ y with
    | some d, some s => (bif sy then evCopyS C g t d s else evCopy C g t d s).map (·, [])
    | _, _ => none
  | .append, [t, t'], [x, y] => match ρ x, ρ y with
    | some d, some s => evAppend C g t t' d s
    | _, _ => none
  | _, _, _ => none

def evSlice (C : Ctx) (ρ : Operand → Option SV) (t : TypeId) (v : SV) (lo hi : Option Operand) : Option SV :=
  match C.ty t, v with
  | some ⟨.array n e, _, _, _⟩, .one (.sc (.ptr r off)) =>
    match C.ty e, bnd ρ lo 0, bnd ρ hi n with
    | some i, some l, some h => bif i.size == 1 && Nat.ble l h && Nat.ble h n then some (.one (.sc (.sl r (bif l == n then off else off + l) (h - l) (n - l)))) else none
    | _, _, _ => none
  | some ⟨.slice e, _, _, _⟩, .one (.sc (.sl r off len cap)) =>
    match C.ty e, bnd ρ lo 0, bnd ρ hi len with
    | some i, some l, some h => bif i.size == 1 && Nat.ble l h && Nat.ble h cap then some (.one (.sc (.sl r (bif l == cap then off else off + l) (h - l) (cap - l)))) else none
    | _, _, _ => none
  | some ⟨.slice e, _, _, _⟩, .one (.sc (.slU r off len d)) =>
    match C.ty e, bnd ρ lo 0, bnd ρ hi len with
    | some i, some l, some h => bif i.size == 1 && Nat.ble l h && Nat.ble h len && Nat.blt l len then some (.one (.sc (.slU r (off + l) (h - l) (len - h + d)))) else none
    | _, _, _ => none
  | _, _ => none

def evSliceS (C : Ctx) (ρ : Operand → Option SV) (t : TypeId) (v : SV) (lo hi : Option Operand) : Option (SV × List Prop) :=
  match C.ty t, v with
  | some ⟨.array n e, _, _, _⟩, .one (.sc (.ptr r off)) =>
    match C.ty e, bndS ρ lo 0, bndS ρ hi n with
    | some i, some (l, p), some (h, q) => bif i.size == 1 then some (.one (.sc (.sl r (if n = l then off else off + l) (h - l) (n - l))), p ++ (q ++ [l ≤ h, h ≤ n])) else none
    | _, _, _ => none
  | some ⟨.slice e, _, _, _⟩, .one (.sc (.sl r off len cap)) =>
    match C.ty e, bndS ρ lo 0, bndS ρ hi len with
    | some i, some (l, p), some (h, q) => bif i.size == 1 then some (.one (.sc (.sl r (if cap = l then off else off + l) (h - l) (cap - l))), p ++ (q ++ [l ≤ h, h ≤ cap])) else none
    | _, _, _ => none
  | some ⟨.slice e, _, _, _⟩, .one (.sc (.vw a len cap k f)) =>
    match C.ty e, bndS ρ lo 0, bndS ρ hi len with
    | some i, some (l, p), some (h, q) => bif i.size == 1 then some (.one (.sc (.vw (if cap = l then a else a.map (·.add l)) (h - l) (cap - l) k (fun j => f (l + j)))), p ++ (q ++ [l ≤ h, h ≤ len, h ≤ cap])) else none
    | _, _, _ => none
  | _, _ => none

def evIndexAddr (C : Ctx) (t : TypeId) (v i : SV) : Option SV :=
  match C.ty t, v, i with
  | some ⟨.array n e, _, _, _⟩, .one (.sc (.ptr r off)), .one (.sc (.int _ (.ofNat j))) =>
    match C.ty e with
    | some ie => bif ie.size == 1 && Nat.blt j n then some (.one (.sc (.ptr r (off + j)))) else none
    | none => none
  | some ⟨.slice e, _, _, _⟩, .one (.sc (.sl r off len _)), .one (.sc (.int _ (.ofNat j))) =>
    match C.ty e with
    | some ie => bif ie.size == 1 && Nat.blt j len then some (.one (.sc (.ptr r (off + j)))) else none
    | none => none
  | some ⟨.slice e, _, _, _⟩, .one (.sc (.slU r off len _)), .one (.sc (.int _ (.ofNat j))) =>
    match C.ty e with
    | some ie => bif ie.size == 1 && Nat.blt j len then some (.one (.sc (.ptr r (off + j)))) else none
    | none => none
  | _, _, _ => none

def evIndexAddrS (C : Ctx) (t : TypeId) (v i : SV) : Option (SV × List Prop) :=
  match C.ty t, v, i with
  | some ⟨.array n e, _, _, _⟩, .one (.sc (.ptr r off)), .one (.sc (.int _ j)) =>
    match C.ty e with
    | some ie => bif ie.size == 1 then some (.one (.sc (.ptrS r (off + j.toNat))), [0 ≤ j, j < (n : Int)]) else none
    | none => none
  | some ⟨.slice e, _, _, _⟩, .one (.sc (.sl r off len _)), .one (.sc (.int _ j)) =>
    match C.ty e with
    | some ie => bif ie.size == 1 then some (.one (.sc (.ptrS r (off + j.toNat))), [0 ≤ j, j < (len : Int)]) else none
    | none => none
  | some ⟨.slice e, _, _, _⟩, .one (.sc (.vw a len _ k f)), .one (.sc (.int _ j)) =>
    match C.ty e with
    | some ie => bif ie.size == 1 then some (.one (.sc (.ptrW (a.map (·.add j.toNat)) k (f j.toNat))), [0 ≤ j, j < (len : Int)]) else none
    | none => none
  | _, _, _ => none

def kindOf : List SC → IntKind
  | .int k _ :: _ => k
  | _ => .i64

/-- A cell by an open place. -/
def loadS (b : Body) (off : Nat) : Option (SC × List Prop) :=
  match b with
  | .cells l => match intsOf (kindOf l) l with
    | some zs => some (.int (kindOf l) (zs.getD off 0), [off < zs.length])
    | none => none
  | .own k n f => some (.int k (f off), [off < n])
  | .gone => none

def evLoad (C : Ctx) (g : Nat → Option Reg) (t : TypeId) (a : SV) : Option (SV × List Prop) :=
  match C.ty t, a with
  | some i, .one (.sc (.ptr r off)) =>
    match g r with
    | some ⟨.cells l, _⟩ =>
      bif aggD i.desc then (bif Nat.ble (off + i.size) l.length then some (.one (.agg ((l.drop off).take i.size)), []) else none)
      else match l[off]? with
        | some c => some (.one (.sc c), [])
        | none => none
    | some ⟨b, _⟩ => bif aggD i.desc then none else (loadS b off).map fun x => (.one (.sc x.1), x.2)
    | none => none
  | some i, .one (.sc (.ptrS r off)) =>
    match g r with
    | some ⟨b, _⟩ => bif aggD i.desc then none else (loadS b off).map fun x => (.one (.sc x.1), x.2)
    | none => none
  | some i, .one (.sc (.ptrW _ k n)) => bif aggD i.desc then none else some (.one (.sc (.int k n)), [])
  | _, _ => none

/-- A store by an open place. -/
def storeS (b : Body) (off : Nat) (c : SC) : Option (Body × List Prop) :=
  match b, c with
  | .cells l, .int k v => match intsOf k l with
    | some zs => some (.cells ((List.range zs.length).map fun i => .int k (if i = off then v else zs.getD i 0)), [off < zs.length])
    | none => none
  | .own k n f, .int k' v => bif k == k' then some (.own k n (fun i => if i = off then v else f i), [off < n]) else none
  | _, _ => none

def evStore (C : Ctx) (g : Nat → Option Reg) (t : TypeId) (a x : SV) : Option (Eff × List Prop) :=
  match C.ty t, a, x with
  | some i, .one (.sc (.ptr r off)), .one s =>
    match g r with
    | some ⟨.cells l, el⟩ =>
      bif s.cells.length == i.size && Nat.ble (off + i.size) l.length then some (.upd r ⟨.cells (splice l off s.cells), el⟩ (.tup []), []) else none
    | some ⟨b, el⟩ => match s with
      | .sc c => bif i.size == 1 then (storeS b off c).map fun x => (.upd r ⟨x.1, el⟩ (.tup []), x.2) else none
      | _ => none
    | none => none
  | some i, .one (.sc (.ptrS r off)), .one (.sc c) =>
    match g r with
    | some ⟨b, el⟩ => bif i.size == 1 then (storeS b off c).map fun x => (.upd r ⟨x.1, el⟩ (.tup []), x.2) else none
    | none => none
  | _, _, _ => none

/-- Arrays of integers, and bools, held against each other. -/
def evEq (C : Ctx) (t : TypeId) (x y : SV) : Option Bool :=
  match C.ty t, x, y with
  | some ⟨.array n e, _, _, _⟩, .one (.agg xs), .one (.agg ys) =>
    match C.ty e with
    | some ⟨.int k, sz, _, _⟩ => match intsOf k xs, intsOf k ys with
      | some zs, some us => bif C.eqg t && sz == 1 && zs.length == n && us.length == n then some (decide (zs = us)) else none
      | _, _ => none
    | _ => none
  | some ⟨.bool, _, _, _⟩, .one (.sc (.bool a)), .one (.sc (.bool b)) => some (a == b)
  | _, _, _ => none

def evMake (C : Ctx) (t : TypeId) (l c : SV) : Option (Eff × List Prop) :=
  match C.ty t, l, c with
  | some ⟨.slice e, _, _, _⟩, .one (.sc (.int _ a)), .one (.sc (.int _ b)) =>
    match C.ty e with
    | some ⟨_, sz, by_, some [.int k z]⟩ => bif sz == 1 && Nat.ble by_ 8 then some (.news ⟨.own k a.toNat (fun _ => z), e⟩ a.toNat, [a = b, 0 ≤ a, a ≤ 1000000000]) else none
    | _ => none
  | _, _, _ => none

abbrev pureE (x : Option Eff) : Option (Eff × List Prop) := x.map (·, [])
abbrev valE (x : Option SV) : Option (Eff × List Prop) := x.map (.val ·, [])
abbrev valP (x : Option (SV × List Prop)) : Option (Eff × List Prop) := x.map fun p => (.val p.1, p.2)

def evOp (C : Ctx) (sy : Bool) (ρ : Operand → Option SV) (g : Nat → Option Reg) : Op → Option (Eff × List Prop)
  | .move x | .assign x => valE (ρ x)
  | .pick c a b => match ρ c with
    | some (.one (.sc (.bool t))) => valE (bif t then ρ a else ρ b)
    | _ => none
  | .alloc e => match C.ty e with
    | some ⟨_, _, _, some z⟩ => some (.newp ⟨.cells z, e⟩, [])
    | _ => none
  | .box e x => match ρ x with
    | some (.one s) => some (.newp ⟨.cells s.cells, e⟩, [])
    | _ => none
  | .build t parts => match C.ty t with
    | some ⟨.array _ e, _, _, some z⟩ => match C.ty e with
      | some ie => bif ie.size == 1 then (fillS ρ z parts.toList).map (fun l => (.val (.one (.agg l)), [])) else none
      | none => none
    | _ => none
  | .load t a => match ρ a with
    | some v => valP (evLoad C g t v)
    | none => none
  | .store t a x => match ρ a, ρ x with
    | some v, some y => evStore C g t v y
    | _, _ => none
  | .nilCheck x => match ρ x with
    | some (.one (.sc (.ptr r o))) => some (.val (.one (.sc (.ptr r o))), [])
    | _ => none
  | .binOp op t x y _ => match ρ x, ρ y with
    | some (.one (.sc (.int k a))), some (.one (.sc (.int k' b))) => valE (evBin op k a k' b)
    | some u, some v => match op with
      | .eql => valE ((evEq C t u v).map mkBool)
      | .neq => valE ((evEq C t u v).map fun b => mkBool (!b))
      | _ => none
    | _, _ => none
  | .unOp .not _ x => match ρ x with
    | some (.one (.sc (.bool b))) => some (.val (mkBool (!b)), [])
    | _ => none
  | .unOp .xor _ x => match ρ x with
    | some (.one (.sc (.int k n))) => some (.val (mkInt k (bits .xor k (if k.signed then -1 else k.max) n)), [])
    | _ => none
  | .convert s d x => match C.ty s, C.ty d, ρ x with
    | some _, some ⟨.int k, _, _, _⟩, some (.one (.sc (.int _ n))) => some (.val (mkInt k (k.wrap n)), [])
    | _, _, _ => none
  | .sliceToArrayPointer t x => match C.ty t, ρ x with
    | some ⟨.array n _, _, _, _⟩, some (.one (.sc (.sl r off len _))) => bif Nat.ble n len then some (.val (.one (.sc (.ptr r off))), []) else none
    | _, _ => none
  | .slice t x lo hi none => match ρ x with
    | some v => bif sy then valP (evSliceS C ρ t v lo hi) else valE (evSlice C ρ t v lo hi)
    | none => none
  | .buildSlice t n parts => match C.ty t with
    | some ⟨.slice e, _, _, _⟩ => match C.ty e with
      | some ⟨_, sz, _, some [z]⟩ => bif sz == 1 && Nat.ble n 1000000 && !(n == 0) then (fillS ρ (List.replicate n z) parts.toList).map (fun l => (.news ⟨.cells l, e⟩ n, [])) else none
      | _ => none
    | _ => none
  | .makeSlice t l c => match ρ l, ρ c with
    | some a, some b => evMake C t a b
    | _, _ => none
  | .indexAddr t x i => match ρ x, ρ i with
    | some v, some j => bif sy then valP (evIndexAddrS C t v j) else valE (evIndexAddr C t v j)
    | _, _ => none
  | .index t x i => match C.ty t, ρ x, ρ i with
    | some ⟨.array n e, _, _, _⟩, some (.one (.agg cs)), some (.one (.sc (.int _ (.ofNat j)))) =>
      match C.ty e with
      | some ie => bif ie.size == 1 && !aggD ie.desc && Nat.blt j n then (match cs[j]? with
        | some c => some (.val (.one (.sc c)), [])
        | none => none) else none
      | none => none
    | some ⟨.string, _, _, _⟩, some (.one (.sc (.str s))), some (.one (.sc (.int _ (.ofNat j)))) => match s.data.toList[j]? with
      | some b => some (.val (mkInt .u8 b.toNat), [])
      | none => none
    | _, _, _ => none
  | .extract x i => match ρ x with
    | some (.tup l) => match l[i]? with
      | some s => some (.val (.one s), [])
      | none => none
    | _ => none
  | .call ⟨.builtin b, args, ts⟩ => evBuiltin C sy ρ g b ts.toList args.toList
  | _ => none

def St.put (st : St) (d : Option Nat) (v : SV) : Option St :=
  match st, d with
  | st, none => some st
  | ⟨fid, n, fr, regs, conds⟩, some d => bif Nat.blt d n then some ⟨fid, n, T.set 12 fr d (some v), regs, conds⟩ else none

def St.setRegs (st : St) (rs : List Reg) : St :=
  match st with
  | ⟨fid, n, fr, _, conds⟩ => ⟨fid, n, fr, rs, conds⟩

def St.cond (st : St) (ps : List Prop) : St :=
  match st, ps with
  | st, [] => st
  | ⟨fid, n, fr, regs, conds⟩, p :: ps => ⟨fid, n, fr, regs, (p :: ps) ++ conds⟩

/-- An effect on the regions, and the value. -/
def effOf (regs : List Reg) : Eff → List Reg × SV
  | .val v => (regs, v)
  | .newp R => (regs ++ [R], .one (.sc (.ptr regs.length 0)))
  | .news R len => (regs ++ [R], .one (.sc (.sl regs.length 0 len len)))
  | .newu R len => (regs ++ [R], .one (.sc (.slU regs.length 0 len 0)))
  | .app r R len => (regs.set r ⟨.gone, R.elem⟩ ++ [R], .one (.sc (.slU regs.length 0 len 0)))
  | .upd r R v => (regs.set r R, v)

/-- Is the operation's guard met? -/
def wants (ops : Array Oper) (o : Oper) (fr : T) : Option Bool :=
  match o.guard with
  | none => some true
  | some (j, w) => match (ops[j]?).bind (·.dst) with
    | some t => match fr.get t with
      | some (.one (.sc (.bool b))) => some (b == w)
      | some (.tup []) => some false
      | _ => none
    | none => none

def evArgs (fr : T) : List Operand → Option (List SV)
  | [] => some []
  | x :: xs => match opv fr x, evArgs fr xs with
    | some v, some vs => some (v :: vs)
    | _, _ => none

/-- The call of a Go function by its number. -/
def calls : Op → Option (Nat × List Operand)
  | .call ⟨.value (.func f), args, _⟩ => some (f, args.toList)
  | _ => none

abbrev CallF := Nat → List SV → List Reg → Option (SV × List Reg × List Prop)

def symAt (C : Ctx) (fid : Nat) (d : Option Nat) : Bool :=
  match d with
  | some d => C.sym fid d
  | none => false

/-- The operation itself: the regions behind it, its value, what it asks. -/
def evCore (C : Ctx) (cf : CallF) (o : Oper) (st : St) : Option (List Reg × SV × List Prop) :=
  match calls o.op with
  | some (f, xs) =>
    match evArgs st.fr xs with
    | none => none
    | some vs =>
      match C.orc f with
      | some h => match h vs (fun r => st.regs[r]?) with
        | some (.val v qs) => some (st.regs, v, qs)
        | some (.own R len (some cap) qs) => some (st.regs ++ [R], .one (.sc (.sl st.regs.length 0 len cap)), qs)
        | some (.own R len none qs) => some (st.regs ++ [R], .one (.sc (.slU st.regs.length 0 len 0)), qs)
        | none => none
      | none => match cf f vs st.regs with
        | some (v, regs, qs) => some (regs, v, qs)
        | none => none
  | none =>
    match evOp C (symAt C st.fid o.dst) (opv st.fr) (fun r => st.regs[r]?) o.op with
    | some (e, qs) => match effOf st.regs e with
      | (regs, v) => some (regs, v, qs)
    | none => none

/-- A test whose answer is given: the answer is a condition. -/
def settle (hint : Nat → Option Ans) (d : Option Nat) (v : SV) : SV × List Prop :=
  match d with
  | some t => match hint t with
    | some (.b h) => match v with
      | .one (.sc (.bool b)) => (.one (.sc (.bool h)), [b = h])
      | v => (v, [])
    | some (.i m) => match v with
      | .one (.sc (.int k n)) => (.one (.sc (.int k m)), [n = m])
      | v => (v, [])
    | none => (v, [])
  | none => (v, [])

def fin (st : St) (regs : List Reg) (d : Option Nat) (v : SV) (ps qs : List Prop) : Option St :=
  match (st.setRegs regs).put d v with
  | some st => some ((st.cond ps).cond qs)
  | none => none

def evOper (C : Ctx) (cf : CallF) (ops : Array Oper) (o : Oper) (st : St) : Option St :=
  match wants ops o st.fr with
  | none => none
  | some false => fin st st.regs o.dst (.tup []) [] []
  | some true => match evCore C cf o st with
    | some (regs, v, qs) => match settle (C.hint st.fid) o.dst v with
      | (v', ps) => fin st regs o.dst v' ps qs
    | none => none

def evOpers (C : Ctx) (cf : CallF) (ops : Array Oper) : List Oper → St → Option St
  | [], st => some st
  | o :: rest, st => match evOper C cf ops o st with
    | some st => evOpers C cf ops rest st
    | none => none

/-- An operation that may come up in any order: it writes to no memory that was there. -/
def headKind (C : Ctx) (o : Oper) : Bool :=
  match o.op with
  | .store .. => false
  | .call ⟨.builtin .copy, _, _⟩ => false
  | .call ⟨.builtin .append, _, _⟩ => false
  | .call ⟨.value (.func f), _, _⟩ => (C.orc f).isSome
  | _ => true

def heads (C : Ctx) : List Oper → Nat
  | [] => 0
  | o :: rest => bif headKind C o then heads C rest + 1 else 0

/-- The heads' temporaries: each slot written by one head, and read only behind it. -/
def headsOk (l : List Oper) (ops : Array Oper) (n : Nat) : Bool :=
  l.zipIdx.all fun (o, i) => Nat.ble n i ||
    (o.after.all (fun e => Nat.blt e.on i || !Region.binds .any e) &&
     l.zipIdx.all fun (o', j) => Nat.ble n j || (match o'.dst with
      | none => true
      | some t => (i == j || o.dst != some t) && (!(o.looksAt ops).contains t || (Nat.blt j i && o.after.any fun e => Region.binds .any e && e.on == j))))

def listedN (m n : Nat) : Array Bool := ((List.range m).map fun i => Nat.blt i n).toArray

/-- The longest such row of heads. -/
def headsN (ops : Array Oper) (l : List Oper) : Nat → Nat
  | 0 => 0
  | n + 1 => bif headsOk l ops (n + 1) then n + 1 else headsN ops l n

def drawOk (C : Ctx) (ops : Array Oper) : Bool :=
  let n := headsN ops ops.toList (heads C ops.toList)
  Region.noSelect ops && headsOk ops.toList ops n && (Nat.ble ops.size n || (Region.sinkB .any ops n && Region.chainB .any ops n && Region.seqB .any ops (ops.size - n) n (listedN ops.size n)))

/-- One operation by its place. -/
def evAt (C : Ctx) (cf : CallF) (ops : Array Oper) (i : Nat) (st : St) : Option St :=
  match ops[i]? with
  | some o => evOper C cf ops o st
  | none => none
def St.clear (st : St) : St :=
  match st with
  | ⟨fid, n, fr, regs, _⟩ => ⟨fid, n, fr, regs, []⟩
def St.onto (st : St) (ps : List Prop) : St :=
  match st with
  | ⟨fid, n, fr, regs, conds⟩ => ⟨fid, n, fr, regs, conds ++ ps⟩
/-- The same but for the conditions. -/
def St.same (s t : St) : Prop := s.fid = t.fid ∧ s.n = t.n ∧ s.fr = t.fr ∧ s.regs = t.regs
def evAlts (go : Nat → Option St) : List Nat → St → Option St
  | [], F => some F
  | j :: js, F => match go j with
    | some G => evAlts go js (F.cond (St.same G F :: G.conds))
    | none => none
def evAlts' (go : List Nat → Option St) : List (List Nat) → St → Option St
  | [], F => some F
  | j :: js, F => match go j with
    | some G => evAlts' go js (F.cond (St.same G F :: G.conds))
    | none => none
/-- Each order that may be drawn: that all come to one state is a condition. -/
def evAny (C : Ctx) (cf : CallF) (ops : Array Oper) : Nat → Array Bool → St → Option St
  | 0, listed, st => bif (Region.ready .any ops listed).isEmpty then some st else none
  | f + 1, listed, st => match Region.ready .any ops listed with
    | [] => some st
    | i :: is => match (evAt C cf ops i st.clear).bind (evAny C cf ops f (listed.setIfInBounds i true)) with
      | some F => (evAlts (fun j => (evAt C cf ops j st.clear).bind (evAny C cf ops f (listed.setIfInBounds j true))) is F).map fun F => F.onto st.conds
      | none => none

/-- An operation that makes no region and writes to none. -/
def quietOp : Op → Bool
  | .move _ | .assign _ | .build .. | .load .. | .binOp .. | .unOp .. | .convert .. | .indexAddr .. | .pick .. | .nilCheck _ | .extract .. | .index .. => true
  | _ => false
def quietAt (ops : Array Oper) (i : Nat) : Bool :=
  match ops[i]? with
  | some o => quietOp o.op
  | none => false
def subs : List Nat → List (List Nat)
  | [] => [[]]
  | x :: xs => subs xs ++ (subs xs).map (x :: ·)
/-- The heads that may still be out when the tail begins. -/
def lateOf (ops : Array Oper) (n : Nat) : List Nat := (List.range n).filter fun i => !Region.waitsFor .any ops n i
def maskOf (m n : Nat) (p : List Nat) : Array Bool := ((List.range m).map fun i => Nat.blt i n && !p.contains i).toArray
/-- These heads' slots forgotten. -/
def eraseT (ops : Array Oper) : List Nat → T → T
  | [], fr => fr
  | i :: is, fr => match (ops[i]?).bind (·.dst) with
    | some d => T.set 12 (eraseT ops is fr) d none
    | none => eraseT ops is fr
def St.erase (ops : Array Oper) (p : List Nat) (st : St) : St :=
  match st with
  | ⟨fid, n, fr, regs, conds⟩ => ⟨fid, n, eraseT ops p fr, regs, conds⟩
/-- Heads in any order; the tail may begin while quiet heads are out. -/
def evLate0 (C : Ctx) (cf : CallF) (ops : Array Oper) (st : St) : Option St :=
  let n := headsN ops ops.toList (heads C ops.toList)
  let late := lateOf ops n
  bif headsOk ops.toList ops n && Nat.blt n ops.size && Region.chainB .any ops n && late.all (quietAt ops) then
    match evOpers C cf ops (ops.toList.take n) st with
    | none => none
    | some s => match evAny C cf ops (ops.size - n) (listedN ops.size n) s with
      | none => none
      | some G => evAlts' (fun p => (evAt C cf ops n (s.erase ops p)).bind (evAny C cf ops (p.length - 1 + (ops.size - n)) ((maskOf ops.size n p).setIfInBounds n true))) ((subs late).filter fun p => !p.isEmpty) G
  else none

def evLate (C : Ctx) (cf : CallF) (ops : Array Oper) (st : St) : Option St := (evLate0 C cf ops st.clear).map fun F => F.onto st.conds

def firstRegion : Code → Option Nat
  | .region id _ _ => some id
  | .seq a b => match firstRegion a with
    | some i => some i
    | none => firstRegion b
  | .block _ c | .scope c => firstRegion c
  | .cond _ a _ => firstRegion a
  | _ => none

/-- The regions from 'base' on that a value names. -/
def SC.names (base : Nat) : SC → List Nat
  | .ptr r _ | .ptrS r _ | .sl r _ _ _ | .slU r _ _ _ => bif Nat.ble base r then [r] else []
  | _ => []
def S1.names (base : Nat) : S1 → List Nat
  | .sc c => c.names base
  | .agg l => l.flatMap (SC.names base)
def SV.names (base : Nat) : SV → List Nat
  | .one s => s.names base
  | .tup l => l.flatMap (S1.names base)

def addNew (l : List Nat) (r : Nat) : List Nat := bif l.contains r then l else l ++ [r]

/-- The place of a region's number in a list. -/
def idx (l : List Nat) (r : Nat) : Option Nat :=
  match l with
  | [] => none
  | x :: xs => bif x == r then some 0 else (idx xs r).map (· + 1)

def ren (base : Nat) (ks : List Nat) (r : Nat) : Option Nat := bif Nat.blt r base then some r else (idx ks r).map (base + ·)

def SC.ren (base : Nat) (ks : List Nat) : SC → Option SC
  | .int k n => some (.int k n)
  | .bool b => some (.bool b)
  | .ptr r o => (SX.ren base ks r).map (.ptr · o)
  | .ptrS r o => (SX.ren base ks r).map (.ptrS · o)
  | .vw a l c k f => some (.vw a l c k f)
  | .ptrW a k n => some (.ptrW a k n)
  | .str s => some (.str s)
  | .sl r o l c => (SX.ren base ks r).map (.sl · o l c)
  | .slU r o l d => (SX.ren base ks r).map (.slU · o l d)
def mapO {α β : Type} (f : α → Option β) : List α → Option (List β)
  | [] => some []
  | x :: xs => match f x, mapO f xs with
    | some y, some ys => some (y :: ys)
    | _, _ => none
def S1.ren (base : Nat) (ks : List Nat) : S1 → Option S1
  | .sc c => (c.ren base ks).map .sc
  | .agg l => (mapO (SC.ren base ks) l).map .agg
def SV.ren (base : Nat) (ks : List Nat) : SV → Option SV
  | .one s => (s.ren base ks).map .one
  | .tup l => (mapO (S1.ren base ks) l).map .tup
def Reg.ren (base : Nat) (ks : List Nat) (R : Reg) : Option Reg :=
  match R.body with
  | .cells l => (mapO (SC.ren base ks) l).map fun l => ⟨.cells l, R.elem⟩
  | _ => some R

/-- The frame on the slots that stay, renamed. -/
def keepFr (base : Nat) (ks : List Nat) (fr : T) : List Nat → T → Option T
  | [], acc => some acc
  | t :: ts, acc => match fr.get t with
    | some v => match v.ren base ks with
      | some v' => keepFr base ks fr ts (T.set 12 acc t (some v'))
      | none => none
    | none => keepFr base ks fr ts acc

/-- Only these slots, and only the regions that they name, stay. -/
def St.keep (st : St) (base : Nat) (slots : List Nat) : Option St :=
  let ks := slots.foldl (fun acc t => match st.fr.get t with
    | some v => (v.names base).foldl addNew acc
    | none => acc) []
  match keepFr base ks st.fr slots .e, mapO (Reg.ren base ks) (st.regs.take base), mapO (fun r => match st.regs[r]? with
      | some R => R.ren base ks
      | none => none) ks with
  | some fr, some olds, some news => bif Nat.ble base st.regs.length && slots.all (fun t => Nat.blt t st.n) then some { st with fr := fr, regs := olds ++ news } else none
  | _, _, _ => none

def keepAt (C : Ctx) (base : Nat) (body : Code) (st : St) : Option St :=
  match firstRegion body with
  | none => some st
  | some id => match C.keep st.fid id with
    | none => some st
    | some slots => st.keep base slots

/-- The slots that stay ahead of a region whose orders are gone through one by one. -/
def keepR (C : Ctx) (base id : Nat) (st : St) : Option St :=
  match C.keep st.fid id with
  | none => some st
  | some slots => st.keep base slots

def toldAt (C : Ctx) (body : Code) (st : St) : Option SLoop :=
  match firstRegion body with
  | none => none
  | some id => C.sloop st.fid id

def toldEnd (C : Ctx) (base : Nat) (body : Code) (L : SLoop) (s0 : St) : St :=
  match L.out, s0 with
  | ⟨fid, n, fr, regs, _⟩, ⟨fid', n', fr', regs', conds⟩ =>
    ⟨fid, n, fr, regs, [St.same ⟨fid', n', fr', regs', []⟩ (L.at_ 0), ∀ k, k < L.n → C.sem base body (L.at_ k) .normal (L.at_ (k + 1)), C.sem base body (L.at_ L.n) L.ex L.out, L.ex.leaves] ++ conds⟩

abbrev EvC := Nat → Code → St → Option (Ex × St)

/-- A call: the callee's frame, its body, its results. -/
def frameOf : List SV → Nat → T → T
  | [], _, acc => acc
  | v :: vs, i, acc => frameOf vs (i + 1) (T.set 12 acc i (some v))

def evResult (C : Ctx) (st : St) : ResultVar → Option (S1 × List Prop)
  | .tmp t => match st.fr.get t with
    | some (.one s) => some (s, [])
    | _ => none
  | .cell a t => match st.fr.get a with
    | some v => match evLoad C (fun r => st.regs[r]?) t v with
      | some (.one s, ps) => some (s, ps)
      | _ => none
    | none => none

def evResults (C : Ctx) (st : St) (rs : List ResultVar) : Option (SV × List Prop) :=
  match mapO (evResult C st) rs with
  | some [s] => some (.one s.1, s.2)
  | some l => some (.tup (l.map (·.1)), l.flatMap (·.2))
  | none => none

def evCall (C : Ctx) (P : Nat → Option Func) (rec : EvC) : CallF := fun f args regs =>
  match P f with
  | none => none
  | some fn => match fn.body with
    | none => none
    | some c =>
      bif Nat.ble args.length fn.ntmps && Nat.ble fn.ntmps 4000 then
        match rec regs.length c { fid := f, n := fn.ntmps, fr := frameOf args 0 .e, regs := regs, conds := [] } with
        | some (.normal, st) | some (.ret, st) => (evResults C st fn.results.toList).map fun v => (v.1, st.regs, v.2 ++ st.conds)
        | _ => none
      else none

def evStep (C : Ctx) (P : Nat → Option Func) (rec : EvC) : EvC := fun base c st =>
  match c with
  | .skip | .label _ => some (.normal, st)
  | .region id ops draw =>
    bif !draw || drawOk C ops then (evOpers C (evCall C P rec) ops ops.toList st).map fun st => (.normal, st)
    else match keepR C base id st with
      | some st0 =>
        bif Nat.ble ops.size 7 || C.sym st.fid (10000 + id) then (evAny C (evCall C P rec) ops ops.size (Array.replicate ops.size false) st0).map fun st => (.normal, st)
        else (evLate C (evCall C P rec) ops st0).map fun st => (.normal, st)
      | none => none
  | .seq x y => match rec base x st with
    | some (.normal, st) => rec base y st
    | r => r
  | .cond c x y => match opv st.fr c with
    | some (.one (.sc (.bool b))) => bif b then rec base x st else rec base y st
    | _ => none
  | .block id x => match rec base x st with
    | some (.exit i, st) => bif i == id then some (.normal, st) else some (.exit i, st)
    | r => r
  | .loop x => match toldAt C x st with
    | some L => match st.keep base L.slots with
      | some s0 => some (L.ex, toldEnd C base x L s0)
      | none => none
    | none => match rec base x st with
      | some (.normal, st) => match keepAt C base x st with
        | some st => rec base (.loop x) st
        | none => none
      | r => r
  | .exit id => some (.exit id, st)
  | .ret => some (.ret, st)
  | _ => none

def scOf : Value → Option SC
  | .int k n => some (.int k n)
  | .bool b => some (.bool b)
  | _ => none

/-- The types' table, read off the program. -/
def tyOf (P : Program) (t : TypeId) : Option TI :=
  match P.underlying t, P.info? t with
  | some d, some i => match i.zero with
    | some z => some ⟨d, i.size, i.bytes, mapO scOf z.cells.toList⟩
    | none => some ⟨d, i.size, i.bytes, none⟩
  | _, _ => none

/-- The executor, with fuel. -/
noncomputable def ev (C : Ctx) (P : Nat → Option Func) (fuel : Nat) : EvC := Nat.rec (fun _ _ _ => none) (fun _ rec => evStep C P rec) fuel

/-- A call of a function. -/
noncomputable def evF (C : Ctx) (P : Nat → Option Func) (fuel : Nat) : CallF := evCall C P (ev C P fuel)

def SC.plain : SC → Bool
  | .int _ _ | .bool _ => true
  | _ => false
def S1.plain : S1 → Bool
  | .sc c => c.plain
  | .agg l => l.all SC.plain
def SV.plain : SV → Bool
  | .one s => s.plain
  | .tup l => l.all S1.plain

def eqgOf (P : Program) (t : TypeId) : Bool := !P.eqGuardType P.depth t

/-- A context over a program. -/
def ctxOf (P : Program) (orc : Nat → Option Orc) : Ctx := ⟨tyOf P, eqgOf P, orc, fun _ _ => none, fun _ _ => none, fun _ _ => none, fun _ _ _ _ _ => False, fun _ _ => false⟩

/-- A function of plain values, by the executor itself. -/
noncomputable def auto (C : Ctx) (P : Nat → Option Func) (fuel f : Nat) : Orc := fun vs _ =>
  bif vs.all SV.plain then
    match evF C P fuel f vs [] with
    | some (v, _, ps) => bif v.plain then some (.val v ps) else none
    | none => none
  else none

end Go.SX
