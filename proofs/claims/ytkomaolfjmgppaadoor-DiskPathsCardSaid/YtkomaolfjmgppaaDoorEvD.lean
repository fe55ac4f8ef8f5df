/- The abstract operations. -/
import Derived.Test.YtkomaolfjmgppaaDoorEvC
namespace Go.Ev
open Go
set_option linter.unusedVariables false

/-- What is known of a type: what it is under its name, its cells, its bytes, its zero, whether its structs are compared field by field. -/
structure TyI where
  desc : TypeDesc
  size : Nat
  bytes : Nat
  zero : Option Value
  eqok : Bool

/-- Functions without a body, which the model itself answers. -/
inductive Ext where
  | noEscape | indexByte | count | compare | mapsClone
  deriving DecidableEq

/-- What a function comes to, in so many ways: a test parts them; at each end what is asked, the answer, the blocks. -/
inductive SumR where
  | fail
  | ret (c : Bool) (v : Value) (H : AHeap)
  | br (b : Bool) (x y : SumR)
def SumR.get : SumR → Option (Bool × Value × AHeap)
  | .fail => none
  | .ret c v H => some (c, v, H)
  | .br b x y => match b with | true => x.get | false => y.get
def ofO : Option (Bool × Value × AHeap) → SumR
  | some (c, v, H) => .ret c v H
  | none => .fail
theorem ofO_get (o : Option (Bool × Value × AHeap)) : (ofO o).get = o := by cases o <;> rfl

structure Env where
  P : Program
  ext : FuncId → Option Ext
  ty : TypeId → Option TyI
  fn : FuncId → Option Func
  plan : FuncId → Nat → Option (List (Nat × List Nat))
  summ : FuncId → Option (List Value → AHeap → SumR)

/-- A cell that may be laid. -/
def okc : Value → Bool
  | .agg _ | .tuple _ | .complex .. => false
  | _ => true
def acells : Value → Option (List Value)
  | .agg cs => if cs.toList.all okc then some cs.toList else none
  | v => if okc v then some [v] else none
def plain1 : Value → Bool
  | .bool _ | .int .. | .string _ | .pointer none | .map none | .nilFunc | .nilIface => true
  | .slice none 0 0 => true
  | _ => false
def plain : Value → Bool
  | .agg cs => cs.toList.all plain1
  | .iface _ v => plain1 v
  | .func (.func _) fs cs => fs.size == 0 && cs.size == 0
  | v => plain1 v
/-- A constant, as far as it is known. -/
def canon (v : Value) : Value := if plain v then v else top

def seq (x y : ByteArray) : Bool := x.data.toList == y.data.toList

/-! ### Reading and writing cells -/
def rd (H : AHeap) (b o n : Nat) : Option (List Value) :=
  match H.get b with
  | some (.cells cs _ _ _) => if o + n ≤ cs.length then some ((cs.drop o).take n) else none
  | _ => none
def rd1 (H : AHeap) (b o : Nat) : Option Value :=
  match H.get b with
  | some (.cells cs _ _ _) => cs[o]?
  | _ => none
def wr (H : AHeap) (b o : Nat) (vs : List Value) : Option AHeap :=
  match H.get b with
  | some (.cells cs t .live anc) => if o + vs.length ≤ cs.length then some ((H.kill anc).set b (.cells (splice cs o vs) t .live [])) else none
  | _ => none
def isAggD : TypeDesc → Bool
  | .struct _ | .array .. => true
  | _ => false

section
variable (E : Env)

def aload (t : TypeId) (v : Value) (H : AHeap) : Option Value :=
  match v with
  | .pointer (some ⟨b, o, none⟩) =>
    match E.ty t with
    | some i => if isAggD i.desc then (rd H b o i.size).map fun cs => .agg ⟨cs⟩ else rd1 H b o
    | none => none
  | _ => none
def astore (t : TypeId) (a v : Value) (H : AHeap) : Option AHeap :=
  match a with
  | .pointer (some ⟨b, o, none⟩) =>
    match E.ty t with
    | some i =>
      match acells v with
      | some cs => if cs.length = i.size then wr H b o cs else none
      | none => none
    | none => none
  | _ => none
def anew (v : Value) (H : AHeap) : Option (Value × AHeap) :=
  match acells v with
  | some cs => some (.pointer (some ⟨H.size, 0, none⟩), H.push (.cells cs ⟨0, none, true⟩ .live []))
  | none => none

def azero (t : TypeId) : Option Value :=
  match E.ty t with
  | some i => i.zero
  | none => none
def asize (t : TypeId) : Option Nat :=
  match E.ty t with
  | some i => some i.size
  | none => none

/-! ### Numbers, texts, equality -/
def aint (op : BinOp) (k : IntKind) (a b : Int) : Option Value :=
  match op with
  | .add => some (.int k (k.wrap (a + b)))
  | .sub => some (.int k (k.wrap (a - b)))
  | .mul => some (.int k (k.wrap (a * b)))
  | .quo => if b = 0 then none else some (.int k (k.wrap (a.tdiv b)))
  | .rem => if b = 0 then none else some (.int k (a.tmod b))
  | .and => some (.int k (k.wrap (BitVec.ofInt k.bits a &&& BitVec.ofInt k.bits b).toNat))
  | .or => some (.int k (k.wrap (BitVec.ofInt k.bits a ||| BitVec.ofInt k.bits b).toNat))
  | .xor => some (.int k (k.wrap (BitVec.ofInt k.bits a ^^^ BitVec.ofInt k.bits b).toNat))
  | .andNot => some (.int k (k.wrap (BitVec.ofInt k.bits a &&& ~~~BitVec.ofInt k.bits b).toNat))
  | .eql => some (.bool (decide (a = b)))
  | .neq => some (.bool (!decide (a = b)))
  | .lss => some (.bool (decide (a < b)))
  | .leq => some (.bool (decide (a ≤ b)))
  | .gtr => some (.bool (decide (b < a)))
  | .geq => some (.bool (decide (b ≤ a)))
  | _ => none
def ashift (op : BinOp) (k : IntKind) (a b : Int) : Option Value :=
  if b < 0 then none else
  match op with
  | .shl => some (.int k (k.wrap (a * 2 ^ (min b.toNat k.bits))))
  | .shr => some (.int k (a.fdiv (2 ^ (min b.toNat k.bits))))
  | _ => none
def astr (op : BinOp) (x y : ByteArray) : Option Value :=
  match op with
  | .add => if x.size + y.size < 9223372036854775808 then some (.string (x ++ y)) else none
  | .eql => some (.bool (seq x y))
  | .neq => some (.bool (!seq x y))
  | .lss => some (.bool (Op.bytesLess x.data.toList y.data.toList))
  | .leq => some (.bool (Op.bytesLess x.data.toList y.data.toList || seq x y))
  | .gtr => some (.bool (!(Op.bytesLess x.data.toList y.data.toList || seq x y)))
  | .geq => some (.bool (!Op.bytesLess x.data.toList y.data.toList))
  | _ => none
/-- A part of a struct's or an array's cells. -/
def apart (t : TypeId) (cs : List Value) (o : Nat) : Option Value :=
  match E.ty t with
  | some i => if isAggD i.desc then some (.agg ⟨(cs.drop o).take i.size⟩) else cs[o]?
  | none => none
def aeqs (eq : TypeId → Value → Value → Option Bool) : List Field → List Value → List Value → Option Bool
  | [], _, _ => some true
  | f :: fs, xs, ys =>
    if f.name = "_" then aeqs eq fs xs ys else
    match apart E f.type xs f.offset, apart E f.type ys f.offset with
    | some a, some b =>
      match eq f.type a b with
      | some true => aeqs eq fs xs ys
      | some false => some false
      | none => none
    | _, _ => none
def aeq : Nat → TypeId → Value → Value → Option Bool
  | 0, _, _, _ => none
  | d + 1, t, x, y =>
    match E.ty t with
    | none => none
    | some i =>
      match i.desc, x, y with
      | .bool, .bool a, .bool b => some (a == b)
      | .int _, .int k a, .int k' b => if k = k' then some (decide (a = b)) else none
      | .string, .string a, .string b => some (seq a b)
      | .pointer _, .pointer none, .pointer none => some true
      | .pointer _, .pointer none, .pointer (some _) => some false
      | .pointer _, .pointer (some _), .pointer none => some false
      | .slice _, .slice none _ _, .slice none _ _ => some true
      | .slice _, .slice none _ _, .slice (some _) _ _ => some false
      | .slice _, .slice (some _) _ _, .slice none _ _ => some false
      | .map _ _, .map none, .map none => some true
      | .map _ _, .map none, .map (some _) => some false
      | .map _ _, .map (some _), .map none => some false
      | .func _ _ _, .nilFunc, .nilFunc => some true
      | .func _ _ _, .nilFunc, .func _ _ _ => some false
      | .func _ _ _, .func _ _ _, .nilFunc => some false
      | .interface _, .nilIface, .iface _ _ => some false
      | .interface _, .iface _ _, .nilIface => some false
      | .struct fs, .agg xs, .agg ys => if i.eqok then aeqs E (aeq d) fs.toList xs.toList ys.toList else none
      | _, _, _ => none
def isConstO : Operand → Bool
  | .const _ => true
  | _ => false
def aiface (t : TypeId) : Bool :=
  match E.ty t with
  | some i => (match i.desc with | .interface _ => true | _ => false)
  | none => false
def abin (op : BinOp) (t : TypeId) (cx : Bool) (x y : Value) : Option Value :=
  match x, y with
  | .int k a, .int k' b =>
    match op with
    | .shl | .shr => ashift op k a b
    | _ => if k = k' then aint op k a b else none
  | .string a, .string b => astr op a b
  | .nilIface, .nilIface =>
    if cx && aiface E t then
      match op with
      | .eql => some (.bool true)
      | .neq => some (.bool false)
      | _ => none
    else none
  | x, y =>
    match op with
    | .eql => (aeq E 20 t x y).map .bool
    | .neq => (aeq E 20 t x y).map fun b => .bool (!b)
    | _ => none
def aun (op : UnOp) (x : Value) : Option Value :=
  match op, x with
  | .neg, .int k n => some (.int k (k.wrap (0 - n)))
  | .xor, .int k n => aint .xor k (if k.signed then -1 else k.max) n
  | .not, .bool b => some (.bool !b)
  | _, _ => none

/-! ### Conversions -/
def bytesOf (s : ByteArray) : List Value := s.data.toList.map fun b => .int .u8 b.toNat
def unbytes : List Value → Option (List UInt8)
  | [] => some []
  | .int .u8 n :: vs =>
    match unbytes vs with
    | some l => some (UInt8.ofNat n.toNat :: l)
    | none => none
  | _ => none
def aconv (src dst : TypeId) (x : Value) (H : AHeap) : Option (Value × AHeap) :=
  match E.ty src, E.ty dst with
  | some i, some j =>
    match i.desc, j.desc, x with
    | _, .int k, .int _ n => some (.int k (k.wrap n), H)
    | _, .string, .string s => some (.string s, H)
    | _, .slice e, .string s =>
      match E.ty e with
      | some ei =>
        match ei.desc with
        | .int .u8 => if ei.size = 1 ∧ s.size ≤ 9223372036854775807 then some (.slice (some ⟨H.size, 0, none⟩) s.size s.size, H.push (.cells (bytesOf s) ⟨1, some e, false⟩ .live [])) else none
        | _ => none
      | none => none
    | .slice e, .string, .slice none _ _ =>
      match E.ty e with
      | some ei => (match ei.desc with | .int .u8 => some (.string .empty, H) | _ => none)
      | none => none
    | .slice e, .string, .slice (some ⟨b, o, none⟩) n _ =>
      match E.ty e with
      | some ei =>
        (match ei.desc with
        | .int .u8 =>
          match (if n = 0 then some [] else rd H b o n) with
          | some cs =>
            match unbytes cs with
            | some l => some (.string ⟨⟨l⟩⟩, H)
            | none => none
          | none => none
        | _ => none)
      | none => none
    | _, _, _ => none
  | _, _ => none

/-! ### Slices, indexes, fields -/
def abound (d : Nat) : Option Value → Option Nat
  | none => some d
  | some (.int _ n) => if 0 ≤ n then some n.toNat else none
  | _ => none
/-- Do elements of this size stand in that block? -/
def strided (H : AHeap) (b sz : Nat) : Bool :=
  match H.get b with
  | some (.cells _ t _ _) => t.sz == sz
  | _ => false
def aslice (t : TypeId) (x : Value) (lo hi : Option Value) (H : AHeap) : Option Value :=
  match E.ty t with
  | none => none
  | some i =>
    match i.desc, x with
    | .string, .string s =>
      match abound 0 lo, abound s.size hi with
      | some l, some h => if l ≤ h ∧ h ≤ s.size then some (.string (s.extract l h)) else none
      | _, _ => none
    | .slice e, .slice none _ _ =>
      match E.ty e, abound 0 lo, abound 0 hi with
      | some _, some 0, some 0 => some (.slice none 0 0)
      | _, _, _ => none
    | .slice e, .slice (some ⟨b, o, none⟩) n c =>
      match asize E e, abound 0 lo, abound n hi with
      | some sz, some l, some h => if l ≤ h ∧ h ≤ c ∧ strided H b sz = true then some (.slice (some ⟨b, o + l * sz, none⟩) (h - l) (c - l)) else none
      | _, _, _ => none
    | _, _ => none
def afieldAddr (t : TypeId) (x : Value) (f : Nat) : Option Value :=
  match E.ty t, x with
  | some i, .pointer (some ⟨b, o, none⟩) =>
    match i.desc with
    | .struct fs =>
      match fs[f]? with
      | some fd =>
        match asize E fd.type with
        | some (_ + 1) => some (.pointer (some ⟨b, o + fd.offset, none⟩))
        | _ => none
      | none => none
    | _ => none
  | _, _ => none
def afield (t : TypeId) (x : Value) (f : Nat) : Option Value :=
  match E.ty t, x with
  | some i, .agg cs =>
    match i.desc with
    | .struct fs =>
      match fs[f]? with
      | some fd => apart E fd.type cs.toList fd.offset
      | none => none
    | _ => none
  | _, _ => none
def aindexAddr (t : TypeId) (x ix : Value) : Option Value :=
  match E.ty t, ix with
  | some i, .int _ n =>
    match i.desc, x with
    | .slice e, .slice (some ⟨b, o, none⟩) len _ =>
      match asize E e with
      | some sz => if 0 ≤ n ∧ n < len then some (.pointer (some ⟨b, o + n.toNat * sz, none⟩)) else none
      | none => none
    | .array len e, .pointer (some ⟨b, o, none⟩) =>
      match asize E e with
      | some sz => if 0 ≤ n ∧ n < len then some (.pointer (some ⟨b, o + n.toNat * sz, none⟩)) else none
      | none => none
    | _, _ => none
  | _, _ => none
def aindex (t : TypeId) (x ix : Value) : Option Value :=
  match E.ty t, ix with
  | some i, .int _ n =>
    match i.desc, x with
    | .string, .string s => if 0 ≤ n then (match s.data.toList[n.toNat]? with | some b => some (.int .u8 b.toNat) | none => none) else none
    | .array len e, .agg cs =>
      match asize E e with
      | some sz => if 0 ≤ n ∧ n < len then apart E e cs.toList (n.toNat * sz) else none
      | none => none
    | _, _ => none
  | _, _ => none

/-! ### Made values -/
def afill (place : Nat → Option (Nat × Nat)) (cells : List Value) : List (Nat × Value) → Option (List Value)
  | [] => some cells
  | (k, v) :: rest =>
    match place k with
    | none => none
    | some (o, n) =>
      match acells v with
      | none => none
      | some cs => if cs.length = n ∧ o + cs.length ≤ cells.length then afill place (splice cells o cs) rest else none
def aplace (fs : Array Field) (k : Nat) : Option (Nat × Nat) :=
  match fs[k]? with
  | some f =>
    match asize E f.type with
    | some n => some (f.offset, n)
    | none => none
  | none => none
def abuild (t : TypeId) (parts : List (Nat × Value)) : Option Value :=
  match E.ty t with
  | none => none
  | some i =>
    match i.zero with
    | none => none
    | some z =>
      match i.desc with
      | .struct fs =>
        match afill (aplace E fs) z.cells.toList parts with
        | some cs => some (.agg ⟨cs⟩)
        | none => none
      | .array _ e =>
        match asize E e with
        | some sz =>
          match afill (fun k => some (k * sz, sz)) z.cells.toList parts with
          | some cs => some (.agg ⟨cs⟩)
          | none => none
        | none => none
      | _ => none
def azeros (z : List Value) : Nat → List Value
  | 0 => []
  | n + 1 => z ++ azeros z n
def abuildSlice (t : TypeId) (len : Nat) (parts : List (Nat × Value)) (H : AHeap) : Option (Value × AHeap) :=
  match E.ty t with
  | none => none
  | some i =>
    match i.desc with
    | .slice e =>
      match E.ty e with
      | none => none
      | some ei =>
        match ei.zero with
        | none => none
        | some z =>
          match acells z with
          | none => none
          | some zc =>
            if zc.length = ei.size ∧ len * ei.size ≤ 16777216 ∧ len ≤ 16777216 then
              match afill (fun k => some (k * ei.size, ei.size)) (azeros zc len) parts with
              | some cs => some (.slice (some ⟨H.size, 0, none⟩) len len, H.push (.cells cs ⟨ei.size, some e, true⟩ .live []))
              | none => none
            else none
    | _ => none
def amakeSlice (t : TypeId) (len cap : Value) (H : AHeap) : Option (Value × AHeap) :=
  match E.ty t, len, cap with
  | some i, .int k l, .int k' c =>
    match i.desc with
    | .slice e =>
      match E.ty e with
      | none => none
      | some ei =>
        match ei.zero with
        | none => none
        | some z =>
          match acells z with
          | none => none
          | some zc =>
            if zc.length = ei.size ∧ 0 ≤ l ∧ l ≤ c ∧ c * ei.bytes ≤ 140737488355328 ∧ c < 9223372036854775808 then
              some (.slice (some ⟨H.size, 0, none⟩) l.toNat c.toNat, H.push (.cells (azeros zc c.toNat) ⟨ei.size, some e, true⟩ .live []))
            else none
    | _ => none
  | _, _, _ => none

/-! ### append, copy, len, max, min -/
def asrc (sz : Nat) (x : Value) (H : AHeap) : Option (Nat × List Value) :=
  match x with
  | .slice none 0 0 => some (0, [])
  | .slice (some ⟨b, o, none⟩) n _ =>
    if n = 0 then some (0, []) else
    match rd H b o (n * sz) with
    | some cs => some (n, cs)
    | none => none
  | .string s => if sz = 1 then some (s.size, bytesOf s) else none
  | _ => none
/-- What an append appends: a slice's or a text's elements, or (append(s, make(..)...)) so many zeros. -/
def aadd (xt : TypeId) (ei : TyI) (z : Value) (x : Value) (H : AHeap) : Option (Nat × List Value) :=
  match E.ty xt with
  | none => none
  | some xi =>
    match xi.desc with
    | .int _ =>
      match x with
      | .int _ l =>
        if 0 ≤ l ∧ l * ei.bytes ≤ 140737488355328 ∧ l < 4611686018427387904 then
          match acells z with
          | some zc => some (l.toNat, azeros zc l.toNat)
          | none => none
        else none
      | _ => none
    | .slice _ => asrc ei.size x H
    | .string => asrc ei.size x H
    | _ => none
def aappend (st xt : TypeId) (s x : Value) (H : AHeap) : Option (Value × AHeap) :=
  match E.ty st with
  | none => none
  | some i =>
    match i.desc with
    | .slice e =>
      match E.ty e with
      | none => none
      | some ei =>
        match ei.zero with
        | none => none
        | some z =>
          match aadd E xt ei z x H with
          | none => none
          | some (m, new) =>
            match s with
            | .slice none 0 0 =>
              if m = 0 then some (s, H)
              else if m * ei.bytes ≤ 140737488355328 ∧ m < 4611686018427387904 then
                some (.slice (some ⟨H.size, 0, none⟩) m m, H.push (.cells new ⟨ei.size, some e, true⟩ .live []))
              else none
            | .slice (some ⟨b, o, none⟩) n c =>
              if m = 0 then some (s, H)
              else if n + m ≤ c then
                if strided H b ei.size then
                  match wr H b (o + n * ei.size) new with
                  | some H' => some (.slice (some ⟨b, o, none⟩) (n + m) c, H')
                  | none => none
                else none
              else
                match H.get b with
                | some (.cells cs t .live anc) =>
                  if (t.sz = ei.size ∧ (t.el = none ∨ t.el = some e)) ∧ o + c * t.sz = cs.length ∧ n ≤ c ∧ (n + m) * ei.bytes ≤ 140737488355328 ∧ n + m < 4611686018427387904 then
                    some (.slice (some ⟨H.size, 0, none⟩) (n + m) (n + m),
                      (taken H b cs t anc (n == c)).push (.cells ((cs.drop o).take (n * t.sz) ++ new) t .live (takenAnc b anc (n == c))))
                  else none
                | _ => none
            | _ => none
    | _ => none
def acopy (st : TypeId) (s x : Value) (H : AHeap) : Option (Value × AHeap) :=
  match E.ty st with
  | none => none
  | some i =>
    match i.desc with
    | .slice e =>
      match E.ty e with
      | none => none
      | some ei =>
        match s with
        | .slice none 0 0 => (match asrc ei.size x H with | some _ => some (.int .i64 0, H) | none => none)
        | .slice (some ⟨b, o, none⟩) n _ =>
          match asrc ei.size x H with
          | some (m, cs) =>
            if min m n = 0 then some (.int .i64 0, H) else
            match wr H b o (cs.take (min m n * ei.size)) with
            | some H' => some (.int .i64 (min m n : Nat), H')
            | none => none
          | none => none
        | _ => none
    | _ => none
def alen (t : TypeId) (x : Value) (H : AHeap) : Option Value :=
  match E.ty t with
  | none => none
  | some i =>
    match i.desc, x with
    | .string, .string s => some (.int .i64 s.size)
    | .slice _, .slice _ n _ => some (.int .i64 n)
    | .array n _, _ => some (.int .i64 n)
    | .map _ _, .map none => some (.int .i64 0)
    | .map _ _, .map (some b) =>
      match H.get b with
      | some (.map es _ _) => some (.int .i64 es.length)
      | _ => none
    | _, _ => none
def amax2 : Value → Value → Option Value
  | .int k x, .int k' y => some (.int k (if y > x then y else x))
  | _, _ => none
def amin2 : Value → Value → Option Value
  | .int k x, .int k' y => some (.int k (if y < x then y else x))
  | _, _ => none
def afold (f : Value → Value → Option Value) : Value → List Value → Option Value
  | x, [] => some x
  | x, y :: l =>
    match f x y with
    | some z => afold f z l
    | none => none

/-! ### Maps (keys: whole numbers, texts, bools) -/
def akeyeq (d : TypeDesc) (x y : Value) : Option Bool :=
  match d, x, y with
  | .int _, .int k a, .int k' b => if k = k' then some (decide (a = b)) else none
  | .string, .string a, .string b => some (seq a b)
  | .bool, .bool a, .bool b => some (a == b)
  | _, _, _ => none
/-- The place of a key. -/
def afind (d : TypeDesc) (k : Value) : List (Value × Value) → Nat → Option (Option (Nat × Value))
  | [], _ => some none
  | (k', v) :: es, i =>
    match akeyeq d k k' with
    | some true => some (some (i, v))
    | some false => afind d k es (i + 1)
    | none => none
def akey (d : TypeDesc) (k : Value) : Bool :=
  match d, k with
  | .int _, .int .. | .string, .string _ | .bool, .bool _ => true
  | _, _ => false
def alookup (t : TypeId) (x k : Value) (ok : Bool) (H : AHeap) : Option Value :=
  match E.ty t with
  | none => none
  | some i =>
    match i.desc with
    | .map kt et =>
      match E.ty kt, azero E et with
      | some ki, some z =>
        match (match x with
          | .map none => some []
          | .map (some b) => (match H.get b with | some (.map es _ _) => some es | _ => none)
          | _ => none) with
        | none => none
        | some es =>
          if akey ki.desc k then
            match afind ki.desc k es 0 with
            | some (some (_, v)) => some (if ok then .tuple #[v, .bool true] else v)
            | some none => some (if ok then .tuple #[z, .bool false] else z)
            | none => none
          else none
      | _, _ => none
    | _ => none
def aupdate (t : TypeId) (x k v : Value) (H : AHeap) : Option AHeap :=
  match E.ty t, x with
  | some i, .map (some b) =>
    match i.desc with
    | .map kt _ =>
      match E.ty kt, H.get b with
      | some ki, some (.map es bs .live) =>
        if akey ki.desc k then
          match afind ki.desc k es 0 with
          | some (some (j, _)) => some (H.set b (.map (es.set j (k, v)) bs .live))
          | some none => some (H.set b (.map (es ++ [(k, v)]) (bs.1 ++ [bs.2], bs.2 + 1) .live))
          | none => none
        else none
      | _, _ => none
    | _ => none
  | _, _ => none
def adelete (t : TypeId) (x k : Value) (H : AHeap) : Option AHeap :=
  match E.ty t with
  | none => none
  | some i =>
    match i.desc with
    | .map kt _ =>
      match E.ty kt with
      | none => none
      | some ki =>
        if akey ki.desc k then
          match x with
          | .map none => some H
          | .map (some b) =>
            match H.get b with
            | some (.map es bs .live) =>
              match afind ki.desc k es 0 with
              | some (some (j, _)) => some (H.set b (.map (es.eraseIdx j) (bs.1.eraseIdx j, bs.2) .live))
              | some none => some H
              | none => none
            | _ => none
          | _ => none
        else none
    | _ => none

/-! ### One operation (no call of a Go function) -/
def aiter (v : Value) (H : AHeap) : Option (Value × AHeap) :=
  match v with
  | .string s => some (.pointer (some ⟨H.size, 0, none⟩), H.push (.siter s 0))
  | _ => none
def aop (ev : Operand → Value) (op : Op) (H : AHeap) : Option (Value × AHeap) :=
  match op with
  | .move x | .assign x => some (ev x, H)
  | .pick c a b =>
    match ev c with
    | .bool t => some (if t then ev a else ev b, H)
    | _ => none
  | .alloc t =>
    match azero E t with
    | some z => anew z H
    | none => none
  | .box t x => anew (ev x) H
  | .build t ps =>
    match abuild E t (ps.toList.map fun p => (p.1, ev p.2)) with
    | some v => some (v, H)
    | none => none
  | .buildSlice t n ps => abuildSlice E t n (ps.toList.map fun p => (p.1, ev p.2)) H
  | .load t a =>
    match aload E t (ev a) H with
    | some v => some (v, H)
    | none => none
  | .store t a x =>
    match astore E t (ev a) (ev x) H with
    | some H' => some (.tuple #[], H')
    | none => none
  | .nilCheck x =>
    match ev x with
    | .pointer (some a) => some (.pointer (some a), H)
    | .iface t v => some (.iface t v, H)
    | _ => none
  | .binOp op t x y _ =>
    match abin E op t (isConstO x || isConstO y) (ev x) (ev y) with
    | some v => some (v, H)
    | none => none
  | .unOp op _ x =>
    match aun op (ev x) with
    | some v => some (v, H)
    | none => none
  | .convert s d x => aconv E s d (ev x) H
  | .makeInterface t x =>
    match E.ty t with
    | some i => if aiface E t then none else some (.iface t (ev x), H)
    | none => none
  | .makeFunc fn fs cs => some (.func fn (fs.map ev) (cs.map ev), H)
  | .makeMap t none => some (.map (some H.size), H.push (.map [] ([], 0) .live))
  | .makeSlice t l c => amakeSlice E t (ev l) (ev c) H
  | .slice t x lo hi none =>
    match aslice E t (ev x) (lo.map ev) (hi.map ev) H with
    | some v => some (v, H)
    | none => none
  | .fieldAddr t x f =>
    match afieldAddr E t (ev x) f with
    | some v => some (v, H)
    | none => none
  | .field t x f =>
    match afield E t (ev x) f with
    | some v => some (v, H)
    | none => none
  | .indexAddr t x i =>
    match aindexAddr E t (ev x) (ev i) with
    | some v => some (v, H)
    | none => none
  | .index t x i =>
    match aindex E t (ev x) (ev i) with
    | some v => some (v, H)
    | none => none
  | .lookup t x k ok =>
    match alookup E t (ev x) (ev k) ok H with
    | some v => some (v, H)
    | none => none
  | .mapUpdate t m k x | .insert t m k x =>
    match aupdate E t (ev m) (ev k) (ev x) H with
    | some H' => some (.tuple #[], H')
    | none => none
  | .extract x i =>
    match ev x with
    | .tuple vs =>
      match vs[i]? with
      | some v => some (v, H)
      | none => none
    | _ => none
  | .call ⟨.builtin .append, args, ts⟩ =>
    match args[0]?, args[1]?, ts[0]?, ts[1]? with
    | some s, some x, some st, some xt => aappend E st xt (ev s) (ev x) H
    | _, _, _, _ => none
  | .call ⟨.builtin .copy, args, ts⟩ =>
    match args[0]?, args[1]?, ts[0]? with
    | some s, some x, some st => acopy E st (ev s) (ev x) H
    | _, _, _ => none
  | .call ⟨.builtin .len, args, ts⟩ =>
    match args[0]?, ts[0]? with
    | some x, some t =>
      match alen E t (ev x) H with
      | some v => some (v, H)
      | none => none
    | _, _ => none
  | .call ⟨.builtin .delete, args, ts⟩ =>
    match args[0]?, args[1]?, ts[0]? with
    | some m, some k, some t =>
      match adelete E t (ev m) (ev k) H with
      | some H' => some (.tuple #[], H')
      | none => none
    | _, _, _ => none
  | .call ⟨.builtin .max, args, _⟩ =>
    match args.toList with
    | x :: y :: l =>
      match afold amax2 (ev x) ((y :: l).map ev) with
      | some v => some (v, H)
      | none => none
    | _ => none
  | .call ⟨.builtin .min, args, _⟩ =>
    match args.toList with
    | x :: y :: l =>
      match afold amin2 (ev x) ((y :: l).map ev) with
      | some v => some (v, H)
      | none => none
    | _ => none
  | _ => none
/-- The function that a call enters, and its arguments. -/
def acallee (ev : Operand → Value) (c : Call) : Option (FuncId × List Value) :=
  match c.callee with
  | .value f =>
    match ev f with
    | .func (.func g) first captured => some (g, first.toList ++ (c.args.toList.map ev ++ captured.toList))
    | _ => none
  | _ => none
end
end Go.Ev
