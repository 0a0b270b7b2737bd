/-
  The evaluator of closed runs: its data, its heap, its operations, and the first part of its soundness. No condition.
-/
import GoSem.Step
import Derived.Laws.Sem
import Derived.Calls
import Derived.Orders
import Derived.Laws.Cells
set_option linter.all false
namespace Go.Ev

/-! ## Tables by number -/
inductive Tr (α : Type) where
  | nil
  | node (o : Option α) (l r : Tr α)

def Tr.get {α : Type} : Tr α → Nat → Option α
  | .nil, _ => none
  | .node o l r, n => cond (Nat.beq n 0) o (cond (Nat.beq (n % 2) 1) (l.get (n / 2)) (r.get (n / 2 - 1)))

def Tr.setF {α : Type} (v : Option α) : Nat → Tr α → Nat → Tr α
  | 0, t, _ => t
  | f + 1, .nil, n => cond (Nat.beq n 0) (.node v .nil .nil) (cond (Nat.beq (n % 2) 1) (.node none (Tr.setF v f .nil (n / 2)) .nil) (.node none .nil (Tr.setF v f .nil (n / 2 - 1))))
  | f + 1, .node o l r, n => cond (Nat.beq n 0) (.node v l r) (cond (Nat.beq (n % 2) 1) (.node o (Tr.setF v f l (n / 2)) r) (.node o l (Tr.setF v f r (n / 2 - 1))))

def Tr.set {α : Type} (t : Tr α) (n : Nat) (v : Option α) : Tr α := t.setF v (n + 1) n

/-! ## Objects and heaps -/
inductive AO where
  | cells (c : Array Value) (elem : TypeId) (opn : Bool) (fz : Bool)
  | map (es : Array MapEntry) (clock : Nat)
  | mapIter (m : Option Nat) (since : Nat) (seen : Array Nat) (stepped : Nat)
  | strIter (s : ByteArray) (pos : Nat)
  | loop (state : LoopState) (pending : Option Code) (fn : FuncId) (tmps : Tr Value) (nt : Nat) (params : Array Tmp) (assign body : Code) (defers : Nat)
  | deferred (calls : Option (List Deferred))

structure AH where
  t : Tr AO
  next : Nat

def AH.get (h : AH) (k : Nat) : Option AO := h.t.get k
def AH.put (h : AH) (k : Nat) (o : AO) : AH := { h with t := h.t.set k (some o) }
def AH.kill (h : AH) (k : Nat) : AH := { h with t := h.t.set k none }
def AH.new (h : AH) (o : AO) : AH := { t := h.t.set h.next (some o), next := h.next + 1 }

/-- Slices whose room the evaluator does not know: 'big' and the room that is there at least. -/
def big : Nat := 2 ^ 64

/-! ## Values without addresses -/
mutual
def plainV : Value → Bool
  | .bool _ | .int .. | .float .. | .complex .. | .string _ => true
  | .pointer a => a.isNone
  | .slice a _ _ => a.isNone
  | .map r | .chan r => r.isNone
  | .func (.yield _) _ _ => false
  | .func _ a b => plainA a && plainA b
  | .nilFunc | .nilIface => true
  | .iface _ v => plainV v
  | .agg a | .tuple a => plainA a
def plainA : Array Value → Bool
  | ⟨l⟩ => plainL l
def plainL : List Value → Bool
  | [] => true
  | v :: l => plainV v && plainL l
end

/-- What a computation gives that looks at the program alone. -/
def semPure {α : Type} (P : Program) : Sem α → Option α
  | .pure a => some a
  | .program k => semPure P (k P)
  | .mark _ k => semPure P k
  | .choose q k => cond q.forced (semPure P (k 0)) none
  | _ => none

end Go.Ev
namespace Go.Ev

/-- What an operation gives. -/
inductive OpR where
  | val (v : Value) (h : AH)
  | skip (h : AH)
  | enter (f : FuncId) (args : Array Value)
  | defer (d : Deferred)
  | recover
  | round (l : Nat) (fn : FuncId) (t : Tr Value) (nt : Nat) (a b : Code)
  | panic (v : Value) (h : AH)
  | pick (n : Nat) (f : Nat → Option (Value × AH))

abbrev Ev := Operand → Option Value

inductive End where
  | returned (v : Value)
  | panicked (chain : List PanicEntry)

/-- What the evaluator is told of the program: functions that may be entered (they have bodies), the library's own ones that it stands in for. -/
structure Cfg where
  P : Program
  base : Nat            -- blocks below this number are not written
  sum : FuncId → List Value → Option Value   -- functions of the library that are proved elsewhere
  ext : FuncId → Nat    -- 1: IndexByteString, 2: NoEscape, 3: maps.clone
  orc : FuncId → Array Value → AH → Option (End × AH)  -- calls that were carried out elsewhere
  nest : FuncId → Bool  -- carried out in one go: the orders of maps within are joined behind it

def evAll (ev : Ev) : List Operand → Option (List Value)
  | [] => some []
  | x :: l => match ev x with
    | some v => match evAll ev l with
      | some vs => some (v :: vs)
      | none => none
    | none => none

def evArr (ev : Ev) (xs : Array Operand) : Option (Array Value) := (evAll ev xs.toList).map List.toArray

/-- One cell's value: no struct, no tuple. -/
def oneCell : Value → Bool
  | .agg _ | .tuple _ => false
  | _ => true

def isAggT (P : Program) (t : TypeId) : Option Bool :=
  match P.underlying t with
  | some (.struct _) | some (.array _ _) => some true
  | some _ => some false
  | none => none

/-- The cells of a row. -/
def rowAt (h : AH) (b : Nat) : Option (Array Value × TypeId × Bool × Bool) :=
  match h.get b with
  | some (.cells c e o f) => some (c, e, o, f)
  | _ => none

def loadN (h : AH) (a : Addr) (n : Nat) : Option (Array Value) :=
  match a.spot, rowAt h a.block with
  | none, some (c, _, _, _) => cond (Nat.ble (a.off + n) c.size) (some (c.extract a.off (a.off + n))) none
  | _, _ => none

def aload (C : Cfg) (h : AH) (t : TypeId) : Value → Option Value
  | .pointer (some a) =>
    match isAggT C.P t, C.P.info? t with
    | some true, some i => (loadN h a i.size).map .agg
    | some false, _ =>
      match a.spot, rowAt h a.block with
      | none, some (c, _, _, _) => c[a.off]?
      | _, _ => none
    | _, _ => none
  | _ => none

def setCells (c : Array Value) (i : Nat) : List Value → Array Value
  | [] => c
  | v :: l => setCells (c.setIfInBounds i v) (i + 1) l

def storeN (C : Cfg) (h : AH) (a : Addr) (vs : List Value) : Option AH :=
  match a.spot, rowAt h a.block with
  | none, some (c, e, o, f) =>
    cond (Nat.ble C.base a.block && !f && Nat.ble (a.off + vs.length) c.size && vs.all oneCell)
      (some (h.put a.block (.cells (setCells c a.off vs) e o f))) none
  | _, _ => none

def astore (C : Cfg) (h : AH) (t : TypeId) (p v : Value) : Option AH :=
  match p, C.P.info? t, isAggT C.P t with
  | .pointer (some a), some i, some _ => cond (Nat.beq v.cells.size i.size) (storeN C h a v.cells.toList) none
  | _, _, _ => none

def newRow (h : AH) (elem : TypeId) (cells : Array Value) (opn : Bool) : AH := h.new (.cells cells elem opn false)
def ptr (b : Nat) : Value := .pointer (some ⟨b, 0, none⟩)

def zeroOf (P : Program) (t : TypeId) : Option Value :=
  match P.info? t with
  | some i => match i.zero with
    | some z => cond (plainV z) (some z) none
    | none => none
  | none => none

def sizeT (P : Program) (t : TypeId) : Option Nat := (P.info? t).map (·.size)

/-- An index, if it is an int. -/
def nat? : Value → Option Nat
  | .int _ (.ofNat n) => some n
  | _ => none

/-- The room that a slice has for sure, and whether it is all of it. -/
def roomOf (P : Program) (h : AH) (e : TypeId) : Option Addr → Nat → Option (Nat × Bool)
  | none, c => cond (Nat.blt c big) (some (c, true)) none
  | some a, c => cond (Nat.blt c big) (some (c, true))
      (match rowAt h a.block, sizeT P e with
       | some (cs, e', true, _), some s => cond (Nat.beq e' e && Nat.blt 0 s && Nat.ble (c - big) (cs.size / s)) (some (cs.size / s - (c - big), false)) none
       | _, _ => none)

def lenV : Value → Option Nat
  | .slice _ n _ => some n
  | .string s => some s.size
  | _ => none

/-- The first n elements' cells. -/
def firstN (h : AH) (size n : Nat) : Value → Option (Array Value)
  | .slice (some a) _ _ => loadN h a (n * size)
  | .slice none _ _ => some #[]
  | .string s => some ((s.extract 0 n).data.map fun b => .int .u8 b.toNat)
  | _ => none

/-- What is appended: how many elements, and their cells. -/
def appNew (C : Cfg) (h : AH) (argTypes : Array TypeId) (size bytes : Nat) (zero x : Value) : Option (Nat × Array Value × Bool) :=
  let plain : Option (Nat × Array Value × Bool) := match lenV x with
    | some n => (firstN h size n x).map fun cs => (n, cs, false)
    | none => none
  match argTypes[1]? with
  | none => plain
  | some xt =>
    match C.P.underlying xt with
    | some (.int _) => (match x with
      | .int .i64 (.ofNat l) => cond (Nat.ble (l * bytes) (2 ^ 40)) (some (l, Builtin.zeroCells zero.cells l, true)) none
      | _ => none)
    | some _ => plain
    | none => none

def appPut (C : Cfg) (h : AH) (elem : TypeId) (size bytes : Nat) (base : Option Addr) (sLen sCap : Nat) (new : Array Value) (need room : Nat) (exact : Bool) : Option OpR :=
  cond (Nat.ble need room)
    (cond (Nat.beq new.size 0) (some (.val (.slice base need sCap) h))
      (match base with
       | some a => (storeN C h (a.add (sLen * size)) new.toList).map (OpR.val (.slice base need sCap))
       | none => none))
    (cond (Nat.ble ((2 * need + 1024) * bytes) (2 ^ 40))
      (cond exact
        (match firstN h size sLen (.slice base sLen sCap) with
         | some old => cond (Nat.beq old.size (sLen * size)) (some (.val (.slice (some ⟨h.next, 0, none⟩) need big) (newRow h elem (old ++ new) true))) none
         | none => none)
        (match base with
         | some a =>
           match rowAt h a.block with
           | some (c, e', o, fz) =>
             cond (Nat.beq e' elem && o && Nat.beq a.off ((sCap - big) * size) && a.spot.isNone && Nat.ble C.base a.block && !fz && Nat.ble (a.off + sLen * size) c.size && new.all oneCell)
               (some (.val (.slice (some ⟨h.next, 0, none⟩) need big) (newRow (h.kill a.block) elem (c.extract a.off (a.off + sLen * size) ++ new) true))) none
           | none => none
         | none => none))
      none)

def aappend (C : Cfg) (h : AH) (argTypes : Array TypeId) (args : Array Value) : Option OpR :=
  match argTypes[0]?, args[0]?, args[1]? with
  | some sType, some (Value.slice base sLen sCap), some x =>
    match C.P.underlying sType with
    | some (.slice elem) =>
      match sizeT C.P elem, C.P.info? elem, zeroOf C.P elem with
      | some size, some info, some zero =>
        match appNew C h argTypes size info.bytes zero x, roomOf C.P h elem base sCap with
        | some (n, new, _), some (room, exact) =>
          cond (Nat.blt 0 size && Nat.blt 0 info.bytes && Nat.beq zero.cells.size size && Nat.beq new.size (n * size))
            (appPut C h elem size info.bytes base sLen sCap new (sLen + n) room exact) none
        | _, _ => none
      | _, _, _ => none
    | _ => none
  | _, _, _ => none

def bounds (len room : Nat) (exact : Bool) (lo hi mx : Option Value) : Option (Nat × Nat × Option Nat) :=
  match (match mx with | some v => (nat? v).bind fun m => cond (Nat.ble m room) (some (some m)) none | none => some (cond exact (some room) none)) with
  | some m =>
    match (match hi with | some v => nat? v | none => cond mx.isNone (some len) none) with
    | some h' =>
      cond (Nat.ble h' (m.getD room))
        (match (match lo with | some v => nat? v | none => some 0) with
         | some l => cond (Nat.ble l h') (some (l, h', m)) none
         | none => none) none
    | none => none
  | none => none

def aslice (C : Cfg) (h : AH) (t : TypeId) (x : Value) (lo hi mx : Option Value) : Option Value :=
  match C.P.underlying t, x with
  | some (.slice elem), .slice (some a) len cap =>
    match sizeT C.P elem, roomOf C.P h elem (some a) cap with
    | some size, some (room, exact) =>
      match bounds len room exact lo hi mx with
      | some (l, h', some m) => cond (exact || (Nat.blt m big && Nat.blt 0 room)) (some (.slice (some (if m = l then a else a.add (l * size))) (h' - l) (m - l))) none
      | some (l, h', none) => some (.slice (some (a.add (l * size))) (h' - l) (cap + l))
      | none => none
    | _, _ => none
  | some (.array n elem), .pointer (some a) =>
    match sizeT C.P elem, bounds n n true lo hi mx with
    | some size, some (l, h', some m) => cond (Nat.blt m big) (some (.slice (some (if m = l then a else a.add (l * size))) (h' - l) (m - l))) none
    | _, _ => none
  | _, _ => none

def aindexAddr (C : Cfg) (t : TypeId) (x i : Value) : Option Value :=
  match nat? i, C.P.underlying t, x with
  | some i, some (.array len elem), .pointer (some a) =>
    cond (Nat.blt i len) ((sizeT C.P elem).map fun s => .pointer (some (a.add (i * s)))) none
  | some i, some (.slice elem), .slice (some a) len _ =>
    cond (Nat.blt i len) ((sizeT C.P elem).map fun s => .pointer (some (a.add (i * s)))) none
  | _, _, _ => none

def afieldAddr (C : Cfg) (s : TypeId) (x : Value) (f : Nat) : Option Value :=
  match C.P.underlying s, x with
  | some (.struct fs), .pointer (some a) =>
    match fs[f]? with
    | some f => match sizeT C.P f.type with
      | some (_ + 1) => some (.pointer (some (a.add f.offset)))
      | _ => none
    | none => none
  | _, _ => none

def apart (C : Cfg) (t : TypeId) (cs : Array Value) (off : Nat) : Option Value :=
  match isAggT C.P t, sizeT C.P t with
  | some true, some n => some (.agg (cs.extract off (off + n)))
  | some false, _ => cs[off]?
  | _, _ => none

def afield (C : Cfg) (s : TypeId) (x : Value) (f : Nat) : Option Value :=
  match C.P.underlying s, x with
  | some (.struct fs), .agg cs => (fs[f]?).bind fun f => apart C f.type cs f.offset
  | _, _ => none

/-- Equality where an address stands on one side at least. -/
def aeq (C : Cfg) (t : TypeId) (x y : Value) : Option Bool :=
  match C.P.underlying t, x, y with
  | some (.pointer _), .pointer none, .pointer b => some b.isNone
  | some (.pointer _), .pointer (some _), .pointer none => some false
  | some (.pointer e), .pointer (some a), .pointer (some b) => cond (Nat.beq a.block b.block && (match sizeT C.P e with | some (_ + 1) => true | _ => false)) (some (a == b)) none
  | some (.slice _), .slice none _ _, .slice b _ _ => some b.isNone
  | some (.slice _), .slice (some _) _ _, .slice none _ _ => some false
  | some (.map _ _), .map none, .map b => some b.isNone
  | some (.map _ _), .map (some _), .map none => some false
  | some (.func _ _ _), .nilFunc, .func .. => some false
  | some (.func _ _ _), .func .., .nilFunc => some false
  | some (.interface _), .nilIface, .iface .. => some false
  | some (.interface _), .iface .., .nilIface => some false
  | _, _, _ => none

def keyKind (P : Program) (t : TypeId) : Option TypeDesc :=
  match P.underlying t with
  | some (.int k) => some (.int k)
  | some .string => some .string
  | some .bool => some .bool
  | _ => none

def mapOf (h : AH) : Value → Option (Array MapEntry × Nat)
  | .map (some r) => match h.get r with
    | some (.map es c) => some (es, c)
    | _ => none
  | _ => none

def alookup (C : Cfg) (h : AH) (t : TypeId) (x k : Value) (ok : Bool) : Option Value :=
  match C.P.underlying t with
  | some (.map kt et) =>
    match keyKind C.P kt with
    | some kind =>
      match ((match x with | .map none => some #[] | _ => (mapOf h x).map (·.1)) : Option (Array MapEntry)) with
      | some es =>
        match Instr.findNow kind k es.toList 0 with
        | some (some (_, v)) => some (if ok then .tuple #[v, .bool true] else v)
        | some none => (zeroOf C.P et).map fun z => if ok then .tuple #[z, .bool false] else z
        | none => none
      | none => none
    | none => none
  | _ => none

def amapUpdate (C : Cfg) (h : AH) (t : TypeId) (m k v : Value) : Option AH :=
  match C.P.underlying t, m, mapOf h m with
  | some (.map kt _), .map (some r), some (es, clock) =>
    match keyKind C.P kt with
    | some kind =>
      cond (Nat.ble C.base r && plainV k)
      (match Instr.findNow kind k es.toList 0 with
       | some (some (i, _)) =>
         cond (plainV (((es[i]?).map (·.key)).getD k) && Instr.sameBits 10000 (((es[i]?).map (·.key)).getD k) k) (some (h.put r (.map (es.modify i fun e => { e with key := k, val := v }) clock))) none
       | some none => some (h.put r (.map (es.push { key := k, val := v, born := clock }) (clock + 1)))
       | none => none) none
    | none => none
  | _, _, _ => none

def adelete (C : Cfg) (h : AH) (argTypes : Array TypeId) (args : Array Value) : Option AH :=
  match argTypes[0]?, args[0]?, args[1]? with
  | some t, some (Value.map (some r)), some k =>
    match C.P.underlying t, mapOf h (.map (some r)) with
    | some (.map kt _), some (es, clock) =>
      match keyKind C.P kt with
      | some kind => cond (Nat.ble C.base r)
        (match Instr.findNow kind k es.toList 0 with
         | some (some (i, _)) => some (h.put r (.map (es.eraseIdxIfInBounds i) clock))
         | some none => some (h.put r (.map es clock))
         | none => none) none
      | none => none
    | _, _ => none
  | _, _, _ => none

def aclear (C : Cfg) (h : AH) (argTypes : Array TypeId) (args : Array Value) : Option AH :=
  match argTypes[0]?, args[0]? with
  | some t, some x =>
    match C.P.underlying t, x with
    | some _, .slice (some _) 0 _ => some h
    | some _, .map (some r) => (mapOf h x).bind fun (_, clock) => cond (Nat.ble C.base r) (some (h.put r (.map #[] clock))) none
    | some (.slice e), .slice (some a) n _ => (zeroOf C.P e).bind fun z => storeN C h a (Builtin.zeroCells z.cells n).toList
    | _, _ => none
  | _, _ => none

def acopy (C : Cfg) (h : AH) (argTypes : Array TypeId) (args : Array Value) : Option OpR :=
  match argTypes[0]?, args[0]?, args[1]? with
  | some t, some (Value.slice base dLen _), some src =>
    match C.P.underlying t, lenV src with
    | some (.slice e), some sl =>
      let n := Nat.min sl dLen
      match (sizeT C.P e).bind fun s => firstN h s n src with
      | some cells =>
        match base with
        | some a => (storeN C h a cells.toList).map (OpR.val (goInt n))
        | none => cond (Nat.beq cells.size 0) (some (.val (goInt n) h)) none
      | none => none
    | _, _ => none
  | _, _, _ => none

def alen (C : Cfg) (h : AH) (argTypes : Array TypeId) (args : Array Value) : Option Value :=
  match argTypes[0]?, args[0]? with
  | some t, some x =>
    match C.P.underlying t, x with
    | some (.array n _), _ => some (goInt n)
    | some (.slice _), .slice _ n _ => some (goInt n)
    | some (.map _ _), .map (some _) => (mapOf h x).map fun (es, _) => goInt es.size
    | some (.pointer arr), .pointer _ => match C.P.underlying arr with | some (.array n _) => some (goInt n) | _ => none
    | _, _ => none
  | _, _ => none

def acap (C : Cfg) (argTypes : Array TypeId) (args : Array Value) : Option Value :=
  match argTypes[0]?, args[0]? with
  | some t, some (Value.slice _ _ c) =>
    match C.P.underlying t with
    | some (.slice _) => cond (Nat.blt c big) (some (goInt c)) none
    | _ => none
  | _, _ => none

def bytesOfCells : List Value → ByteArray → Option ByteArray
  | [], s => some s
  | .int .u8 (.ofNat n) :: l, s => bytesOfCells l (s.push (UInt8.ofNat n))
  | _ :: _, _ => none

def aconvert (C : Cfg) (h : AH) (src dst : TypeId) (x : Value) : Option OpR :=
  match C.P.underlying src, C.P.underlying dst, x with
  | some .string, some (.slice e), .string s =>
    match C.P.underlying e with
    | some (.int .u8) =>
      match sizeT C.P e with
      | some sz => cond (Nat.blt s.size (2 ^ 40) && Nat.beq sz 1) (some (.val (.slice (some ⟨h.next, 0, none⟩) s.size big) (newRow h e (s.data.map fun b => .int .u8 b.toNat) true))) none
      | none => none
    | _ => none
  | some (.slice e), some .string, .slice (some a) len _ =>
    match C.P.underlying e with
    | some (.int .u8) => (loadN h a len).bind fun cs => (bytesOfCells cs.toList .empty).map fun s => .val (.string s) h
    | _ => none
  | some (.slice _), some (.slice e), .slice (some a) l c =>
    match C.P.underlying e, rowAt h a.block with
    | some (.int .u8), some (_, _, _, f) => cond (Nat.beq src dst && Nat.ble C.base a.block && !f && Nat.blt 0 l) (some (.val (.slice (some a) l c) h)) none
    | _, _ => none
  | some (.pointer t), some .unsafePointer, .pointer (some a) =>
    match rowAt h a.block, sizeT C.P t with
    | some (c, _, _, _), some (_ + 1) => cond (Nat.blt a.off c.size && a.spot.isNone) (some (.val x h)) none
    | _, _ => none
  | some .unsafePointer, some (.pointer u), .pointer (some a) =>
    match rowAt h a.block with
    | some (c, e, false, _) => cond (liesAt C.P C.P.depth e (c.size / C.P.cellsOf e) a.off u 1 && (sizeT C.P u).isSome) (some (.val x h)) none
    | _ => none
  | _, _, _ => none

/-- Numbers and such: an operation that looks at plain values alone. -/
def aplain (C : Cfg) (ev : Ev) (h : AH) (o : Oper) : Option OpR :=
  cond (o.op.operands.toList.all fun x => (ev x).any plainV)
    (match semPure C.P (execOp (fun x => (ev x).getD undef) o) with
     | some (.value v) => cond (plainV v) (some (.val v h)) none
     | some .skip => some (.skip h)
     | _ => none) none

def aborn (h : AH) (o : AO) : Option OpR := some (.val (ptr h.next) (h.new o))

def anext (h : AH) (base : Nat) (it : Value) (isString : Bool) : Option OpR :=
  match it with
  | .pointer (some ⟨r, 0, _⟩) =>
    cond (Nat.ble base r)
    (match h.get r, isString with
     | some (.strIter s pos), true =>
       if pos < s.size then
         let (c, width) := Utf8.decode s pos
         some (.val (.tuple #[.bool true, goInt pos, .int .i32 c]) (h.put r (.strIter s (pos + width))))
       else some (.val (.tuple #[.bool false]) h)
     | some (.mapIter none _ _ _), false => some (.val (.tuple #[.bool false]) h)
     | some (.mapIter (some m) since seen last), false =>
       match h.get m with
       | some (.map es clock) =>
         cond (!seen.isEmpty && !es.isEmpty && es.all (·.born ≥ last)) none
         (let left := es.filter fun e => !seen.contains e.born
          let old := left.filter (·.born < since)
          let new := left.filter (·.born ≥ since)
          let candidates := (if old.isEmpty then #[none] else #[]) ++ (old ++ new).map some
          let take (n : Nat) : Option (Value × AH) := match candidates[n]? with
            | some (some e) => some (.tuple #[.bool true, e.key, e.val], h.put r (.mapIter (some m) since (seen.push e.born) clock))
            | some none => some (.tuple #[.bool false], h)
            | none => none
          if candidates.size ≤ 1 then (take 0).map fun (v, h) => .val v h else some (.pick candidates.size take))
       | _ => none
     | _, _ => none) none
  | _ => none

def aentry (h : AH) : Value → Option Value
  | .pointer (some ⟨r, 0, _⟩) =>
    match h.get r with
    | some (.mapIter (some m) _ seen stepped) =>
      match seen.back?, h.get m with
      | some stamp, some (.map es clock) =>
        cond (clock != stepped) none ((es.find? (·.born == stamp)).map fun e => .tuple #[e.key, e.val])
      | _, _ => none
    | _ => none
  | _ => none

def aunsafeString (C : Cfg) (h : AH) (argTypes : Array TypeId) (args : Array Value) : Option OpR :=
  match argTypes[0]?, args.toList with
  | some pt, [.pointer (some a), .int _ (.ofNat (n + 1))] =>
    match C.P.underlying pt with
    | some (.pointer e) =>
      match rowAt h a.block, sizeT C.P e with
      | some (c, e', o, _), some sz =>
        cond (Nat.beq e' e && Nat.beq sz 1 && a.spot.isNone && Nat.ble C.base a.block && Nat.blt n (2 ^ 40))
          ((loadN h a (n + 1)).bind fun cs => (bytesOfCells cs.toList .empty).map fun s => .val (.string s) (h.put a.block (.cells c e' o true))) none
      | _, _ => none
    | _ => none
  | _, _ => none

def aunsafeSliceData (C : Cfg) (h : AH) (args : Array Value) : Option OpR :=
  match args.toList with
  | [.slice none _ _] => some (.val (.pointer none) h)
  | [.slice (some a) (_ + 1) c] =>
    cond (Nat.blt c big) (cond (Nat.blt 0 c) (some (.val (.pointer (some a)) h)) none)
      (match rowAt h a.block with
       | some (cs, e, true, _) =>
         match sizeT C.P e with
         | some sz => cond (Nat.beq a.off ((c - big) * sz) && Nat.blt a.off cs.size) (some (.val (.pointer (some a)) h)) none
         | none => none
       | _ => none)
  | _ => none

/-- A function that may be entered. -/
def bodied (P : Program) (f : FuncId) : Bool :=
  match P.funcs[f]? with
  | some fn => fn.body.isSome
  | none => false

def putT (t : Tr Value) (nt : Nat) (dst : Option Tmp) (v : Option Value) : Option (Tr Value) :=
  match dst with
  | none => some t
  | some d => cond (Nat.blt d nt) (some (t.set d v)) none

def putAll (nt : Nat) : List (Tmp × Value) → Tr Value → Option (Tr Value)
  | [], t => some t
  | (d, v) :: l, t => (putT t nt (some d) (some v)).bind (putAll nt l)

def atarget (C : Cfg) (h : AH) (fn : Fn) (captured args : Array Value) : Option OpR :=
  match fn with
  | .func f =>
    match C.ext f with
    | 0 => cond (bodied C.P f) (some (.enter f (args ++ captured))) none
    | 1 => match args.toList, captured.toList with
      | [.string b, .int .u8 (.ofNat c)], [] => (match (List.range b.size).find? fun i => b[i]! == UInt8.ofNat c with | some i => some (.val (goInt i) h) | none => some (.val (goInt (-1)) h))
      | _, _ => none
    | 2 => match args.toList, captured.toList with
      | [x], [] => some (.val x h)
      | _, _ => none
    | 3 => match args.toList, captured.toList with
      | [.iface t (.map (some r))], [] => match h.get r with
        | some (.map es clock) => some (.val (.iface t (.map (some h.next))) (h.new (.map es clock)))
        | _ => none
      | _, _ => none
    | _ => none
  | .yield l =>
    match h.get l with
    | some (.loop _ _ fn t nt ps a b _) =>
      cond (Nat.beq args.size ps.size) ((putAll nt (ps.toList.zip args.toList) t).map fun t => .round l fn t nt a b) none
    | _ => none
  | _ => none

def acall (C : Cfg) (ev : Ev) (h : AH) (o : Oper) (c : Call) : Option OpR :=
  match evArr ev c.args with
  | none => none
  | some args =>
    match c.callee with
    | .value f =>
      match ev f with
      | some (.func fn first captured) => atarget C h fn captured (first ++ args)
      | _ => none
    | .invoke _ _ => none
    | .builtin b =>
      match b with
      | .recover => some .recover
      | .append => aappend C h c.argTypes args
      | .len => (match alen C h c.argTypes args with | some v => some (.val v h) | none => aplain C ev h o)
      | .cap => (acap C c.argTypes args).map (.val · h)
      | .copy => acopy C h c.argTypes args
      | .clear => (aclear C h c.argTypes args).map (.val (.tuple #[]))
      | .delete => (adelete C h c.argTypes args).map (.val (.tuple #[]))
      | .unsafeSliceData => aunsafeSliceData C h args
      | .unsafeString => (match aunsafeString C h c.argTypes args with | some r => some r | none => aplain C ev h o)
      | .panic => (match args[0]? with | some (Value.iface t v) => some (.panic (.iface t v) h) | _ => none)
      | _ => aplain C ev h o

def aop (C : Cfg) (ev : Ev) (h : AH) (o : Oper) : Option OpR :=
  match o.op with
  | .move x | .assign x => (ev x).map (.val · h)
  | .pick c a b => match ev c with
    | some (.bool true) => (ev a).map (.val · h)
    | some (.bool false) => (ev b).map (.val · h)
    | _ => none
  | .alloc t => (zeroOf C.P t).bind fun z => aborn h (.cells z.cells t false false)
  | .box t x => (ev x).bind fun v => aborn h (.cells v.cells t false false)
  | .build t ps =>
    match evArr ev (ps.map (·.2)), zeroOf C.P t with
    | some vs, some z =>
      let parts := (ps.toList.map (·.1)).zip vs.toList
      match C.P.underlying t with
      | some (.struct fs) =>
        match fs.toList.mapM (fun f => (sizeT C.P f.type).map fun s => (f.offset, s)) with
        | some places => (Instr.fill (places[·]?) z.cells parts).map fun cs => .val (.agg cs) h
        | none => none
      | some (.array _ e) => (sizeT C.P e).bind fun s => (Instr.fill (fun i => some (i * s, s)) z.cells parts).map fun cs => .val (.agg cs) h
      | _ => none
    | _, _ => none
  | .buildSlice t n ps =>
    match evArr ev (ps.map (·.2)), C.P.underlying t with
    | some vs, some (.slice e) =>
      match sizeT C.P e, zeroOf C.P e with
      | some s, some z =>
        cond (Nat.ble (n * s) (2 ^ 24) && Nat.blt n big)
        ((Instr.fill (fun i => some (i * s, s)) ((Array.range (n * s)).map (z.cells[· % z.cells.size]!)) ((ps.toList.map (·.1)).zip vs.toList)).map fun cs =>
          .val (.slice (some ⟨h.next, 0, none⟩) n n) (newRow h e cs false)) none
      | _, _ => none
    | _, _ => none
  | .load t a => (ev a).bind fun p => (aload C h t p).map (.val · h)
  | .store t a x => match ev a, ev x with
    | some p, some v => (astore C h t p v).map .skip
    | _, _ => none
  | .nilCheck x => match ev x with
    | some (.pointer (some a)) => some (.val (.pointer (some a)) h)
    | some (.func (.func f) a b) => some (.val (.func (.func f) a b) h)
    | some (.func (.yield f) a b) => some (.val (.func (.yield f) a b) h)
    | some (.slice a l c) => some (.val (.slice a l c) h)
    | some (.map a) => some (.val (.map a) h)
    | _ => none
  | .binOp op t x y _ =>
    match aplain C ev h o with
    | some r => some r
    | none =>
      match op, ev x, ev y with
      | .eql, some a, some b => (aeq C t a b).map fun r => .val (.bool r) h
      | .neq, some a, some b => (aeq C t a b).map fun r => .val (.bool !r) h
      | _, _, _ => none
  | .convert s d x => (ev x).bind fun v =>
    match aconvert C h s d v with
    | some r => some r
    | none => aplain C ev h o
  | .makeInterface t x => match ev x, C.P.underlying t with
    | some _, some (.interface _) => none
    | some v, some _ => some (.val (.iface t v) h)
    | _, _ => none
  | .makeFunc (.func f) a b => match evArr ev a, evArr ev b with
    | some a, some b => some (.val (.func (.func f) a b) h)
    | _, _ => none
  | .makeMap _ none => some (.val (.map (some h.next)) (h.new (.map #[] 0)))
  | .makeMap t (some r) => match C.P.underlying t, ev r with
    | some (.map _ _), some (.int _ _) => some (.val (.map (some h.next)) (h.new (.map #[] 0)))
    | _, _ => none
  | .makeSlice t l c =>
    match C.P.underlying t, (ev l).bind nat?, (ev c).bind nat? with
    | some (.slice e), some l, some c =>
      match sizeT C.P e, zeroOf C.P e, C.P.info? e with
      | some s, some z, some i => cond (Nat.ble l c && Nat.ble (c * (i.bytes + 1)) (2 ^ 40) && Nat.blt 0 (c * s))
          (some (.val (.slice (some ⟨h.next, 0, none⟩) l c) (newRow h e ((Array.range (c * s)).map (z.cells[· % z.cells.size]!)) false))) none
      | _, _, _ => none
    | _, _, _ => none
  | .slice t x lo hi mx =>
    match ev x with
    | none => none
    | some v =>
      let opt (y : Option Operand) : Option (Option Value) := match y with | none => some none | some y => (ev y).map some
      match opt lo, opt hi, opt mx with
      | some lo, some hi, some mx => (match aslice C h t v lo hi mx with
        | some r => some (.val r h)
        | none => aplain C ev h o)
      | _, _, _ => none
  | .fieldAddr s x f => (ev x).bind fun v => (afieldAddr C s v f).map (.val · h)
  | .field s x f => (ev x).bind fun v => (afield C s v f).map (.val · h)
  | .indexAddr t x i => match ev x, ev i with
    | some x, some i => (aindexAddr C t x i).map (.val · h)
    | _, _ => none
  | .lookup t x k ok => match ev x, ev k with
    | some x, some k => (alookup C h t x k ok).map (.val · h)
    | _, _ => none
  | .mapUpdate t m k v | .insert t m k v => match ev m, ev k, ev v with
    | some m, some k, some v => (amapUpdate C h t m k v).map .skip
    | _, _, _ => none
  | .range t x => match ev x, C.P.underlying t with
    | some (.string s), some .string => aborn h (.strIter s 0)
    | some (.map none), some (.map _ _) => aborn h (.mapIter none 0 #[] 0)
    | some (.map (some m)), some (.map _ _) => (match h.get m with | some (.map _ clock) => aborn h (.mapIter (some m) clock #[] clock) | _ => none)
    | _, _ => none
  | .next it s => (ev it).bind fun v => anext h C.base v s
  | .entry it => (ev it).bind fun v => (aentry h v).map (.val · h)
  | .extract t i => match ev t with
    | some (.tuple vs) => (vs[i]?).map (.val · h)
    | _ => none
  | .typeAssert x xt t ok =>
    match aplain C ev h o with
    | some r => some r
    | none =>
      match ev x, C.P.underlying t with
      | some (.iface _ _), some (.interface _) => none
      | some (.iface u v), some _ => cond (Nat.beq u t) (some (.val (if ok then .tuple #[v, .bool true] else v) h)) none
      | _, _ => none
  | .panic x => match ev x with
    | some (.iface t v) => some (.panic (.iface t v) h)
    | _ => none
  | .defer c =>
    match evArr ev c.args, c.callee with
    | some args, .value f => match ev f with
      | some (.func fn first captured) => some (.defer { target := .fn fn captured, args := first ++ args })
      | _ => none
    | _, _ => none
  | .call c => acall C ev h o c
  | .unOp .. => aplain C ev h o
  | .index t x i => match ev x, (ev i).bind nat?, C.P.underlying t with
    | some (.agg cs), some i, some (.array len e) => cond (Nat.blt i len) ((sizeT C.P e).bind fun s => (apart C e cs (i * s)).map (.val · h)) none
    | _, _, _ => aplain C ev h o
  | _ => none

end Go.Ev
namespace Go.Ev

structure AF where
  fn : FuncId
  tmps : Tr Value
  nt : Nat
  todo : List Item
  defers : List Deferred
  mode : FrameMode
  kind : CallKind
  roundOf : Option Nat

structure AS where
  fr : AF
  cs : List AF
  h : AH

inductive AOut where
  | go (s : AS)
  | done (e : End) (h : AH)
  | pick (n : Nat) (f : Nat → Option AS)
  | fail

def evOf (C : Cfg) (t : Tr Value) : Ev
  | .tmp i => t.get i
  | .const v => cond (plainV v) (some v) none
  | .global g => cond (Nat.blt g C.base) (some (.pointer (some ⟨g, 0, none⟩))) none
  | .func f => some (.func (.func f) #[] #[])

def AF.ev (C : Cfg) (f : AF) : Ev := evOf C f.tmps

def argTmps : List Value → Nat → Tr Value → Tr Value
  | [], _, t => t
  | v :: l, i, t => argTmps l (i + 1) (t.set i (some v))

def enterF (C : Cfg) (f : FuncId) (args : Array Value) (kind : CallKind) : Option AF :=
  match C.P.funcs[f]? with
  | some fn => match fn.body with
    | some b => some { fn := f, tmps := argTmps args.toList 0 .nil, nt := args.size + (fn.ntmps - args.size), todo := [.code b], defers := [], mode := .run, kind, roundOf := none }
    | none => none
  | none => none

def finishF (f : AF) (v : Value) : Option AF :=
  match f.todo with
  | .inRegion ops (i :: rest) :: k =>
    (putT f.tmps f.nt ((ops[i]?).bind (·.dst)) (some v)).map fun t => { f with tmps := t, todo := .inRegion ops rest :: k }
  | .inRangeFunc l :: k => some { f with todo := .endRangeFunc l :: k }
  | .beginRound :: k => some { f with todo := k }
  | _ => none

def raiseF (f : AF) (vs : List PanicEntry) : AF :=
  match f.mode with
  | .panicking chain => { f with mode := .panicking (vs ++ chain) }
  | _ => { f with mode := .panicking vs }

def recoverF (f : AF) (cs : List AF) : Option (Value × List AF) :=
  match f.kind, cs with
  | .normal, cs => some (.nilIface, cs)
  | .deferred, c :: rest =>
    match c.mode with
    | .panicking ({ v, recovered := false, goexit := false } :: older) => some (v, { c with mode := .panicking ({ v, recovered := true } :: older) } :: rest)
    | _ => some (.nilIface, c :: rest)
  | _, _ => none

/-! ## Equality of values -/
def eqFn : Fn → Fn → Bool
  | .func a, .func b => Nat.beq a b
  | .yield a, .yield b => Nat.beq a b
  | _, _ => false
def eqAddr : Option Addr → Option Addr → Bool
  | none, none => true
  | some a, some b => Nat.beq a.block b.block && Nat.beq a.off b.off && a.spot.isNone && b.spot.isNone
  | _, _ => false
def eqON : Option Nat → Option Nat → Bool
  | none, none => true
  | some a, some b => Nat.beq a b
  | _, _ => false
mutual
def eqV : Value → Value → Bool
  | .bool a, .bool b => a == b
  | .int j a, .int k b => j == k && a == b
  | .string a, .string b => a.data.toList == b.data.toList
  | .pointer a, .pointer b => eqAddr a b
  | .slice a l c, .slice b m d => eqAddr a b && Nat.beq l m && Nat.beq c d
  | .map a, .map b => eqON a b
  | .func f ⟨a⟩ ⟨b⟩, .func g ⟨c⟩ ⟨d⟩ => eqFn f g && eqL a c && eqL b d
  | .nilFunc, .nilFunc => true
  | .iface t v, .iface u w => Nat.beq t u && eqV v w
  | .nilIface, .nilIface => true
  | .agg ⟨a⟩, .agg ⟨b⟩ => eqL a b
  | .tuple ⟨a⟩, .tuple ⟨b⟩ => eqL a b
  | _, _ => false
def eqL : List Value → List Value → Bool
  | [], [] => true
  | v :: l, w :: m => eqV v w && eqL l m
  | _, _ => false
end

def eqEntries : List MapEntry → List MapEntry → Bool
  | [], [] => true
  | a :: l, b :: m => eqV a.key b.key && eqV a.val b.val && Nat.beq a.born b.born && eqEntries l m
  | _, _ => false

/-- Two objects that are the same (loops and lists of deferred calls are never held for the same). -/
def eqO : AO → AO → Bool
  | .cells ⟨c⟩ e o f, .cells ⟨d⟩ e' o' f' => Nat.beq e e' && (o == o') && (f == f') && eqL c d
  | .map ⟨es⟩ c, .map ⟨es'⟩ c' => Nat.beq c c' && eqEntries es es'
  | .strIter s p, .strIter s' p' => Nat.beq p p' && s.data.toList == s'.data.toList
  | .mapIter m a ⟨l⟩ b, .mapIter m' a' ⟨l'⟩ b' => eqON m m' && Nat.beq a a' && Nat.beq b b' && l == l'
  | _, _ => false

/-- Loops over functions, and lists of deferred calls. -/
def AO.held : AO → Bool
  | .loop .. | .deferred _ => true
  | _ => false

/-- A heap without the loops. -/
def stripT : Tr AO → Tr AO
  | .nil => .nil
  | .node o l r => .node (match o with | some a => cond a.held none (some a) | none => none) (stripT l) (stripT r)

/-- The loops of the first heap, the rest of the second. -/
def overT : Tr AO → Tr AO → Tr AO
  | .nil, t => t
  | .node o l r, .nil => .node (match o with | some a => cond a.held (some a) none | none => none) (overT l .nil) (overT r .nil)
  | .node o l r, .node o' l' r' => .node (match o with | some a => cond a.held (some a) o' | none => o') (overT l l') (overT r r')

def mergeT : Tr AO → Tr AO → Tr AO
  | .node o l r, .node o' l' r' => .node (match o, o' with | some a, some b => cond (eqO a b) (some a) none | _, _ => none) (mergeT l l') (mergeT r r')
  | _, _ => .nil

def mergeE : End → End → Bool
  | .returned v, .returned w => eqV v w
  | _, _ => false

def mergeR : Option (End × AH) → Option (End × AH) → Option (End × AH)
  | some (e, h), some (e', h') => cond (mergeE e e' && Nat.beq h.next h'.next) (some (e, { t := mergeT h.t h'.t, next := h.next })) none
  | _, _ => none

/-- A call carried out in one go. -/
def runCall (C : Cfg) (run : AS → Option (End × AH)) (f : FuncId) (args : Array Value) (h : AH) : Option (End × AH) :=
  match C.sum f args.toList with
  | some v => some (.returned v, h)
  | none =>
    match C.orc f args { t := stripT h.t, next := h.next } with
    | some (e, h') => some (e, { t := overT h.t h'.t, next := h'.next })
    | none =>
      match enterF C f args .normal with
      | none => none
      | some fr =>
        cond (C.nest f)
          (match run { fr, cs := [], h := { t := stripT h.t, next := h.next } } with
           | some (e, h') => some (e, { t := overT h.t h'.t, next := h'.next })
           | none => none)
          (run { fr, cs := [], h })

/-- Functions whose calls are carried out in one go everywhere. -/
def inOne (C : Cfg) (f : FuncId) (args : Array Value) : Bool := C.nest f || (C.sum f args.toList).isSome

/-! ## Regions that draw their order -/
/-- 1: reads at most; 2: an effect; 3: a new variable. -/
def clsOf (P : Program) : Op → Nat
  | .move _ | .assign _ | .pick .. | .build .. | .nilCheck _ | .binOp .. | .unOp .. | .makeInterface .. | .makeFunc .. | .fieldAddr .. | .field .. | .indexAddr .. | .index .. | .extract .. | .typeAssert .. => 1
  | .load .. | .lookup .. | .entry _ | .slice .. => 1
  | .convert _ d _ => match P.underlying d with | some (.slice _) => 2 | _ => 1
  | .call { callee := .builtin .len, .. } | .call { callee := .builtin .cap, .. } => 1
  | .call { callee := .builtin .min, .. } | .call { callee := .builtin .max, .. } | .call { callee := .builtin .unsafeSliceData, .. } => 1
  | .alloc _ => 3
  | _ => 2

structure Slot where
  i : Nat
  o : Oper
  c : Nat          -- class
  b : Nat          -- ancestors, as a number
  looks : List Tmp -- temporaries that are read

def looksOf (ops : Array Oper) (o : Oper) : List Tmp :=
  o.op.operands.toList.filterMap (fun | .tmp t => some t | _ => none) ++
  (match o.guard with
   | some (g, _) => ((ops[g]?).bind (·.dst)).toList
   | none => [])

def slotsOf (P : Program) (ops : Array Oper) (bs : Array Nat) : List Oper → Nat → List Slot
  | [], _ => []
  | o :: l, i => { i, o, c := clsOf P o.op, b := bs.getD i 0, looks := looksOf ops o } :: slotsOf P ops bs l (i + 1)

def memN (n : Nat) : List Nat → Bool
  | [] => false
  | m :: l => Nat.beq m n || memN n l

/-- Of two slots, the first one ahead in the text. -/
def pairOk (all : List Slot) (e f : Slot) : Bool :=
  (match e.o.dst with
   | some t => !memN t f.looks || (f.b.testBit e.i && (!Nat.beq e.c 3 || Nat.beq f.c 2 || all.any fun g => Nat.beq g.c 2 && Nat.blt e.i g.i && f.b.testBit g.i))
   | none => true) &&
  (match f.o.dst with
   | some d => !memN d e.looks && (match e.o.dst with | some d' => !Nat.beq d' d | none => true)
   | none => true) &&
  (!Nat.beq f.c 2 || Nat.blt e.c 2 || f.b.testBit e.i)

def selfOk (s : Slot) : Bool :=
  s.o.after.toList.all (fun e => !Region.binds .any e || Nat.blt e.on s.i) &&
  (match s.o.dst with | some d => !memN d s.looks | none => true) &&
  (!Nat.beq s.c 3 || s.o.guard.isNone)

def rulesOk (all : List Slot) : List Slot → Bool
  | [] => true
  | s :: l => selfOk s && l.all (pairOk all s) && rulesOk all l

def pickT (t : Tr Value) : List Tmp → Tr Value
  | [] => .nil
  | x :: l => (pickT t l).set x (t.get x)

structure Ent where
  s : Slot
  want : Bool
  pt : Tr Value
  v : Value
  pre : AH
  post : AH

inductive EntO where
  | ent (e : Ent)
  | panic (ch : List PanicEntry) (h : AH)

def wantedF (ops : Array Oper) (t : Tr Value) (o : Oper) : Option Bool :=
  match o.guard with
  | none => some true
  | some (j, want) =>
    match (ops[j]?).bind (·.dst) with
    | none => some false
    | some d => match t.get d with
      | some (.bool b) => some (b == want)
      | some _ => some false
      | none => none

def entOf (C : Cfg) (run : AS → Option (End × AH)) (ops : Array Oper) (s : Slot) (t : Tr Value) (cur last : AH) : Option EntO :=
  let pt := pickT t s.looks
  match wantedF ops pt s.o with
  | none => none
  | some false => cond (Nat.beq s.c 3) none (some (.ent { s, want := false, pt, v := undef, pre := cur, post := cur }))
  | some true =>
    let ev := evOf C pt
    cond (Nat.blt s.c 2)
      (match aop C ev last s.o with
       | some (.val v _) => some (.ent { s, want := true, pt, v, pre := cur, post := cur })
       | _ => none)
      (cond (Nat.beq s.c 3)
        (match aop C ev cur s.o with
         | some (.val v h) => some (.ent { s, want := true, pt, v, pre := cur, post := h })
         | _ => none)
        (match aop C ev cur s.o with
         | some (.val v h) => some (.ent { s, want := true, pt, v, pre := cur, post := h })
         | some (.skip h) => some (.ent { s, want := true, pt, v := undef, pre := cur, post := h })
         | some (.enter f args) =>
           (match runCall C run f args cur with
            | some (.returned v, h) => some (.ent { s, want := true, pt, v, pre := cur, post := h })
            | some (.panicked ch, h) => some (.panic ch h)
            | none => none)
         | some (.panic v h) => some (.panic [{ v, recovered := false }] h)
         | _ => none))

inductive RRes where
  | ok (es : List Ent) (t : Tr Value) (h : AH)
  | panic (es : List Ent) (t : Tr Value) (ch : List PanicEntry) (h : AH) (s : Slot) (l : List Slot)

def regionRun (C : Cfg) (run : AS → Option (End × AH)) (ops : Array Oper) (nt : Nat) : List Slot → Tr Value → AH → AH → Option RRes
  | [], t, cur, _ => some (.ok [] t cur)
  | s :: l, t, cur, last =>
    match entOf C run ops s t cur last with
    | none => none
    | some (.panic ch h) => some (.panic [] t ch h s l)
    | some (.ent e) =>
      match putT t nt s.o.dst (some e.v) with
      | none => none
      | some t' =>
        match regionRun C run ops nt l t' e.post (cond (Nat.beq s.c 2) e.post last) with
        | some (.ok es t h) => some (.ok (e :: es) t h)
        | some (.panic es t ch h s l) => some (.panic (e :: es) t ch h s l)
        | none => none

/-- What only reads gives the same at such a heap. -/
def good (C : Cfg) (r : Ent) (h : AH) : Bool :=
  !r.want || (match aop C (evOf C r.pt) h r.s.o with
    | some (.val v _) => (match r.s.o.dst with | some _ => eqV v r.v | none => true)
    | _ => false)

def stab (C : Cfg) (r : Ent) : AH → List Ent → Bool
  | h, [] => good C r h
  | h, g :: gs => (r.s.b.testBit g.s.i || good C r h) && (g.s.b.testBit r.s.i || stab C r g.post gs)

def effsOf (es : List Ent) : List Ent := es.filter fun e => Nat.beq e.s.c 2

def regionLook (C : Cfg) (h : AH) (es : List Ent) : Bool :=
  let gs := effsOf es
  es.all fun r => !Nat.blt r.s.c 2 || stab C r h gs

def forget : List Slot → Tr Value → Tr Value
  | [], t => t
  | s :: l, t => forget l (match s.o.dst with | some d => t.set d none | none => t)

def regionStep (C : Cfg) (run : AS → Option (End × AH)) (s : AS) (ops : Array Oper) (k : List Item) : AOut :=
  let sl := slotsOf C.P ops (Region.before ops) ops.toList 0
  cond (rulesOk sl sl)
    (match regionRun C run ops s.fr.nt sl s.fr.tmps s.h s.h with
     | none => .fail
     | some (.ok es t h) => cond (regionLook C s.h es) (.go { s with fr := { s.fr with tmps := t, todo := k }, h }) .fail
     | some (.panic es t ch h p l) =>
       cond (regionLook C s.h es && Nat.beq p.c 2 && l.all fun x => x.b.testBit p.i) (.go { s with fr := raiseF { s.fr with tmps := forget sl t, todo := .extern "" #[] :: k } ch, h }) .fail) .fail

/-! ## One step -/
def retF (s : AS) (v : Value) : AOut :=
  match s.cs with
  | [] => .fail
  | c :: rest =>
    match s.fr.kind with
    | .normal => match finishF c v with
      | some c => .go { fr := c, cs := rest, h := s.h }
      | none => .fail
    | .deferred =>
      let c := match c.mode with
        | .panicking ({ recovered := true, .. } :: older) =>
          match older.dropWhile (!·.goexit) with
          | [] => { c with mode := .returning }
          | rest => { c with mode := .panicking rest }
        | _ => c
      .go { fr := c, cs := rest, h := s.h }
    | _ => .fail

def leaveF (C : Cfg) (s : AS) (jump : Option Code) : AOut :=
  match s.fr.roundOf with
  | none => match jump with
    | none | some .ret => .go { s with fr := { s.fr with mode := .returning } }
    | _ => .fail
  | some l =>
    match s.h.get l with
    | some (.loop _ _ fn t nt ps a b d) =>
      cond (Nat.ble C.base l) (retF { s with h := s.h.put l (.loop (cond jump.isNone .ready .done) jump fn t nt ps a b d) } (.bool jump.isNone)) .fail
    | _ => .fail

def afterOp (C : Cfg) (run : AS → Option (End × AH)) (s : AS) (r : OpR) : AOut :=
  match r with
  | .val v h => match finishF s.fr v with
    | some f => .go { s with fr := f, h }
    | none => .fail
  | .skip h => match finishF s.fr undef with
    | some f => .go { s with fr := f, h }
    | none => .fail
  | .enter f args =>
    cond (inOne C f args)
      (match runCall C run f args s.h with
       | some (.returned v, h) => match finishF s.fr v with
         | some f => .go { s with fr := f, h }
         | none => .fail
       | some (.panicked ch, h) => .go { s with fr := raiseF s.fr ch, h }
       | none => .fail)
      (match enterF C f args .normal with
       | some fr => .go { fr, cs := s.fr :: s.cs, h := s.h }
       | none => .fail)
  | .defer d => match s.fr.roundOf with
    | none => match finishF { s.fr with defers := d :: s.fr.defers } undef with
      | some f => .go { s with fr := f }
      | none => .fail
    | some _ => .fail
  | .recover => match s.fr.roundOf with
    | none =>
      match recoverF s.fr s.cs with
      | some (v, cs) => (match finishF s.fr v with
        | some f => .go { s with fr := f, cs }
        | none => .fail)
      | none => .fail
    | some _ => .fail
  | .round l fn t nt a b => .go { fr := { fn, tmps := t, nt, todo := [.code a, .beginRound, .code b], defers := [], mode := .run, kind := .normal, roundOf := some l }, cs := s.fr :: s.cs, h := s.h }
  | .panic v h => .go { s with fr := raiseF s.fr [{ v, recovered := false }], h }
  | .pick n f => .pick n fun i => match f i with
    | some (v, h) => (finishF s.fr v).map fun fr => { s with fr, h }
    | none => none

/-- A result, out of its variable. -/
def resA (C : Cfg) (h : AH) (t : Tr Value) (r : ResultVar) : Option Value :=
  match r with
  | .tmp i => t.get i
  | .cell a ty => (t.get a).bind (aload C h ty)

def oneOf (vs : List Value) : Value :=
  match vs with
  | [v] => v
  | _ => .tuple vs.toArray

def unwindF (C : Cfg) (s : AS) : AOut :=
  match s.fr.defers with
  | { target := .collected b, .. } :: ds =>
    match s.h.get b with
    | some (.deferred (some calls)) => cond (Nat.ble C.base b) (.go { s with fr := { s.fr with defers := calls ++ ds }, h := s.h.put b (.deferred none) }) .fail
    | _ => .fail
  | { target := .fn (.func f) captured, args } :: ds =>
    cond (bodied C.P f)
      (match enterF C f (args ++ captured) .deferred with
       | some fr => .go { fr, cs := { s.fr with defers := ds } :: s.cs, h := s.h }
       | none => .fail) .fail
  | _ :: _ => .fail
  | [] =>
    match s.fr.mode with
    | .run => .fail
    | .panicking chain => match s.cs with
      | c :: rest => .go { fr := raiseF c chain, cs := rest, h := s.h }
      | [] => match C.P.funcs[s.fr.fn]? with
        | some _ => .done (.panicked chain) s.h
        | none => .fail
    | .returning =>
      match C.P.funcs[s.fr.fn]? with
      | none => .fail
      | some fn =>
        match fn.results.toList.mapM (resA C s.h s.fr.tmps) with
        | some vs =>
          match s.cs, s.fr.kind with
          | [], .normal => .done (.returned (oneOf vs)) s.h
          | [], _ => .fail
          | _, _ => retF s (oneOf vs)
        | none => .fail

def astep (C : Cfg) (run : AS → Option (End × AH)) (s : AS) : AOut :=
  match s.fr.mode with
  | .run =>
    let to (k : List Item) : AOut := .go { s with fr := { s.fr with todo := k } }
    match s.fr.todo with
    | [] => leaveF C s none
    | .code c :: k =>
      match c with
      | .ret => leaveF C s (some .ret)
      | .skip | .label _ => to k
      | .seq a b => to (.code a :: .code b :: k)
      | .cond c a b => match s.fr.ev C c with
        | some (.bool true) => to (.code a :: k)
        | some (.bool false) => to (.code b :: k)
        | _ => .fail
      | .block id body => to (.code body :: .inBlock id :: k)
      | .loop body => to (.code body :: .inLoop body :: k)
      | .scope body => to (.code body :: .inScope body :: k)
      | .exit id => match exitTo id k with
        | some k => to k
        | none => leaveF C s (some (.exit id))
      | .goto l => match gotoIn l k with
        | some k => to k
        | none => leaveF C s (some (.goto l))
      | .rangeFunc f ps a b =>
        match s.fr.ev C f with
        | some (.func (.func g) first captured) =>
          let (d, h, mark) : Option Nat × AH × List Deferred := match s.fr.roundOf with
            | some l => (match s.h.get l with | some (.loop _ _ _ _ _ _ _ _ d) => (some d, s.h, []) | _ => (none, s.h, []))
            | none => (some s.h.next, s.h.new (.deferred (some [])), [{ target := .collected s.h.next, args := #[] }])
          match d with
          | none => .fail
          | some d =>
            let l := h.next
            let h := h.new (.loop .ready none s.fr.fn s.fr.tmps s.fr.nt ps a b d)
            cond (bodied C.P g)
            (match enterF C g (first ++ #[Value.func (.yield l) #[] #[]] ++ captured) .normal with
             | some fr => .go { fr, cs := { s.fr with todo := .inRangeFunc l :: k, defers := mark ++ s.fr.defers } :: s.cs, h }
             | none => .fail) .fail
        | _ => .fail
      | .region _ ops draw => cond draw (regionStep C run s ops k) (to (.inRegion ops (List.range ops.size) :: k))
      | .refuse _ => .fail
    | .inBlock _ :: k | .inScope _ :: k => to k
    | .inLoop body :: k => to (.code body :: .inLoop body :: k)
    | .inRegion _ [] :: k => to k
    | .inRegion ops (i :: rest) :: k =>
      match ops[i]? with
      | none => .fail
      | some o =>
        match wantedF ops s.fr.tmps o with
        | none => .fail
        | some false => match finishF s.fr undef with
          | some f => .go { s with fr := f }
          | none => .fail
        | some true =>
          match aop C (s.fr.ev C) s.h o with
          | some r => afterOp C run s r
          | none => .fail
    | .beginRound :: k =>
      match s.fr.roundOf with
      | some l => match s.h.get l with
        | some (.loop .ready p fn t nt ps a b d) => cond (Nat.ble C.base l) (.go { s with fr := { s.fr with todo := k }, h := s.h.put l (.loop .busy p fn t nt ps a b d) }) .fail
        | _ => .fail
      | none => .fail
    | .endRangeFunc l :: k =>
      match s.h.get l with
      | some (.loop .busy ..) => .fail
      | some (.loop _ p fn t nt ps a b d) => cond (Nat.ble C.base l) (.go { s with fr := { s.fr with todo := (p.map Item.code).toList ++ k }, h := s.h.put l (.loop .exhausted p fn t nt ps a b d) }) .fail
      | _ => .fail
    | _ => .fail
  | _ => unwindF C s

def pickAll (f : Nat → Option (End × AH)) : Nat → Option (End × AH)
  | 0 => none
  | 1 => f 0
  | n + 2 => mergeR (f (n + 1)) (pickAll f (n + 1))

def arun (C : Cfg) : Nat → AS → Option (End × AH)
  | 0, _ => none
  | n + 1, s =>
    match astep C (arun C n) s with
    | .go s => arun C n s
    | .done e h => some (e, h)
    | .pick k f => pickAll (fun i => (f i).bind (arun C n)) k
    | .fail => none

end Go.Ev
namespace Go.Ev

/-! ## Where a block of the evaluator's heap lies -/
structure Img where
  b : Nat
  o : Nat
  r : Nat

abbrev Emb := Nat → Option Img

def Emb.le (ρ ρ' : Emb) : Prop := ∀ k g, ρ k = some g → ρ' k = some g
def Emb.upd (ρ : Emb) (n : Nat) (g : Img) : Emb := fun k => if k = n then some g else ρ k

theorem Emb.le_refl (ρ : Emb) : ρ.le ρ := fun _ _ h => h
theorem Emb.le_trans {ρ ρ' ρ'' : Emb} (h : ρ.le ρ') (h' : ρ'.le ρ'') : ρ.le ρ'' := fun k g e => h' k g (h k g e)
theorem Emb.le_upd {ρ : Emb} {n : Nat} {g : Img} (h : ρ n = none) : ρ.le (ρ.upd n g) := by
  intro k g' e
  unfold Emb.upd
  by_cases hk : k = n
  · subst hk; rw [h] at e; cases e
  · rw [if_neg hk]; exact e
theorem Emb.upd_self (ρ : Emb) (n : Nat) (g : Img) : ρ.upd n g n = some g := by simp [Emb.upd]
theorem Emb.upd_ne {ρ : Emb} {n k : Nat} {g : Img} (h : k ≠ n) : ρ.upd n g k = ρ k := by simp [Emb.upd, h]

def AddrR (ρ : Emb) (a a' : Addr) : Prop := ∃ g, ρ a.block = some g ∧ a'.block = g.b ∧ a'.off = g.o + a.off ∧ a.spot = none ∧ a'.spot = none

def FnR (ρ : Emb) (f f' : Fn) : Prop :=
  match f with
  | .yield l => ∃ g, ρ l = some g ∧ f' = .yield g.b
  | f => f' = f

inductive VR (ρ : Emb) : Value → Value → Prop
  | bool (b : Bool) : VR ρ (.bool b) (.bool b)
  | int (k : IntKind) (n : Int) : VR ρ (.int k n) (.int k n)
  | float (k : FloatKind) (n : Nat) : VR ρ (.float k n) (.float k n)
  | complex (k : FloatKind) (n m : Nat) : VR ρ (.complex k n m) (.complex k n m)
  | string (s : ByteArray) : VR ρ (.string s) (.string s)
  | ptrN : VR ρ (.pointer none) (.pointer none)
  | ptr {a a' : Addr} (h : AddrR ρ a a') : VR ρ (.pointer (some a)) (.pointer (some a'))
  | slcN (l c : Nat) : VR ρ (.slice none l c) (.slice none l c)
  | slc {a a' : Addr} {l c : Nat} (h : AddrR ρ a a') (hc : c < big) : VR ρ (.slice (some a) l c) (.slice (some a') l c)
  | slcO {a a' : Addr} {l c c' : Nat} {g : Img} (h : AddrR ρ a a') (hc : big ≤ c) (hg : ρ a.block = some g) (hr : c' + (c - big) = g.r) : VR ρ (.slice (some a) l c) (.slice (some a') l c')
  | slcZ {a a' : Addr} {c : Nat} {g : Img} (hc : big ≤ c) (hg : ρ a.block = some g) (hr : c - big = g.r) (hs : a.spot = none) : VR ρ (.slice (some a) 0 c) (.slice (some a') 0 0)
  | mapN : VR ρ (.map none) (.map none)
  | map {r : Nat} {g : Img} (hg : ρ r = some g) : VR ρ (.map (some r)) (.map (some g.b))
  | chanN : VR ρ (.chan none) (.chan none)
  | func {f f' : Fn} {a a' b b' : Array Value} (hf : FnR ρ f f') (sa : a.size = a'.size) (ha : ∀ (i : Nat) (v v' : Value), a[i]? = some v → a'[i]? = some v' → VR ρ v v')
      (sb : b.size = b'.size) (hb : ∀ (i : Nat) (v v' : Value), b[i]? = some v → b'[i]? = some v' → VR ρ v v') : VR ρ (.func f a b) (.func f' a' b')
  | nilFunc : VR ρ .nilFunc .nilFunc
  | iface (t : TypeId) {v v' : Value} (h : VR ρ v v') : VR ρ (.iface t v) (.iface t v')
  | nilIface : VR ρ .nilIface .nilIface
  | agg {a a' : Array Value} (sa : a.size = a'.size) (ha : ∀ (i : Nat) (v v' : Value), a[i]? = some v → a'[i]? = some v' → VR ρ v v') : VR ρ (.agg a) (.agg a')
  | tuple {a a' : Array Value} (sa : a.size = a'.size) (ha : ∀ (i : Nat) (v v' : Value), a[i]? = some v → a'[i]? = some v' → VR ρ v v') : VR ρ (.tuple a) (.tuple a')

/-- Arrays of values, place by place. -/
def AR (ρ : Emb) (a a' : Array Value) : Prop := a.size = a'.size ∧ ∀ (i : Nat) (v v' : Value), a[i]? = some v → a'[i]? = some v' → VR ρ v v'

theorem AddrR.mono {ρ ρ' : Emb} (hle : ρ.le ρ') {a a' : Addr} (h : AddrR ρ a a') : AddrR ρ' a a' :=
  let ⟨g, h1, h2⟩ := h; ⟨g, hle _ _ h1, h2⟩
theorem FnR.mono {ρ ρ' : Emb} (hle : ρ.le ρ') {f f' : Fn} (h : FnR ρ f f') : FnR ρ' f f' := by
  cases f <;> first
    | (obtain ⟨g, h1, h2⟩ := h; exact ⟨g, hle _ _ h1, h2⟩)
    | exact h
theorem VR.mono {ρ ρ' : Emb} (hle : ρ.le ρ') {v v' : Value} (h : VR ρ v v') : VR ρ' v v' := by
  induction h with
  | bool b => exact .bool b
  | int k n => exact .int k n
  | float k n => exact .float k n
  | complex k n m => exact .complex k n m
  | string s => exact .string s
  | ptrN => exact .ptrN
  | ptr h => exact .ptr (h.mono hle)
  | slcN l c => exact .slcN l c
  | slc h hc => exact .slc (h.mono hle) hc
  | slcO h hc hg hr => exact .slcO (h.mono hle) hc (hle _ _ hg) hr
  | slcZ hc hg hr hs => exact .slcZ hc (hle _ _ hg) hr hs
  | mapN => exact .mapN
  | map hg => exact .map (hle _ _ hg)
  | chanN => exact .chanN
  | func hf sa _ sb _ iha ihb => exact .func (hf.mono hle) sa iha sb ihb
  | nilFunc => exact .nilFunc
  | iface t _ ih => exact .iface t ih
  | nilIface => exact .nilIface
  | agg sa _ ih => exact .agg sa ih
  | tuple sa _ ih => exact .tuple sa ih
theorem AR.mono {ρ ρ' : Emb} (hle : ρ.le ρ') {a a' : Array Value} (h : AR ρ a a') : AR ρ' a a' :=
  ⟨h.1, fun i v v' h1 h2 => (h.2 i v v' h1 h2).mono hle⟩

theorem plainL_iff (l : List Value) : plainL l = true ↔ ∀ v ∈ l, plainV v = true := by
  induction l with
  | nil => simp [plainL]
  | cons v l ih => simp [plainL, ih]
theorem plainA_iff (a : Array Value) : plainA a = true ↔ ∀ v ∈ a.toList, plainV v = true := by
  cases a with | mk l => simp only [plainA]; exact plainL_iff l
theorem plainA_at {a : Array Value} (h : plainA a = true) {i : Nat} {v : Value} (hv : a[i]? = some v) : plainV v = true :=
  (plainA_iff a).1 h v (by rw [← Array.getElem?_toList] at hv; exact List.mem_of_getElem? hv)

theorem sizeOf_at {a : Array Value} {i : Nat} {v : Value} (hv : a[i]? = some v) : SizeOf.sizeOf v < SizeOf.sizeOf a := by
  have : v ∈ a := Array.mem_of_getElem? hv
  exact Array.sizeOf_lt_of_mem this

theorem VR.plain (ρ : Emb) (v : Value) (h : plainV v = true) : VR ρ v v := by
  have arr : ∀ (a : Array Value), (∀ (i : Nat) (v : Value), a[i]? = some v → VR ρ v v) → ∀ (i : Nat) (v v' : Value), a[i]? = some v → a[i]? = some v' → VR ρ v v' := by
    intro a ha i v v' h1 h2
    rw [h1] at h2; cases h2
    exact ha i v h1
  match v, h with
  | .bool b, _ => exact .bool b
  | .int k n, _ => exact .int k n
  | .float k n, _ => exact .float k n
  | .complex k n m, _ => exact .complex k n m
  | .string s, _ => exact .string s
  | .pointer none, _ => exact .ptrN
  | .pointer (some a), h => simp [plainV] at h
  | .slice none l c, _ => exact .slcN l c
  | .slice (some a) l c, h => simp [plainV] at h
  | .map none, _ => exact .mapN
  | .map (some a), h => simp [plainV] at h
  | .chan none, _ => exact .chanN
  | .chan (some a), h => simp [plainV] at h
  | .func (.yield l) a b, h => simp [plainV] at h
  | .func (.func f) a b, h =>
    simp only [plainV, Bool.and_eq_true] at h
    exact .func rfl rfl (arr a fun i v hv => VR.plain ρ v (plainA_at h.1 hv)) rfl (arr b fun i v hv => VR.plain ρ v (plainA_at h.2 hv))
  | .func (.method f) a b, h =>
    simp only [plainV, Bool.and_eq_true] at h
    exact .func rfl rfl (arr a fun i v hv => VR.plain ρ v (plainA_at h.1 hv)) rfl (arr b fun i v hv => VR.plain ρ v (plainA_at h.2 hv))
  | .func (.methodOf t f) a b, h =>
    simp only [plainV, Bool.and_eq_true] at h
    exact .func rfl rfl (arr a fun i v hv => VR.plain ρ v (plainA_at h.1 hv)) rfl (arr b fun i v hv => VR.plain ρ v (plainA_at h.2 hv))
  | .func (.via t p f q) a b, h =>
    simp only [plainV, Bool.and_eq_true] at h
    exact .func rfl rfl (arr a fun i v hv => VR.plain ρ v (plainA_at h.1 hv)) rfl (arr b fun i v hv => VR.plain ρ v (plainA_at h.2 hv))
  | .nilFunc, _ => exact .nilFunc
  | .iface t v, h => exact .iface t (VR.plain ρ v (by simpa [plainV] using h))
  | .nilIface, _ => exact .nilIface
  | .agg a, h => exact .agg rfl (arr a fun i v hv => VR.plain ρ v (plainA_at (by simpa [plainV] using h) hv))
  | .tuple a, h => exact .tuple rfl (arr a fun i v hv => VR.plain ρ v (plainA_at (by simpa [plainV] using h) hv))
termination_by SizeOf.sizeOf v
decreasing_by
  all_goals simp_wf
  all_goals first
    | omega
    | (have := sizeOf_at hv; omega)

theorem arr_eq {a a' : Array Value} (hs : a.size = a'.size) (h : ∀ (i : Nat) (v v' : Value), a[i]? = some v → a'[i]? = some v' → v' = v) : a' = a := by
  apply Array.ext
  · exact hs.symm
  · intro i h1 h2
    exact h i a[i] a'[i] (by simp [h2]) (by simp [h1])

theorem VR.plain_eq {ρ : Emb} {v v' : Value} (h : VR ρ v v') : plainV v = true → v' = v := by
  induction h with
  | ptr _ => intro h; simp [plainV] at h
  | slc _ _ => intro h; simp [plainV] at h
  | slcO _ _ _ _ => intro h; simp [plainV] at h
  | slcZ _ _ _ _ => intro h; simp [plainV] at h
  | map _ => intro h; simp [plainV] at h
  | @func f f' a a' b b' hf sa ha sb hb iha ihb =>
    intro h
    have hf' : f' = f := by cases f <;> first | exact hf | simp [plainV] at h
    have h2 : plainA a = true ∧ plainA b = true := by cases f <;> simp_all [plainV]
    rw [hf', arr_eq sa fun i v v' h1 h3 => iha i v v' h1 h3 (plainA_at h2.1 h1), arr_eq sb fun i v v' h1 h3 => ihb i v v' h1 h3 (plainA_at h2.2 h1)]
  | iface t _ ih => intro h; rw [ih (by simpa [plainV] using h)]
  | agg sa _ ih => intro h; rw [arr_eq sa fun i v v' h1 h3 => ih i v v' h1 h3 (plainA_at (by simpa [plainV] using h) h1)]
  | tuple sa _ ih => intro h; rw [arr_eq sa fun i v v' h1 h3 => ih i v v' h1 h3 (plainA_at (by simpa [plainV] using h) h1)]
  | _ => intro _; rfl

/-! ## Arrays -/
theorem AR.refl_plain {ρ : Emb} {a : Array Value} (h : plainA a = true) : AR ρ a a :=
  ⟨rfl, fun i v v' h1 h2 => by rw [h1] at h2; cases h2; exact VR.plain ρ v (plainA_at h h1)⟩
theorem AR.nil (ρ : Emb) : AR ρ #[] #[] := ⟨rfl, fun i v v' h1 _ => by simp at h1⟩
theorem AR.get {ρ : Emb} {a a' : Array Value} (h : AR ρ a a') {i : Nat} {v : Value} (hv : a[i]? = some v) : ∃ v', a'[i]? = some v' ∧ VR ρ v v' := by
  have hi : i < a.size := (Array.getElem?_eq_some_iff.1 hv).1
  have hi' : i < a'.size := h.1 ▸ hi
  exact ⟨a'[i], by simp [hi'], h.2 i v _ hv (by simp [hi'])⟩
theorem AR.append {ρ : Emb} {a a' b b' : Array Value} (h : AR ρ a a') (h' : AR ρ b b') : AR ρ (a ++ b) (a' ++ b') := by
  refine ⟨by simp [h.1, h'.1], fun i v v' h1 h2 => ?_⟩
  rw [Array.getElem?_append] at h1 h2
  rw [← h.1] at h2
  by_cases hi : i < a.size
  · rw [if_pos hi] at h1 h2; exact h.2 i v v' h1 h2
  · rw [if_neg hi] at h1 h2; exact h'.2 _ v v' h1 h2
theorem AR.single {ρ : Emb} {v v' : Value} (h : VR ρ v v') : AR ρ #[v] #[v'] := by
  refine ⟨rfl, fun i u u' h1 h2 => ?_⟩
  match i with
  | 0 => simp at h1 h2; subst h1 h2; exact h
  | i + 1 => simp at h1
theorem AR.cells {ρ : Emb} {v v' : Value} (h : VR ρ v v') : AR ρ v.cells v'.cells := by
  have hs := AR.single h
  cases h <;> first
    | exact hs
    | (rename_i sa ha; exact ⟨sa, ha⟩)
theorem AR.set {ρ : Emb} {a a' : Array Value} (h : AR ρ a a') {v v' : Value} (hv : VR ρ v v') (i : Nat) : AR ρ (a.setIfInBounds i v) (a'.setIfInBounds i v') := by
  refine ⟨by simp [h.1], fun j u u' h1 h2 => ?_⟩
  rw [Array.getElem?_setIfInBounds] at h1 h2
  rw [← h.1] at h2
  by_cases hij : i = j
  · rw [if_pos hij] at h1 h2
    by_cases hi : i < a.size
    · rw [if_pos hi] at h1 h2; cases h1; cases h2; exact hv
    · rw [if_neg hi] at h1; cases h1
  · rw [if_neg hij] at h1 h2; exact h.2 j u u' h1 h2

end Go.Ev
namespace Go.Ev

/-! ## Tables -/
section tr
variable {α : Type}
theorem beq_zero {n : Nat} (h : n ≠ 0) : Nat.beq n 0 = false := by
  cases n with
  | zero => exact absurd rfl h
  | succ n => rfl
theorem Tr.get_nil (n : Nat) : (Tr.nil : Tr α).get n = none := rfl
theorem Tr.get_zero (o : Option α) (l r : Tr α) : (Tr.node o l r).get 0 = o := rfl
theorem Tr.get_odd (o : Option α) (l r : Tr α) {n : Nat} (h : n % 2 = 1) : (Tr.node o l r).get n = l.get (n / 2) := by
  have h0 : Nat.beq n 0 = false := beq_zero (by omega)
  have h1 : Nat.beq (n % 2) 1 = true := by rw [h]; rfl
  rw [Tr.get, h0, h1]; rfl
theorem Tr.get_even (o : Option α) (l r : Tr α) {n : Nat} (h : n % 2 = 0) (hn : n ≠ 0) : (Tr.node o l r).get n = r.get (n / 2 - 1) := by
  have h0 : Nat.beq n 0 = false := beq_zero hn
  have h1 : Nat.beq (n % 2) 1 = false := by rw [h]; rfl
  rw [Tr.get, h0, h1]; rfl

theorem Tr.get_setF (v : Option α) : ∀ (f : Nat) (t : Tr α) (n m : Nat), n < f → (t.setF v f n).get m = if m = n then v else t.get m
  | 0, _, n, _, h => absurd h (Nat.not_lt_zero n)
  | f + 1, t, n, m, h => by
    have key : ∀ (o : Option α) (l r : Tr α), (Tr.node o l r).get m = t.get m →
        (cond (Nat.beq n 0) (Tr.node v l r) (cond (Nat.beq (n % 2) 1) (.node o (l.setF v f (n / 2)) r) (.node o l (r.setF v f (n / 2 - 1))))).get m = if m = n then v else t.get m := by
      intro o l r ht
      rw [← ht]
      by_cases hn0 : n = 0
      · subst hn0
        show (Tr.node v l r).get m = _
        by_cases hm : m = 0
        · subst hm; rfl
        · rw [if_neg hm]
          rcases Nat.mod_two_eq_zero_or_one m with hp | hp
          · rw [Tr.get_even _ _ _ hp hm, Tr.get_even _ _ _ hp hm]
          · rw [Tr.get_odd _ _ _ hp, Tr.get_odd _ _ _ hp]
      · have h0 : Nat.beq n 0 = false := beq_zero hn0
        rcases Nat.mod_two_eq_zero_or_one n with hp | hp
        · have h1 : Nat.beq (n % 2) 1 = false := by rw [hp]; rfl
          rw [h0, h1]
          show (Tr.node o l (r.setF v f (n / 2 - 1))).get m = _
          by_cases hm : m = 0
          · subst hm; rw [if_neg (fun e => hn0 e.symm)]; rfl
          · rcases Nat.mod_two_eq_zero_or_one m with hq | hq
            · rw [Tr.get_even _ _ _ hq hm, Tr.get_even _ _ _ hq hm, Tr.get_setF v f r _ _ (by omega)]
              by_cases e : m = n
              · rw [if_pos e, if_pos (by rw [e])]
              · rw [if_neg e, if_neg (by omega)]
            · rw [Tr.get_odd _ _ _ hq, Tr.get_odd _ _ _ hq, if_neg (by omega)]
        · have h1 : Nat.beq (n % 2) 1 = true := by rw [hp]; rfl
          rw [h0, h1]
          show (Tr.node o (l.setF v f (n / 2)) r).get m = _
          by_cases hm : m = 0
          · subst hm; rw [if_neg (fun e => hn0 e.symm)]; rfl
          · rcases Nat.mod_two_eq_zero_or_one m with hq | hq
            · rw [Tr.get_even _ _ _ hq hm, Tr.get_even _ _ _ hq hm, if_neg (by omega)]
            · rw [Tr.get_odd _ _ _ hq, Tr.get_odd _ _ _ hq, Tr.get_setF v f l _ _ (by omega)]
              by_cases e : m = n
              · rw [if_pos e, if_pos (by rw [e])]
              · rw [if_neg e, if_neg (by omega)]
    cases t with
    | nil =>
      rw [Tr.setF]
      refine key none .nil .nil ?_
      rw [Tr.get_nil]
      by_cases hm : m = 0
      · subst hm; rfl
      · rcases Nat.mod_two_eq_zero_or_one m with hq | hq
        · rw [Tr.get_even _ _ _ hq hm]; rfl
        · rw [Tr.get_odd _ _ _ hq]; rfl
    | node o l r =>
      rw [Tr.setF]
      exact key o l r rfl

theorem Tr.get_set (t : Tr α) (n m : Nat) (v : Option α) : (t.set n v).get m = if m = n then v else t.get m :=
  Tr.get_setF v (n + 1) t n m (Nat.lt_succ_self n)
end tr

theorem AH.get_put (h : AH) (k m : Nat) (o : AO) : (h.put k o).get m = if m = k then some o else h.get m := Tr.get_set _ _ _ _
theorem AH.get_kill (h : AH) (k m : Nat) : (h.kill k).get m = if m = k then none else h.get m := Tr.get_set _ _ _ _
theorem AH.get_new (h : AH) (m : Nat) (o : AO) : (h.new o).get m = if m = h.next then some o else h.get m := Tr.get_set _ _ _ _

/-! ## Relations on what is not a value -/
inductive L2 {α β : Type} (R : α → β → Prop) : List α → List β → Prop
  | nil : L2 R [] []
  | cons {a : α} {b : β} {l : List α} {m : List β} (h : R a b) (t : L2 R l m) : L2 R (a :: l) (b :: m)

theorem L2.mono {α β : Type} {R R' : α → β → Prop} (hr : ∀ a b, R a b → R' a b) {l : List α} {m : List β} (h : L2 R l m) : L2 R' l m := by
  induction h with
  | nil => exact .nil
  | cons h _ ih => exact .cons (hr _ _ h) ih
theorem L2.append {α β : Type} {R : α → β → Prop} {l l' : List α} {m m' : List β} (h : L2 R l m) (h' : L2 R l' m') : L2 R (l ++ l') (m ++ m') := by
  induction h with
  | nil => exact h'
  | cons h _ ih => exact .cons h ih
theorem L2.length {α β : Type} {R : α → β → Prop} {l : List α} {m : List β} (h : L2 R l m) : l.length = m.length := by
  induction h with
  | nil => rfl
  | cons _ _ ih => simp [ih]

def DefR (ρ : Emb) (d d' : Deferred) : Prop :=
  match d.target with
  | .fn f cap => ∃ f' cap', d'.target = .fn f' cap' ∧ FnR ρ f f' ∧ AR ρ cap cap' ∧ AR ρ d.args d'.args
  | .collected r => ∃ g, ρ r = some g ∧ d' = { target := .collected g.b, args := #[] }
  | _ => False

theorem DefR.mono {ρ ρ' : Emb} (hle : ρ.le ρ') {d d' : Deferred} (h : DefR ρ d d') : DefR ρ' d d' := by
  obtain ⟨t, as⟩ := d
  cases t <;> first
    | exact h.elim
    | (obtain ⟨f', cap', h1, h2, h3, h4⟩ := h; exact ⟨f', cap', h1, h2.mono hle, h3.mono hle, h4.mono hle⟩)
    | (obtain ⟨g, h1, h2⟩ := h; exact ⟨g, hle _ _ h1, h2⟩)

def TmR (ρ : Emb) (t : Tr Value) (a : Array Value) : Prop := ∀ (i : Nat) (v : Value), t.get i = some v → ∃ v', a[i]? = some v' ∧ VR ρ v v'

theorem TmR.mono {ρ ρ' : Emb} (hle : ρ.le ρ') {t : Tr Value} {a : Array Value} (h : TmR ρ t a) : TmR ρ' t a :=
  fun i v hv => let ⟨v', h1, h2⟩ := h i v hv; ⟨v', h1, h2.mono hle⟩
theorem TmR.set {ρ : Emb} {t : Tr Value} {a : Array Value} (h : TmR ρ t a) {d : Nat} (hd : d < a.size) {v v' : Value} (hv : VR ρ v v') : TmR ρ (t.set d (some v)) (a.setIfInBounds d v') := by
  intro i u hu
  rw [Tr.get_set] at hu
  by_cases hi : i = d
  · subst hi
    rw [if_pos rfl] at hu; cases hu
    exact ⟨v', by simp [hd], hv⟩
  · rw [if_neg hi] at hu
    obtain ⟨u', h1, h2⟩ := h i u hu
    exact ⟨u', by rw [Array.getElem?_setIfInBounds_ne (fun e => hi e.symm)]; exact h1, h2⟩

/-- No cell of the row is frozen. -/
def Free (n : Nat) (f : Nat × Nat) : Prop := f.1 ≤ f.2 ∧ ∀ i, i < n → ¬ (f.1 ≤ i ∧ i < f.2)

inductive ObR (P : Program) (ρ : Emb) (g : Img) : AO → Obj → Prop
  | cells {c c' : Array Value} {e : TypeId} {o fz : Bool} {f : Nat × Nat}
      (hz : fz = false → Free c'.size f)
      (hx : o = false → g.o = 0 ∧ c'.size = c.size)
      (ho : o = true → g.o + g.r * P.cellsOf e = c'.size ∧ c.size ≤ g.r * P.cellsOf e)
      (hc : ∀ (i : Nat) (v v' : Value), c[i]? = some v → c'[g.o + i]? = some v' → VR ρ v v') : ObR P ρ g (.cells c e o fz) (.cells c' e f)
  | map {es es' : Array MapEntry} (clock : Nat) (hs : es.size = es'.size)
      (he : ∀ (i : Nat) (e e' : MapEntry), es[i]? = some e → es'[i]? = some e' → VR ρ e.key e'.key ∧ VR ρ e.val e'.val ∧ e'.born = e.born) : ObR P ρ g (.map es clock) (.map es' clock)
  | iterN (since : Nat) (seen : Array Nat) (st : Nat) (hg : g.o = 0) : ObR P ρ g (.mapIter none since seen st) (.mapIter none since seen st)
  | iter {m : Nat} {gm : Img} (hm : ρ m = some gm) (since : Nat) (seen : Array Nat) (st : Nat) (hg : g.o = 0) : ObR P ρ g (.mapIter (some m) since seen st) (.mapIter (some gm.b) since seen st)
  | str (s : ByteArray) (pos : Nat) (hg : g.o = 0) : ObR P ρ g (.strIter s pos) (.stringIter s pos)
  | loop {st : LoopState} {p : Option Code} {fn : FuncId} {t : Tr Value} {tmps : Array Value} {nt : Nat} {ps : Array Tmp} {a b : Code} {d : Nat} {gd : Img}
      (ht : TmR ρ t tmps) (hn : tmps.size = nt) (hd : ρ d = some gd) :
      ObR P ρ g (.loop st p fn t nt ps a b d) (.loop { state := st, pending := p, fn, tmps, params := ps, assign := a, body := b, defers := gd.b })
  | defN : ObR P ρ g (.deferred none) (.deferred none)
  | defS {ds ds' : List Deferred} (h : L2 (DefR ρ) ds ds') : ObR P ρ g (.deferred (some ds)) (.deferred (some ds'))

theorem ObR.mono {P : Program} {ρ ρ' : Emb} (hle : ρ.le ρ') {g : Img} {o : AO} {o' : Obj} (h : ObR P ρ g o o') : ObR P ρ' g o o' := by
  cases h with
  | cells hz hx ho hc => exact .cells hz hx ho fun i v v' h1 h2 => (hc i v v' h1 h2).mono hle
  | map clock hs he => exact .map clock hs fun i e e' h1 h2 => let ⟨a, b, c⟩ := he i e e' h1 h2; ⟨a.mono hle, b.mono hle, c⟩
  | iterN since seen st hg => exact .iterN since seen st hg
  | iter hm since seen st hg => exact .iter (hle _ _ hm) since seen st hg
  | str s pos hg => exact .str s pos hg
  | loop ht hn hd => exact .loop (ht.mono hle) hn (hle _ _ hd)
  | defN => exact .defN
  | defS h => exact .defS (h.mono fun _ _ hd => hd.mono hle)

/-! ## Worlds -/
structure Sim (C : Cfg) (low : Nat → Option Obj) (ρ : Emb) (h : AH) (w : World) : Prop where
  live : ∀ k o, h.get k = some o → ∃ g o', ρ k = some g ∧ w.heap[g.b]? = some o' ∧ ObR C.P ρ g o o'
  inj : ∀ k k' o o' g g', h.get k = some o → h.get k' = some o' → ρ k = some g → ρ k' = some g' → g.b = g'.b → k = k'
  fresh : ∀ k, h.next ≤ k → ρ k = none
  bound : ∀ k g, ρ k = some g → g.b < w.heap.size
  sep : ∀ k g, C.base ≤ k → ρ k = some g → C.base ≤ g.b
  glob : ∀ k, k < C.base → ρ k = some ⟨k, 0, 0⟩
  low : ∀ b, b < C.base → w.heap[b]? = low b
  nb : C.base ≤ h.next

def Foot (C : Cfg) (ρ : Emb) (h : AH) (b : Nat) : Prop := ∃ k o g, C.base ≤ k ∧ h.get k = some o ∧ ρ k = some g ∧ g.b = b

structure Nx (C : Cfg) (low : Nat → Option Obj) (ρ : Emb) (h : AH) (w : World) (ρ' : Emb) (h' : AH) (w' : World) : Prop where
  le : ρ.le ρ'
  sim : Sim C low ρ' h' w'
  size : w.heap.size ≤ w'.heap.size
  keep : ∀ b, b < w.heap.size → ¬ Foot C ρ h b → w'.heap[b]? = w.heap[b]? ∧ ¬ Foot C ρ' h' b
  env : w'.tape = w.tape ∧ w'.os = w.os ∧ w'.output = w.output

section nx
variable {C : Cfg} {low : Nat → Option Obj} {ρ ρ' ρ'' : Emb} {h h' h'' : AH} {w w' w'' : World}

theorem Nx.refl (s : Sim C low ρ h w) : Nx C low ρ h w ρ h w :=
  ⟨ρ.le_refl, s, Nat.le_refl _, fun _ _ hf => ⟨rfl, hf⟩, rfl, rfl, rfl⟩
theorem Nx.trans (n : Nx C low ρ h w ρ' h' w') (n' : Nx C low ρ' h' w' ρ'' h'' w'') : Nx C low ρ h w ρ'' h'' w'' :=
  ⟨Emb.le_trans n.le n'.le, n'.sim, Nat.le_trans n.size n'.size, fun b hb hf =>
    let ⟨e1, f1⟩ := n.keep b hb hf
    let ⟨e2, f2⟩ := n'.keep b (Nat.lt_of_lt_of_le hb n.size) f1
    ⟨e2.trans e1, f2⟩, n'.env.1.trans n.env.1, n'.env.2.1.trans n.env.2.1, n'.env.2.2.trans n.env.2.2⟩

/-- A world that differs in what was drawn. -/
theorem Sim.same (s : Sim C low ρ h w) (e : w'.heap = w.heap) : Sim C low ρ h w' :=
  ⟨fun k o hk => let ⟨g, o', h1, h2, h3⟩ := s.live k o hk; ⟨g, o', h1, by rw [e]; exact h2, h3⟩, s.inj, s.fresh, fun k g hk => by rw [e]; exact s.bound k g hk, s.sep, s.glob,
    fun b hb => by rw [e]; exact s.low b hb, s.nb⟩
theorem Nx.same (s : Sim C low ρ h w) (e : w'.heap = w.heap) (ev : w'.tape = w.tape ∧ w'.os = w.os ∧ w'.output = w.output) : Nx C low ρ h w ρ h w' :=
  ⟨ρ.le_refl, s.same e, by rw [e]; exact Nat.le_refl _, fun b _ hf => ⟨by rw [e], hf⟩, ev⟩

/-- A heap that says less. -/
theorem Sim.weaken (s : Sim C low ρ h w) (hn : h'.next = h.next) (hl : ∀ k o, h'.get k = some o → h.get k = some o) : Sim C low ρ h' w :=
  ⟨fun k o hk => s.live k o (hl k o hk), fun k k' o o' g g' a b => s.inj k k' o o' g g' (hl _ _ a) (hl _ _ b), fun k hk => s.fresh k (hn ▸ hk), s.bound, s.sep, s.glob, s.low, hn ▸ s.nb⟩
theorem Nx.weaken (n : Nx C low ρ h w ρ' h' w') (hn : h''.next = h'.next) (hl : ∀ k o, h''.get k = some o → h'.get k = some o) : Nx C low ρ h w ρ' h'' w' :=
  ⟨n.le, n.sim.weaken hn hl, n.size, fun b hb hf => let ⟨e, f⟩ := n.keep b hb hf; ⟨e, fun ⟨k, o, g, a, b, c⟩ => f ⟨k, o, g, a, hl _ _ b, c⟩⟩, n.env⟩

/-- One block of ours is written. -/
theorem Nx.put (s : Sim C low ρ h w) {k : Nat} {o₀ o : AO} {g : Img} {o' : Obj} (hk : h.get k = some o₀) (hb : C.base ≤ k) (hg : ρ k = some g) (ho : ObR C.P ρ g o o')
    (e : w'.heap = w.heap.setIfInBounds g.b o') (ev : w'.tape = w.tape ∧ w'.os = w.os ∧ w'.output = w.output) : Nx C low ρ h w ρ (h.put k o) w' := by
  have live' : ∀ m x, (h.put k o).get m = some x → ∃ y, h.get m = some y := by
    intro m x hm
    rw [AH.get_put] at hm
    by_cases hmk : m = k
    · subst hmk; exact ⟨_, hk⟩
    · rw [if_neg hmk] at hm; exact ⟨_, hm⟩
  refine ⟨ρ.le_refl, ⟨?_, ?_, s.fresh, ?_, s.sep, s.glob, ?_, s.nb⟩, by rw [e]; simp, ?_, ev⟩
  · intro m x hm
    rw [AH.get_put] at hm
    by_cases hmk : m = k
    · subst hmk
      rw [if_pos rfl] at hm; cases hm
      have := s.bound _ _ hg
      exact ⟨g, o', hg, by rw [e]; simp [this], ho⟩
    · rw [if_neg hmk] at hm
      obtain ⟨g2, o2, h1, h2, h3⟩ := s.live m x hm
      have hne : g.b ≠ g2.b := fun eb => hmk (s.inj k m o₀ x g g2 hk hm hg h1 eb).symm
      exact ⟨g2, o2, h1, by rw [e, Array.getElem?_setIfInBounds_ne hne]; exact h2, h3⟩
  · intro m m' x x' g1 g2 h1 h2 h3 h4 h5
    obtain ⟨y, hy⟩ := live' m x h1
    obtain ⟨y', hy'⟩ := live' m' x' h2
    exact s.inj m m' y y' g1 g2 hy hy' h3 h4 h5
  · intro m g1 hm; rw [e]; simpa using s.bound m g1 hm
  · intro b hb2
    have hne : g.b ≠ b := by have := s.sep k g hb hg; omega
    rw [e, Array.getElem?_setIfInBounds_ne hne]; exact s.low b hb2
  · intro b _ hf
    have hne : g.b ≠ b := fun eb => hf ⟨k, o₀, g, hb, hk, hg, eb⟩
    refine ⟨by rw [e, Array.getElem?_setIfInBounds_ne hne], fun ⟨m, x, g1, h1, h2, h3, h4⟩ => ?_⟩
    obtain ⟨y, hy⟩ := live' m x h2
    exact hf ⟨m, y, g1, h1, hy, h3, h4⟩

/-- A new block. -/
theorem Nx.new (s : Sim C low ρ h w) (r : Nat) {o : AO} {o' : Obj} (ho : ObR C.P (ρ.upd h.next ⟨w.heap.size, 0, r⟩) ⟨w.heap.size, 0, r⟩ o o')
    (e : w'.heap = w.heap.push o') (ev : w'.tape = w.tape ∧ w'.os = w.os ∧ w'.output = w.output) : Nx C low ρ h w (ρ.upd h.next ⟨w.heap.size, 0, r⟩) (h.new o) w' := by
  have hn : ρ h.next = none := s.fresh _ (Nat.le_refl _)
  have hle := Emb.le_upd (g := ⟨w.heap.size, 0, r⟩) hn
  have hlow : 0 < C.base → C.base ≤ w.heap.size := by
    intro hpos
    have := s.bound (C.base - 1) _ (s.glob _ (by omega))
    simp only at this; omega
  have old : ∀ m x, (h.new o).get m = some x → m ≠ h.next → h.get m = some x := by
    intro m x hm hne; rw [AH.get_new, if_neg hne] at hm; exact hm
  have ub : ∀ m g, m ≠ h.next → ρ.upd h.next ⟨w.heap.size, 0, r⟩ m = some g → ρ m = some g := fun m g hne hm => by rw [Emb.upd_ne hne] at hm; exact hm
  refine ⟨hle, ⟨?_, ?_, ?_, ?_, ?_, ?_, ?_, ?_⟩, by rw [e]; simp, ?_, ev⟩
  · intro m x hm
    by_cases hmk : m = h.next
    · subst hmk
      rw [AH.get_new, if_pos rfl] at hm; cases hm
      exact ⟨_, o', Emb.upd_self _ _ _, by rw [e]; simp, ho⟩
    · obtain ⟨g2, o2, h1, h2, h3⟩ := s.live m x (old m x hm hmk)
      have := s.bound m g2 h1
      exact ⟨g2, o2, hle _ _ h1, by rw [e, Array.getElem?_push]; simp [Nat.ne_of_lt this, h2], h3.mono hle⟩
  · intro m m' x x' g1 g2 h1 h2 h3 h4 h5
    by_cases hm : m = h.next <;> by_cases hm' : m' = h.next
    · rw [hm, hm']
    · subst hm; rw [Emb.upd_self] at h3; cases h3
      have := s.bound m' g2 (ub m' g2 hm' h4); simp only at h5; omega
    · subst hm'; rw [Emb.upd_self] at h4; cases h4
      have := s.bound m g1 (ub m g1 hm h3); simp only at h5; omega
    · exact s.inj m m' x x' g1 g2 (old _ _ h1 hm) (old _ _ h2 hm') (ub _ _ hm h3) (ub _ _ hm' h4) h5
  · intro k hk
    have hk' : h.next + 1 ≤ k := hk
    rw [Emb.upd_ne (by omega)]; exact s.fresh k (by omega)
  · intro m g1 hm
    rw [e, Array.size_push]
    by_cases hmk : m = h.next
    · subst hmk; rw [Emb.upd_self] at hm; cases hm; exact Nat.lt_succ_self _
    · have := s.bound m g1 (ub m g1 hmk hm); omega
  · intro m g1 hb hm
    by_cases hmk : m = h.next
    · subst hmk; rw [Emb.upd_self] at hm; cases hm
      by_cases hpos : 0 < C.base
      · exact hlow hpos
      · simp only; omega
    · exact s.sep m g1 hb (ub m g1 hmk hm)
  · intro m hm
    have hb := s.nb
    rw [Emb.upd_ne (by omega)]; exact s.glob m hm
  · intro b hb
    have := hlow (by omega)
    rw [e, Array.getElem?_push, if_neg (by omega)]; exact s.low b hb
  · show C.base ≤ h.next + 1
    have hb := s.nb
    omega
  · intro b hb hf
    refine ⟨by rw [e, Array.getElem?_push, if_neg (by omega)], fun ⟨m, x, g1, h1, h2, h3, h4⟩ => ?_⟩
    by_cases hmk : m = h.next
    · subst hmk; rw [Emb.upd_self] at h3; cases h3; simp only at h4; omega
    · exact hf ⟨m, x, g1, h1, old _ _ h2 hmk, ub _ _ hmk h3, h4⟩

/-- A block gets a new name (and content): an append where there was room. -/
theorem Nx.move (s : Sim C low ρ h w) {k : Nat} {o₀ o : AO} {g g' : Img} {o' : Obj} (hk : h.get k = some o₀) (hb : C.base ≤ k) (hg : ρ k = some g) (hgb : g'.b = g.b)
    (ho : ObR C.P (ρ.upd h.next g') g' o o') (e : w'.heap = w.heap.setIfInBounds g.b o') (ev : w'.tape = w.tape ∧ w'.os = w.os ∧ w'.output = w.output) :
    Nx C low ρ h w (ρ.upd h.next g') ((h.kill k).new o) w' := by
  have hn : ρ h.next = none := s.fresh _ (Nat.le_refl _)
  have hle := Emb.le_upd (g := g') hn
  have hkn : k ≠ h.next := fun ek => by rw [ek, hn] at hg; cases hg
  have old : ∀ m x, ((h.kill k).new o).get m = some x → m ≠ h.next → m ≠ k ∧ h.get m = some x := by
    intro m x hm hne
    rw [AH.get_new] at hm
    have hne' : m ≠ (h.kill k).next := hne
    rw [if_neg hne', AH.get_kill] at hm
    by_cases hmk : m = k
    · rw [if_pos hmk] at hm; cases hm
    · rw [if_neg hmk] at hm; exact ⟨hmk, hm⟩
  have ub : ∀ m g1, m ≠ h.next → ρ.upd h.next g' m = some g1 → ρ m = some g1 := fun m g1 hne hm => by rw [Emb.upd_ne hne] at hm; exact hm
  refine ⟨hle, ⟨?_, ?_, ?_, ?_, ?_, ?_, ?_, ?_⟩, by rw [e]; simp, ?_, ev⟩
  · intro m x hm
    by_cases hmk : m = h.next
    · subst hmk
      have : ((h.kill k).new o).get h.next = some o := by rw [AH.get_new]; exact if_pos rfl
      rw [this] at hm; cases hm
      have hbd := s.bound _ _ hg
      exact ⟨g', o', Emb.upd_self _ _ _, by rw [e, hgb]; simp [hbd], ho⟩
    · obtain ⟨hmk2, hm2⟩ := old m x hm hmk
      obtain ⟨g2, o2, h1, h2, h3⟩ := s.live m x hm2
      have hne : g.b ≠ g2.b := fun eb => hmk2 (s.inj k m o₀ x g g2 hk hm2 hg h1 eb).symm
      exact ⟨g2, o2, hle _ _ h1, by rw [e, Array.getElem?_setIfInBounds_ne hne]; exact h2, h3.mono hle⟩
  · intro m m' x x' g1 g2 h1 h2 h3 h4 h5
    by_cases hm : m = h.next <;> by_cases hm' : m' = h.next
    · rw [hm, hm']
    · subst hm; rw [Emb.upd_self] at h3; cases h3
      obtain ⟨a, b⟩ := old _ _ h2 hm'
      exact absurd (s.inj k m' o₀ x' g g2 hk b hg (ub _ _ hm' h4) (hgb ▸ h5)).symm a
    · subst hm'; rw [Emb.upd_self] at h4; cases h4
      obtain ⟨a, b⟩ := old _ _ h1 hm
      exact absurd (s.inj m k x o₀ g1 g b hk (ub _ _ hm h3) hg (hgb ▸ h5)) a
    · exact s.inj m m' x x' g1 g2 (old _ _ h1 hm).2 (old _ _ h2 hm').2 (ub _ _ hm h3) (ub _ _ hm' h4) h5
  · intro m hm
    have hk' : h.next + 1 ≤ m := hm
    rw [Emb.upd_ne (by omega)]; exact s.fresh m (by omega)
  · intro m g1 hm
    rw [e]
    simp only [Array.size_setIfInBounds]
    by_cases hmk : m = h.next
    · subst hmk; rw [Emb.upd_self] at hm; cases hm; rw [hgb]; exact s.bound _ _ hg
    · exact s.bound m g1 (ub m g1 hmk hm)
  · intro m g1 hb2 hm
    by_cases hmk : m = h.next
    · subst hmk; rw [Emb.upd_self] at hm; cases hm; rw [hgb]; exact s.sep _ _ hb hg
    · exact s.sep m g1 hb2 (ub m g1 hmk hm)
  · intro m hm
    have hb := s.nb
    rw [Emb.upd_ne (by omega)]; exact s.glob m hm
  · intro b hb2
    have hne : g.b ≠ b := by have := s.sep k g hb hg; omega
    rw [e, Array.getElem?_setIfInBounds_ne hne]; exact s.low b hb2
  · show C.base ≤ h.next + 1
    have hb := s.nb
    omega
  · intro b _ hf
    have hne : g.b ≠ b := fun eb => hf ⟨k, o₀, g, hb, hk, hg, eb⟩
    refine ⟨by rw [e, Array.getElem?_setIfInBounds_ne hne], fun ⟨m, x, g1, h1, h2, h3, h4⟩ => ?_⟩
    by_cases hmk : m = h.next
    · subst hmk; rw [Emb.upd_self] at h3; cases h3; exact hne (hgb ▸ h4)
    · exact hf ⟨m, x, g1, h1, (old _ _ h2 hmk).2, ub _ _ hmk h3, h4⟩
end nx

end Go.Ev
namespace Go.Ev
open Go

/-- What is asked of the program, and of what lies in the blocks that are not ours. -/
structure Ok (C : Cfg) (low : Nat → Option Obj) : Prop where
  mixed : C.P.follows .mixedOrders = true
  enters : ∀ f, bodied C.P f = true → ∀ args w, (callFunc f args).run C.P w = .ok (.enter f args) w
  ext1 : ∀ f, C.ext f = 1 → ∀ args w, (callFunc f args).run C.P w = ((Extern.BytealgIndexByte.indexByte args).run C.P w).andThen fun v w' => .ok (.value v) w'
  ext2 : ∀ f, C.ext f = 2 → ∀ args w, (callFunc f args).run C.P w = ((Extern.AbiNoEscape.same args).run C.P w).andThen fun v w' => .ok (.value v) w'
  ext3 : ∀ f, C.ext f = 3 → ∀ args w, (callFunc f args).run C.P w = ((Extern.MapsClone.clone args).run C.P w).andThen fun v w' => .ok (.value v) w'
  sum : ∀ f args v, C.sum f args = some v → plainL args = true ∧ plainV v = true ∧
    ∀ w, (∀ b, b < C.base → w.heap[b]? = low b) → Calls C.P f args.toArray w fun e w' => e = .returned v ∧ ∃ n, w' = { w with drawn := n }

section
variable {C : Cfg} {low : Nat → Option Obj} {ρ : Emb} {h : AH} {w : World}

/-! ## Types -/
theorem run_underlying {P : Program} {t : TypeId} {d : TypeDesc} (hd : P.underlying t = some d) (w : World) : (underlying t).run P w = .ok d w := by
  simp [underlying, hd]
theorem run_typeInfo {P : Program} {t : TypeId} {i : TypeInfo} (hi : P.info? t = some i) (w : World) : (typeInfo t).run P w = .ok i w := by
  simp [typeInfo, hi]
theorem sizeT_some {P : Program} {t : TypeId} {n : Nat} (h : sizeT P t = some n) : ∃ i, P.info? t = some i ∧ i.size = n := by
  simpa [sizeT] using h
theorem run_sizeOf {P : Program} {t : TypeId} {n : Nat} (hn : sizeT P t = some n) (w : World) : (sizeOf t).run P w = .ok n w := by
  obtain ⟨i, hi, hs⟩ := sizeT_some hn
  simp [sizeOf, run_typeInfo hi, hs]
theorem cellsOf_sizeT {P : Program} {t : TypeId} {n : Nat} (hn : sizeT P t = some n) : P.cellsOf t = n := by
  obtain ⟨i, hi, hs⟩ := sizeT_some hn
  simp [Program.cellsOf, hi, hs]
theorem run_isAgg {P : Program} {t : TypeId} {b : Bool} (hb : isAggT P t = some b) (w : World) : (isAgg t).run P w = .ok b w := by
  unfold isAggT at hb
  unfold isAgg
  cases hd : P.underlying t with
  | none => simp [hd] at hb
  | some d =>
    rw [Sem.run_bind, run_underlying hd, Result.andThen_ok]
    cases d <;> simp_all
theorem zeroOf_some {P : Program} {t : TypeId} {z : Value} (h : zeroOf P t = some z) : ∃ i, P.info? t = some i ∧ i.zero = some z ∧ plainV z = true := by
  unfold zeroOf at h
  split at h
  · rename_i i hi
    split at h
    · rename_i z' hz
      cases hp : plainV z' with
      | true => simp [hp] at h; subst h; exact ⟨i, hi, hz, hp⟩
      | false => simp [hp] at h
    · cases h
  · cases h
theorem run_zeroValue {P : Program} {t : TypeId} {z : Value} (hz : zeroOf P t = some z) (w : World) : (zeroValue t).run P w = .ok z w := by
  obtain ⟨i, hi, hz', _⟩ := zeroOf_some hz
  simp [zeroValue, run_typeInfo hi, hz']

/-! ## Rows -/
theorem cond_some {α : Type} {b : Bool} {x y : α} (h : cond b (some x) none = some y) : b = true ∧ x = y := by
  cases b
  · cases h
  · exact ⟨rfl, Option.some.inj h⟩
theorem cond_none {α : Type} {b : Bool} {x : Option α} {y : α} (h : cond b x none = some y) : b = true ∧ x = some y := by
  cases b
  · cases h
  · exact ⟨rfl, h⟩

theorem rowAt_get {h : AH} {b : Nat} {x : Array Value × TypeId × Bool × Bool} (hr : rowAt h b = some x) : h.get b = some (.cells x.1 x.2.1 x.2.2.1 x.2.2.2) := by
  unfold rowAt at hr
  split at hr
  · rename_i c e o f hg; cases hr; exact hg
  · cases hr

structure RowR (P : Program) (ρ : Emb) (w : World) (k : Nat) (c : Array Value) (e : TypeId) (o fz : Bool) (g : Img) (c' : Array Value) (f : Nat × Nat) : Prop where
  emb : ρ k = some g
  heap : w.heap[g.b]? = some (.cells c' e f)
  hz : fz = false → Free c'.size f
  hx : o = false → g.o = 0 ∧ c'.size = c.size
  ho : o = true → g.o + g.r * P.cellsOf e = c'.size ∧ c.size ≤ g.r * P.cellsOf e
  hc : ∀ (i : Nat) (v v' : Value), c[i]? = some v → c'[g.o + i]? = some v' → VR ρ v v'

theorem RowR.lt {P : Program} {ρ : Emb} {w : World} {k : Nat} {c : Array Value} {e : TypeId} {o fz : Bool} {g : Img} {c' : Array Value} {f : Nat × Nat}
    (r : RowR P ρ w k c e o fz g c' f) : g.o + c.size ≤ c'.size := by
  cases o with
  | false => obtain ⟨a, b⟩ := r.hx rfl; omega
  | true => obtain ⟨a, b⟩ := r.ho rfl; omega

theorem Sim.row (s : Sim C low ρ h w) {k : Nat} {c : Array Value} {e : TypeId} {o fz : Bool} (hk : h.get k = some (.cells c e o fz)) :
    ∃ g c' f, RowR C.P ρ w k c e o fz g c' f := by
  obtain ⟨g, o', h1, h2, h3⟩ := s.live k _ hk
  cases h3 with
  | cells hz hx ho hc => exact ⟨g, _, _, h1, h2, hz, hx, ho, hc⟩

theorem RowR.cell {P : Program} {k : Nat} {c : Array Value} {e : TypeId} {o fz : Bool} {g : Img} {c' : Array Value} {f : Nat × Nat}
    (r : RowR P ρ w k c e o fz g c' f) (i : Nat) : w.cell? ⟨g.b, i, none⟩ = c'[i]? := by simp [World.cell?, r.heap]
theorem RowR.at {P : Program} {k : Nat} {c : Array Value} {e : TypeId} {o fz : Bool} {g : Img} {c' : Array Value} {f : Nat × Nat}
    (r : RowR P ρ w k c e o fz g c' f) {i : Nat} {v : Value} (hv : c[i]? = some v) : ∃ v', c'[g.o + i]? = some v' ∧ VR ρ v v' := by
  have hi := (Array.getElem?_eq_some_iff.1 hv).1
  have := r.lt
  have hlt : g.o + i < c'.size := by omega
  exact ⟨c'[g.o + i], by simp [hlt], r.hc i v _ hv (by simp [hlt])⟩

theorem AddrR.add {a a' : Addr} (hr : AddrR ρ a a') (n : Nat) : AddrR ρ (a.add n) (a'.add n) := by
  obtain ⟨g, h1, h2, h3, h4, h5⟩ := hr
  unfold Addr.add
  by_cases hn : n = 0
  · simp only [hn, if_true]; exact ⟨g, h1, h2, h3, h4, h5⟩
  · simp only [hn, if_false]; exact ⟨g, h1, h2, by simp [h3]; omega, rfl, rfl⟩
theorem add_none {a : Addr} (hs : a.spot = none) (n : Nat) : a.add n = ⟨a.block, a.off + n, none⟩ := by
  cases a; unfold Addr.add; split <;> simp_all

theorem loadN_sound (s : Sim C low ρ h w) {a a' : Addr} {n : Nat} {cs : Array Value} (hl : loadN h a n = some cs) (ha : AddrR ρ a a') :
    ∃ cs', (loadCells a' n).run C.P w = .ok cs' w ∧ AR ρ cs cs' ∧ cs.size = n := by
  obtain ⟨g, h1, h2, h3, h4, h5⟩ := ha
  unfold loadN at hl
  rw [h4] at hl
  cases hr : rowAt h a.block with
  | none => simp [hr] at hl
  | some x =>
    obtain ⟨c, e, o, f⟩ := x
    simp only [hr] at hl
    obtain ⟨hb, hcs⟩ := cond_some hl
    have hle : a.off + n ≤ c.size := Nat.le_of_ble_eq_true hb
    obtain ⟨g2, c', fz, r⟩ := s.row (rowAt_get hr)
    have hg : g2 = g := by have := r.emb; rw [h1] at this; exact (Option.some.inj this).symm
    subst hg
    have hlt : g2.o + c.size ≤ c'.size := r.lt
    have hsz : cs.size = n := by subst hcs; simp; omega
    have run := run_loadCells (P := C.P) w a' n (fun j => (c'.extract (g2.o + a.off) (g2.o + a.off + n)).getD j undef) (by
      intro j hj
      rw [add_none h5, h2, h3, r.cell]
      have h6 : g2.o + a.off + j < c'.size := by omega
      simp only [Array.getD_eq_getD_getElem?, Array.getElem?_extract]
      rw [if_pos (by omega)]
      simp [h6])
    refine ⟨_, run, ⟨by simp [hsz], fun i v v' hv hv' => ?_⟩, hsz⟩
    subst hcs
    have hi : i < n := by
      have := (Array.getElem?_eq_some_iff.1 hv).1
      simp at this; omega
    rw [Array.getElem?_extract, if_pos (by omega)] at hv
    have h6 : g2.o + a.off + i < c'.size := by omega
    simp [hi, Array.getD_eq_getD_getElem?, Array.getElem?_extract] at hv'
    rw [if_pos (by omega)] at hv'
    simp [h6] at hv'
    subst hv'
    exact r.hc (a.off + i) v _ hv (by rw [show g2.o + (a.off + i) = g2.o + a.off + i from by omega]; simp [h6])

theorem ar_of_list {ρ : Emb} : ∀ (l m : List Value), l.length = m.length → (∀ (i : Nat) (v v' : Value), l[i]? = some v → m[i]? = some v' → VR ρ v v') → L2 (VR ρ) l m
  | [], [], _, _ => .nil
  | [], _ :: _, h, _ => by simp at h
  | _ :: _, [], h, _ => by simp at h
  | v :: l, v' :: m, h, he => .cons (he 0 v v' (by simp) (by simp)) (ar_of_list l m (by simpa using h) fun i u u' h1 h2 => he (i + 1) u u' (by simpa using h1) (by simpa using h2))
theorem list_of_ar {ρ : Emb} {l m : List Value} (h : L2 (VR ρ) l m) : AR ρ l.toArray m.toArray := by
  induction h with
  | nil => exact AR.nil ρ
  | cons hv _ ih =>
    have := (AR.single hv).append ih
    simpa using this
theorem AR.list {ρ : Emb} {a a' : Array Value} (h : AR ρ a a') : L2 (VR ρ) a.toList a'.toList :=
  ar_of_list _ _ (by simpa using h.1) fun i v v' h1 h2 => h.2 i v v' (by simpa using h1) (by simpa using h2)
theorem L2.ar {ρ : Emb} {a a' : Array Value} (h : L2 (VR ρ) a.toList a'.toList) : AR ρ a a' := by
  have := list_of_ar h; simpa using this

theorem VR.oneCell {ρ : Emb} {v v' : Value} (h : VR ρ v v') : oneCell v = true → v'.oneCell' = true := by
  cases h <;> intro h1 <;> first | rfl | cases h1

theorem oneCell_all {ρ : Emb} {vs vs' : List Value} (hv : L2 (VR ρ) vs vs') : (∀ v ∈ vs, Ev.oneCell v = true) → ∀ v ∈ vs', v.oneCell' = true := by
  induction hv with
  | nil => intro _ v hv; cases hv
  | cons hv _ ih =>
    intro hone v hm
    rcases List.mem_cons.1 hm with rfl | hm
    · exact hv.oneCell (hone _ (by simp))
    · exact ih (fun x hx => hone x (by simp [hx])) v hm
theorem setCells_size (vs : List Value) : ∀ (c : Array Value) (i : Nat), (setCells c i vs).size = c.size := by
  induction vs with
  | nil => intro c i; rfl
  | cons v l ih => intro c i; simp [setCells, ih]

theorem setRow_run (P : Program) (b off : Nat) (t : TypeId) (fz : Nat × Nat) : ∀ (vs : List Value) (i : Nat) (cur : Array Value) (w : World),
    w.heap[b]? = some (.cells cur t fz) → (∀ j, j < cur.size → ¬ (fz.1 ≤ j ∧ j < fz.2)) → off + i + vs.length ≤ cur.size → (∀ v ∈ vs, v.oneCell' = true) →
    (storeCells ⟨b, off, none⟩ vs i).run P w = .ok () { w with heap := w.heap.setIfInBounds b (.cells (setCells cur (off + i) vs) t fz) } := by
  intro vs
  induction vs with
  | nil =>
    intro i cur w hb _ _ _
    have : w.heap.setIfInBounds b (.cells (setCells cur (off + i) []) t fz) = w.heap := by
      apply Array.ext_getElem?
      intro j
      by_cases hj : b = j
      · subst hj
        obtain ⟨h1, h2⟩ := Array.getElem?_eq_some_iff.1 hb
        simp [setCells, h1, h2]
      · rw [Array.getElem?_setIfInBounds_ne hj]
    rw [this]; rfl
  | cons v l ih =>
    intro i cur w hb hfz hle h1
    have hlt : off + i < cur.size := by simp at hle; omega
    have hcell : w.cell? ⟨b, off + i, none⟩ = some cur[off + i] := by simp [World.cell?, hb, hlt]
    have hfro : w.frozen? ⟨b, off + i, none⟩ = false := by
      have := hfz (off + i) hlt
      obtain ⟨lo, hi⟩ := fz
      simp only [World.frozen?, hb, Bool.and_eq_false_iff, decide_eq_false_iff_not]
      simp only at this
      omega
    have hset : w.setCell ⟨b, off + i, none⟩ v = { w with heap := w.heap.setIfInBounds b (.cells (cur.setIfInBounds (off + i) v) t fz) } := by
      unfold World.setCell
      congr 1
      apply Array.ext_getElem?
      intro j
      rw [Array.getElem?_modify]
      by_cases hj : b = j
      · subst hj
        obtain ⟨h1, h2⟩ := Array.getElem?_eq_some_iff.1 hb
        simp [h1, h2]
      · rw [if_neg hj, Array.getElem?_setIfInBounds_ne hj]
    have hst : (store ((⟨b, off, none⟩ : Addr).add i) v).run P w = .ok () { w with heap := w.heap.setIfInBounds b (.cells (cur.setIfInBounds (off + i) v) t fz) } := by
      rw [add_none rfl, run_store P w _ v _ (h1 v (by simp))]
      simp only [hcell, hfro, Bool.false_eq_true, if_false, hset]
    have hbl := (Array.getElem?_eq_some_iff.1 hb).1
    rw [storeCells, Sem.run_bind, hst, Result.andThen_ok,
      ih (i + 1) (cur.setIfInBounds (off + i) v) _ (by simp [hbl]) (by simpa using hfz) (by simp at hle ⊢; omega) (fun u hu => h1 u (by simp [hu]))]
    simp only [setCells, Array.setIfInBounds_setIfInBounds, Nat.add_assoc]

theorem setCells_rel {ρ : Emb} {vs vs' : List Value} (hv : L2 (VR ρ) vs vs') : ∀ (c c' : Array Value) (i k : Nat), k + c.size ≤ c'.size →
    (∀ (j : Nat) (v v' : Value), c[j]? = some v → c'[k + j]? = some v' → VR ρ v v') → i + vs.length ≤ c.size →
    ∀ (j : Nat) (v v' : Value), (setCells c i vs)[j]? = some v → (setCells c' (k + i) vs')[k + j]? = some v' → VR ρ v v' := by
  induction hv with
  | nil => intro c c' i k _ hc _; exact hc
  | cons hv _ ih =>
    rename_i a b l m ht
    intro c c' i k hk hc hle
    have := ih (c.setIfInBounds i a) (c'.setIfInBounds (k + i) b) (i + 1) k (by simp; omega) (by
      intro j v v' h1 h2
      by_cases hij : i = j
      · subst hij
        simp at hle
        have h3 : i < c.size := by omega
        have h4 : k + i < c'.size := by omega
        simp [h3] at h1; simp [h4] at h2
        subst h1 h2; exact hv
      · rw [Array.getElem?_setIfInBounds_ne hij] at h1
        rw [Array.getElem?_setIfInBounds_ne (by omega)] at h2
        exact hc j v v' h1 h2) (by simp at hle ⊢; omega)
    intro j v v' h1 h2
    exact this j v v' h1 (by simpa [setCells, Nat.add_assoc] using h2)

theorem storeN_sound (s : Sim C low ρ h w) {a a' : Addr} {vs vs' : List Value} {h1 : AH} (hst : storeN C h a vs = some h1) (ha : AddrR ρ a a') (hv : L2 (VR ρ) vs vs') :
    ∃ w1, (storeCells a' vs').run C.P w = .ok () w1 ∧ Nx C low ρ h w ρ h1 w1 := by
  obtain ⟨g, e1, e2, e3, e4, e5⟩ := ha
  unfold storeN at hst
  rw [e4] at hst
  cases hr : rowAt h a.block with
  | none => simp [hr] at hst
  | some x =>
    obtain ⟨c, e, o, f⟩ := x
    simp only [hr] at hst
    obtain ⟨hb, hh⟩ := cond_some hst
    simp only [Bool.and_eq_true, Bool.not_eq_true', List.all_eq_true] at hb
    obtain ⟨⟨⟨hbase, hf⟩, hle⟩, hone⟩ := hb
    have hbase := Nat.le_of_ble_eq_true hbase
    have hle := Nat.le_of_ble_eq_true hle
    obtain ⟨g2, c', fz, r⟩ := s.row (rowAt_get hr)
    have hg : g2 = g := by have := r.emb; rw [e1] at this; exact (Option.some.inj this).symm
    subst hg
    have hlt : g2.o + c.size ≤ c'.size := r.lt
    have hlen := hv.length
    have hone' := oneCell_all hv hone
    have ha' : a' = ⟨g2.b, g2.o + a.off, none⟩ := by cases a'; simp_all
    have run := setRow_run C.P g2.b (g2.o + a.off) e fz vs' 0 c' w r.heap (r.hz hf).2 (by omega) hone'
    rw [ha']
    refine ⟨_, run, ?_⟩
    subst hh
    refine Nx.put s (rowAt_get hr) hbase e1 (o' := .cells (setCells c' (g2.o + a.off + 0) vs') e fz) ?_ rfl ⟨rfl, rfl, rfl⟩
    refine .cells (fun hf' => by simpa [setCells_size] using r.hz hf') (fun ho => by simpa [setCells_size] using r.hx ho) (fun ho => by simpa [setCells_size] using r.ho ho) ?_
    have := setCells_rel hv c c' a.off g2.o hlt r.hc hle
    simpa using this

/-! ## Loads and stores -/
theorem aload_sound (s : Sim C low ρ h w) {t : TypeId} {p p' v : Value} (hl : aload C h t p = some v) (hp : VR ρ p p') :
    ∃ v', (Instr.loadAt t p').run C.P w = .ok v' w ∧ (∀ a', p' = .pointer (some a') → (loadVar t a').run C.P w = .ok v' w) ∧ VR ρ v v' := by
  cases hp <;> try (simp [aload] at hl; done)
  rename_i a a' ha
  simp only [aload] at hl
  have main : ∃ v', (loadVar t a').run C.P w = .ok v' w ∧ VR ρ v v' := by
    cases hb : isAggT C.P t with
    | none => simp [hb] at hl
    | some b =>
      cases b with
      | true =>
        cases hi : C.P.info? t with
        | none => simp [hb, hi] at hl
        | some i =>
          simp only [hb, hi, Option.map_eq_some_iff] at hl
          obtain ⟨cs, hcs, rfl⟩ := hl
          obtain ⟨cs', run, hr, _⟩ := loadN_sound s hcs ha
          refine ⟨.agg cs', ?_, .agg hr.1 hr.2⟩
          have hsz : (sizeOf t).run C.P w = .ok i.size w := run_sizeOf (by simp [sizeT, hi]) w
          simp [loadVar, run_isAgg hb, hsz, run]
      | false =>
        simp only [hb] at hl
        obtain ⟨g, e1, e2, e3, e4, e5⟩ := ha
        rw [e4] at hl
        cases hr : rowAt h a.block with
        | none => simp [hr] at hl
        | some x =>
          obtain ⟨c, e, o, f⟩ := x
          simp only [hr] at hl
          obtain ⟨g2, c', fz, r⟩ := s.row (rowAt_get hr)
          have hg : g2 = g := by have := r.emb; rw [e1] at this; exact (Option.some.inj this).symm
          subst hg
          obtain ⟨v', h1, h2⟩ := r.at hl
          refine ⟨v', ?_, h2⟩
          have ha' : a' = ⟨g2.b, g2.o + a.off, none⟩ := by cases a'; simp_all
          simp [loadVar, run_isAgg hb, ha', r.cell, h1]
  obtain ⟨v', h1, h2⟩ := main
  refine ⟨v', by simp [Instr.loadAt, Instr.sureAddr, h1], fun a2 h2 => by cases h2; exact h1, h2⟩

theorem astore_sound (s : Sim C low ρ h w) {t : TypeId} {p p' v v' : Value} {h1 : AH} (hst : astore C h t p v = some h1) (hp : VR ρ p p') (hv : VR ρ v v') :
    ∃ w1, (Instr.storeAt t p' v').run C.P w = .ok () w1 ∧ Nx C low ρ h w ρ h1 w1 := by
  cases hp <;> try (simp [astore] at hst; done)
  rename_i a a' ha
  simp only [astore] at hst
  cases hi : C.P.info? t with
  | none => simp [hi] at hst
  | some i =>
    cases hb : isAggT C.P t with
    | none => simp [hi, hb] at hst
    | some b =>
      simp only [hi, hb] at hst
      obtain ⟨hsz, hst⟩ := cond_none hst
      have hc := AR.cells hv
      obtain ⟨w1, run, nx⟩ := storeN_sound s hst ha hc.list
      refine ⟨w1, ?_, nx⟩
      have hsize : (sizeOf t).run C.P w = .ok i.size w := run_sizeOf (by simp [sizeT, hi]) w
      have heq : v'.cells.size = i.size := by rw [← hc.1]; exact Nat.eq_of_beq_eq_true hsz
      simp [Instr.storeAt, Instr.sureAddr, storeVar, hsize, heq, run]
end
end Go.Ev
namespace Go.Ev
open Go

section
variable {C : Cfg} {low : Nat → Option Obj} {ρ : Emb} {h : AH} {w : World}

/-- What an operation does in the world, beside what the evaluator says. -/
def OpOk (C : Cfg) (low : Nat → Option Obj) (ρ : Emb) (h : AH) (w : World) (m : Sem Next) : OpR → Prop
  | .val v h1 => ∃ ρ1 w1 v', m.run C.P w = .ok (.value v') w1 ∧ Nx C low ρ h w ρ1 h1 w1 ∧ VR ρ1 v v'
  | .skip h1 => ∃ ρ1 w1, m.run C.P w = .ok .skip w1 ∧ Nx C low ρ h w ρ1 h1 w1
  | .enter f args => ∃ args', m.run C.P w = .ok (.enter f args') w ∧ AR ρ args args'
  | .defer d => ∃ d', m.run C.P w = .ok (.defer d') w ∧ DefR ρ d d'
  | .recover => m.run C.P w = .ok .recover w
  | .round l fn t nt a b => ∃ g t', ρ l = some g ∧ m.run C.P w = .ok (.round g.b fn t' a b) w ∧ TmR ρ t t' ∧ t'.size = nt
  | .panic v h1 => ∃ ρ1 w1 v', m.run C.P w = .halt (.panic v') w1 ∧ Nx C low ρ h w ρ1 h1 w1 ∧ VR ρ1 v v'
  | .pick n f => ∃ i, i < n ∧ ∀ v h1, f i = some (v, h1) → ∃ ρ1 w1 v', m.run C.P w = .ok (.value v') w1 ∧ Nx C low ρ h w ρ1 h1 w1 ∧ VR ρ1 v v'

/-- Operands. -/
def EvR (ρ : Emb) (ev : Ev) (ev' : Operand → Value) : Prop := ∀ x v, ev x = some v → VR ρ v (ev' x)

theorem semPure_run {α : Type} {P : Program} {m : Sem α} {a : α} : semPure P m = some a → ∀ w, m.run P w = .ok a w := by
  induction m with
  | pure b => intro h w; cases h; rfl
  | program k ih => intro h w; exact ih P h w
  | mark m k ih => intro h w; exact ih h w
  | choose q k ih =>
    intro h w
    simp only [semPure] at h
    obtain ⟨hq, h⟩ := cond_none h
    simp only [Sem.run, hq, if_true]
    exact ih 0 h w
  | _ => intro h; cases h

theorem val_same (s : Sim C low ρ h w) {m : Sem Next} {v v' : Value} (hr : m.run C.P w = .ok (.value v') w) (hv : VR ρ v v') : OpOk C low ρ h w m (.val v h) :=
  ⟨ρ, w, v', hr, Nx.refl s, hv⟩

theorem aplain_sound (s : Sim C low ρ h w) {ev : Ev} {ev' : Operand → Value} {o : Oper} {r : OpR} (he : EvR ρ ev ev') (hr : aplain C ev h o = some r)
    (hs : ∀ cs b, o.op ≠ .select cs b) : OpOk C low ρ h w (execOp ev' o) r := by
  unfold aplain at hr
  obtain ⟨hp, hr⟩ := cond_none hr
  have hc : execOp ev' o = execOp (fun x => (ev x).getD undef) o := by
    refine execOp_congr o hs fun x hx => ?_
    have := List.all_eq_true.1 hp x (by simpa using hx)
    cases hv : ev x with
    | none => simp [hv] at this
    | some v =>
      simp [hv] at this
      simp only [Option.getD_some]
      exact (he x v hv).plain_eq this
  rw [hc]
  cases hm : semPure C.P (execOp (fun x => (ev x).getD undef) o) with
  | none => simp [hm] at hr
  | some n =>
    have hrun := semPure_run hm
    simp only [hm] at hr
    cases n <;> simp only at hr <;> first
      | (cases hr; done)
      | (obtain ⟨hv, rfl⟩ := cond_some hr; exact val_same s (hrun w) (VR.plain ρ _ hv))
      | (cases hr; exact ⟨ρ, w, hrun w, Nx.refl s⟩)

theorem nat?_some {v : Value} {n : Nat} (h : nat? v = some n) : ∃ k, v = .int k (Int.ofNat n) := by
  unfold nat? at h
  split at h
  · cases h; exact ⟨_, rfl⟩
  · cases h

theorem VR.int_inv {k : IntKind} {n : Int} {v' : Value} (h : VR ρ (.int k n) v') : v' = .int k n := by cases h; rfl
theorem VR.bool_inv {b : Bool} {v' : Value} (h : VR ρ (.bool b) v') : v' = .bool b := by cases h; rfl
theorem VR.string_inv {b : ByteArray} {v' : Value} (h : VR ρ (.string b) v') : v' = .string b := by cases h; rfl

theorem afieldAddr_sound {st : TypeId} {x x' v : Value} {f : Nat} (ha : afieldAddr C st x f = some v) (hx : VR ρ x x') :
    ∃ v', (Instr.fieldAt st x' f).run C.P w = .ok v' w ∧ VR ρ v v' := by
  unfold afieldAddr at ha
  split at ha
  · rename_i fs a hu
    cases hx with
    | ptr hr =>
      rename_i a'
      cases hf : fs[f]? with
      | none => simp [hf] at ha
      | some fd =>
        simp only [hf] at ha
        split at ha
        · rename_i n hn
          cases ha
          refine ⟨.pointer (some (a'.add fd.offset)), ?_, .ptr (hr.add _)⟩
          simp [Instr.fieldAt, run_underlying hu, hf, Instr.sureAddr, fieldPlace, run_sizeOf hn]
        · cases ha
  · cases ha

theorem aindexAddr_sound {t : TypeId} {x x' i i' v : Value} (ha : aindexAddr C t x i = some v) (hx : VR ρ x x') (hi : VR ρ i i') :
    ∃ v', (Instr.indexAt t x' i').run C.P w = .ok v' w ∧ VR ρ v v' := by
  unfold aindexAddr at ha
  cases hn : nat? i with
  | none => simp [hn] at ha
  | some n =>
    obtain ⟨k, rfl⟩ := nat?_some hn
    have := hi.int_inv; subst this
    rw [hn] at ha
    split at ha
    · rename_i n' len elem a e1 hu
      cases e1
      obtain ⟨hlt, ha⟩ := cond_none ha
      have hlt : n < len := by simpa using hlt
      simp only [Option.map_eq_some_iff] at ha
      obtain ⟨sz, hsz, rfl⟩ := ha
      cases hx with
      | ptr hr =>
        rename_i a'
        refine ⟨.pointer (some (a'.add (n * sz))), ?_, .ptr (hr.add _)⟩
        have h1 : (n : Int) < (len : Int) := by omega
        have h2 : ¬ len ≤ n := by omega
        simp [Instr.indexAt, asIntOf, run_underlying hu, Instr.sureAddr, run_sizeOf hsz, h1, h2]
    · rename_i n' elem a len c e1 hu
      cases e1
      obtain ⟨hlt, ha⟩ := cond_none ha
      have hlt : n < len := by simpa using hlt
      simp only [Option.map_eq_some_iff] at ha
      obtain ⟨sz, hsz, rfl⟩ := ha
      have h1 : (n : Int) < (len : Int) := by omega
      cases hx with
      | @slc _ a' _ _ hr _ =>
        have h2 : ¬ len ≤ n := by omega
        refine ⟨.pointer (some (a'.add (n * sz))), ?_, .ptr (hr.add _)⟩
        simp [Instr.indexAt, asIntOf, run_underlying hu, run_sizeOf hsz, h1, h2]
      | @slcO _ a' _ _ _ _ hr _ _ _ =>
        have h2 : ¬ len ≤ n := by omega
        refine ⟨.pointer (some (a'.add (n * sz))), ?_, .ptr (hr.add _)⟩
        simp [Instr.indexAt, asIntOf, run_underlying hu, run_sizeOf hsz, h1, h2]
      | slcZ _ _ _ _ => omega
    · cases ha

theorem AR.extract {a a' : Array Value} (hr : AR ρ a a') (i j : Nat) : AR ρ (a.extract i j) (a'.extract i j) := by
  refine ⟨by simp [hr.1], fun k v v' h1 h2 => ?_⟩
  rw [Array.getElem?_extract] at h1 h2
  rw [← hr.1] at h2
  by_cases hk : k < min j a.size - i
  · rw [if_pos hk] at h1 h2; exact hr.2 _ v v' h1 h2
  · rw [if_neg hk] at h1; cases h1

theorem apart_sound {t : TypeId} {cs cs' : Array Value} {off : Nat} {v : Value} (ha : apart C t cs off = some v) (hr : AR ρ cs cs') :
    ∃ v', (part t cs' off).run C.P w = .ok v' w ∧ VR ρ v v' := by
  unfold apart at ha
  cases hb : isAggT C.P t with
  | none => simp [hb] at ha
  | some b =>
    cases b with
    | true =>
      cases hs : sizeT C.P t with
      | none => simp [hb, hs] at ha
      | some n =>
        simp only [hb, hs] at ha; cases ha
        have := hr.extract off (off + n)
        exact ⟨.agg (cs'.extract off (off + n)), by simp [part, run_isAgg hb, run_sizeOf hs], .agg this.1 this.2⟩
    | false =>
      simp only [hb] at ha
      obtain ⟨v', h1, h2⟩ := hr.get ha
      exact ⟨v', by simp [part, run_isAgg hb, h1], h2⟩

theorem afield_sound {st : TypeId} {x x' v : Value} {f : Nat} (ha : afield C st x f = some v) (hx : VR ρ x x') :
    ∃ v', (Instr.field st x' f).run C.P w = .ok v' w ∧ VR ρ v v' := by
  unfold afield at ha
  split at ha
  · rename_i fs cs hu
    cases hx with
    | agg sa hc =>
      rename_i cs'
      cases hf : fs[f]? with
      | none => simp [hf] at ha
      | some fd =>
        simp only [hf, Option.bind_some] at ha
        obtain ⟨v', h1, h2⟩ := apart_sound (w := w) ha ⟨sa, hc⟩
        exact ⟨v', by simp [Instr.field, run_underlying hu, hf, asAgg, h1], h2⟩
  · cases ha

/-! ## Equality -/
theorem aeq_sound {t : TypeId} {x x' y y' : Value} {b : Bool} (ha : aeq C t x y = some b) (hx : VR ρ x x') (hy : VR ρ y y') :
    (Op.equal t x' y').run C.P w = .ok b w := by
  show (Op.equalIn (9999 + 1) t x' y').run C.P w = .ok b w
  rw [Op.equalIn]
  unfold aeq at ha
  split at ha
  · rename_i e b' hu
    cases hx; cases hy <;> cases ha <;> simp [run_underlying hu]
  · rename_i e a hu
    cases hx; cases hy; cases ha; simp [run_underlying hu]
  · rename_i e a b' hu
    obtain ⟨hc, hb⟩ := cond_some ha
    simp only [Bool.and_eq_true] at hc
    obtain ⟨hblk, hsz⟩ := hc
    have hblk := Nat.eq_of_beq_eq_true hblk
    cases hx with
    | ptr h1 =>
      cases hy with
      | ptr h2 =>
        rename_i a' b''
        obtain ⟨g, p1, p2, p3, p4, p5⟩ := h1
        obtain ⟨g', q1, q2, q3, q4, q5⟩ := h2
        rw [← hblk, p1] at q1; cases q1
        have hs2 : ∃ n, sizeT C.P e = some (n + 1) := by
          revert hsz; split
          · rename_i n hn; intro _; exact ⟨n, hn⟩
          · intro h; cases h
        obtain ⟨n, hn⟩ := hs2
        have heq : (a' == b'') = (a == b') := by
          rw [Bool.eq_iff_iff]
          simp only [beq_iff_eq]
          cases a; cases b'; cases a'; cases b''
          simp_all
        simp [run_underlying hu, run_sizeOf hn, sameAddr, p2, q2, heq, hb]
  · rename_i e l c b' l' c' hu
    cases hx; cases hy <;> cases ha <;> simp [run_underlying hu]
  · rename_i e a l c l' c' hu
    cases hx <;> cases hy <;> cases ha <;> simp [run_underlying hu]
  · rename_i e b' hu
    cases hx; cases hy <;> cases ha <;> simp [run_underlying hu]
  · rename_i e a hu
    cases hx; cases hy; cases ha; simp [run_underlying hu]
  · rename_i hu
    cases hx; cases hy; cases ha; simp [run_underlying hu]
  · rename_i hu
    cases hx; cases hy; cases ha; simp [run_underlying hu]
  · rename_i hu
    cases hx; cases hy; cases ha; simp [run_underlying hu]
  · rename_i hu
    cases hx; cases hy; cases ha; simp [run_underlying hu]
  · cases ha
end
end Go.Ev
namespace Go.Ev
open Go

section
variable {C : Cfg} {low : Nat → Option Obj} {ρ : Emb} {h : AH} {w : World}

/-! ## Slices -/
def OVR (ρ : Emb) (x x' : Option Value) : Prop :=
  match x with
  | none => x' = none
  | some v => ∃ v', x' = some v' ∧ VR ρ v v'

theorem sliceBound_run {P : Program} {v v' : Value} {n y : Nat} {code : BoundsCode} (hn : nat? v = some n) (hv : VR ρ v v') (hy : n ≤ y) :
    (Instr.sliceBound v' y code).run P w = .ok n w := by
  obtain ⟨k, rfl⟩ := nat?_some hn
  have := hv.int_inv; subst this
  have h1 : (n : Int) ≤ (y : Int) := by omega
  simp [Instr.sliceBound, asIntOf, h1]

theorem bounds_sound {P : Program} {len room cap' : Nat} {exact isS : Bool} {lo lo' hi hi' mx mx' : Option Value} {l hh : Nat} {m : Option Nat}
    (hb : bounds len room exact lo hi mx = some (l, hh, m)) (hr : room ≤ cap') (hx : exact = true → room = cap') (hlo : OVR ρ lo lo') (hhi : OVR ρ hi hi') (hmx : OVR ρ mx mx') :
    ∃ m', (Instr.sliceBounds isS len cap' lo' hi' mx').run P w = .ok (l, hh, m') w ∧ l ≤ hh ∧ hh ≤ m' ∧
      (match m with | some m => m' = m ∧ hh ≤ m ∧ m ≤ room | none => m' = cap' ∧ exact = false ∧ hh ≤ room) := by
  unfold bounds at hb
  cases mx with
  | none =>
    have : mx' = none := hmx
    subst this
    simp only at hb
    cases hi with
    | none =>
      have : hi' = none := hhi
      subst this
      simp only [Option.isNone_none, cond_true] at hb
      cases lo with
      | none =>
        have : lo' = none := hlo
        subst this
        simp only at hb
        obtain ⟨h1, hb⟩ := cond_none hb
        obtain ⟨h2, hb⟩ := cond_some hb
        cases hb
        have h1 := Nat.le_of_ble_eq_true h1
        cases exact with
        | true =>
          have := hx rfl; subst this
          exact ⟨room, by simp [Instr.sliceBounds], Nat.zero_le _, h1, rfl, h1, Nat.le_refl _⟩
        | false => exact ⟨cap', by simp [Instr.sliceBounds], Nat.zero_le _, Nat.le_trans h1 hr, rfl, rfl, h1⟩
      | some v =>
        obtain ⟨v', rfl, hv⟩ := hlo
        cases hn : nat? v with
        | none => simp [hn] at hb
        | some n =>
          simp only [hn] at hb
          obtain ⟨h1, hb⟩ := cond_none hb
          obtain ⟨h2, hb⟩ := cond_some hb
          cases hb
          have h1 := Nat.le_of_ble_eq_true h1
          have h2 := Nat.le_of_ble_eq_true h2
          have r1 := sliceBound_run (P := P) (w := w) (code := .sliceB) hn hv h2
          cases exact with
          | true =>
            have := hx rfl; subst this
            exact ⟨room, by simp [Instr.sliceBounds, r1], h2, h1, rfl, h1, Nat.le_refl _⟩
          | false => exact ⟨cap', by simp [Instr.sliceBounds, r1], h2, Nat.le_trans h1 hr, rfl, rfl, h1⟩
    | some u =>
      obtain ⟨u', rfl, hu⟩ := hhi
      cases hk : nat? u with
      | none => simp [hk] at hb
      | some k =>
        simp only [hk] at hb
        cases lo with
        | none =>
          have : lo' = none := hlo
          subst this
          simp only at hb
          obtain ⟨h1, hb⟩ := cond_none hb
          obtain ⟨h2, hb⟩ := cond_some hb
          cases hb
          have h1 := Nat.le_of_ble_eq_true h1
          cases exact with
          | true =>
            have := hx rfl; subst this
            have h1' : hh ≤ room := h1
            have r2 := sliceBound_run (P := P) (w := w) (code := if isS then .sliceAcap else .sliceAlen) hk hu h1'
            exact ⟨room, by simp [Instr.sliceBounds, r2], Nat.zero_le _, h1', rfl, h1', Nat.le_refl _⟩
          | false =>
            have h1' : hh ≤ room := h1
            have r2 := sliceBound_run (P := P) (w := w) (code := if isS then .sliceAcap else .sliceAlen) hk hu (Nat.le_trans h1' hr)
            exact ⟨cap', by simp [Instr.sliceBounds, r2], Nat.zero_le _, Nat.le_trans h1' hr, rfl, rfl, h1'⟩
        | some v =>
          obtain ⟨v', rfl, hv⟩ := hlo
          cases hn : nat? v with
          | none => simp [hn] at hb
          | some n =>
            simp only [hn] at hb
            obtain ⟨h1, hb⟩ := cond_none hb
            obtain ⟨h2, hb⟩ := cond_some hb
            cases hb
            have h1 := Nat.le_of_ble_eq_true h1
            have h2 := Nat.le_of_ble_eq_true h2
            have r1 := sliceBound_run (P := P) (w := w) (code := .sliceB) hn hv h2
            cases exact with
            | true =>
              have := hx rfl; subst this
              have h1' : hh ≤ room := h1
              have r2 := sliceBound_run (P := P) (w := w) (code := if isS then .sliceAcap else .sliceAlen) hk hu h1'
              exact ⟨room, by simp [Instr.sliceBounds, r1, r2], h2, h1', rfl, h1', Nat.le_refl _⟩
            | false =>
              have h1' : hh ≤ room := h1
              have r2 := sliceBound_run (P := P) (w := w) (code := if isS then .sliceAcap else .sliceAlen) hk hu (Nat.le_trans h1' hr)
              exact ⟨cap', by simp [Instr.sliceBounds, r1, r2], h2, Nat.le_trans h1' hr, rfl, rfl, h1'⟩
  | some z =>
    obtain ⟨z', rfl, hz⟩ := hmx
    cases hq : nat? z with
    | none => simp [hq] at hb
    | some q =>
      simp only [hq, Option.bind_some] at hb
      cases hqr : Nat.ble q room with
      | false => simp [hqr] at hb
      | true =>
        simp only [hqr, cond_true] at hb
        have hqr := Nat.le_of_ble_eq_true hqr
        have r3 := sliceBound_run (P := P) (w := w) (code := if isS then .slice3Acap else .slice3Alen) hq hz (Nat.le_trans hqr hr)
        cases hi with
        | none => simp at hb
        | some u =>
          obtain ⟨u', rfl, hu⟩ := hhi
          cases hk : nat? u with
          | none => simp [hk] at hb
          | some k =>
            simp only [hk] at hb
            cases lo with
            | none =>
              have : lo' = none := hlo
              subst this
              simp only at hb
              obtain ⟨h1, hb⟩ := cond_none hb
              obtain ⟨h2, hb⟩ := cond_some hb
              cases hb
              have h1 : hh ≤ q := Nat.le_of_ble_eq_true h1
              have r2 := sliceBound_run (P := P) (w := w) (code := .slice3B) hk hu h1
              exact ⟨q, by simp [Instr.sliceBounds, r3, r2], Nat.zero_le _, h1, rfl, h1, hqr⟩
            | some v =>
              obtain ⟨v', rfl, hv⟩ := hlo
              cases hn : nat? v with
              | none => simp [hn] at hb
              | some n =>
                simp only [hn] at hb
                obtain ⟨h1, hb⟩ := cond_none hb
                obtain ⟨h2, hb⟩ := cond_some hb
                cases hb
                have h1 : hh ≤ q := Nat.le_of_ble_eq_true h1
                have h2 := Nat.le_of_ble_eq_true h2
                have r1 := sliceBound_run (P := P) (w := w) (code := .slice3C) hn hv h2
                have r2 := sliceBound_run (P := P) (w := w) (code := .slice3B) hk hu h1
                exact ⟨q, by simp [Instr.sliceBounds, r1, r2, r3], h2, h1, rfl, h1, hqr⟩

/-- What is known of a slice's room. -/
theorem room_sound (s : Sim C low ρ h w) {e : TypeId} {a a' : Option Addr} {l l' c c' room : Nat} {exact : Bool} (hr : roomOf C.P h e a c = some (room, exact))
    (hv : VR ρ (.slice a l c) (.slice a' l' c')) : room ≤ c' ∧ (exact = true → room = c' ∧ c' = c ∧ c < big) ∧
      (exact = false → big ≤ c ∧ ∃ a₀ cs fz sz, a = some a₀ ∧ rowAt h a₀.block = some (cs, e, true, fz) ∧ sizeT C.P e = some sz ∧ 0 < sz ∧ room + (c - big) = cs.size / sz) := by
  cases a with
  | none =>
    simp only [roomOf] at hr
    obtain ⟨h1, hr⟩ := cond_some hr
    cases hr
    cases hv
    have h1 : c < big := by simpa using h1
    exact ⟨Nat.le_refl _, fun _ => ⟨rfl, rfl, h1⟩, fun h => by cases h⟩
  | some a =>
    simp only [roomOf] at hr
    by_cases hc : c < big
    · have h1 : Nat.blt c big = true := by simpa using hc
      rw [h1] at hr
      cases hr
      cases hv <;> first
        | exact ⟨Nat.le_refl _, fun _ => ⟨rfl, rfl, hc⟩, fun h => by cases h⟩
        | omega
    · have h1 : Nat.blt c big = false := Bool.eq_false_iff.2 (fun e => hc (by simpa using e))
      rw [h1] at hr
      simp only [cond_false] at hr
      split at hr
      · rename_i cs e' fz sz hrow hsz
        obtain ⟨h2, hr⟩ := cond_some hr
        simp only [Prod.mk.injEq] at hr
        obtain ⟨rfl, rfl⟩ := hr
        simp only [Bool.and_eq_true] at h2
        obtain ⟨⟨h3, h4⟩, h5⟩ := h2
        have h3 := Nat.eq_of_beq_eq_true h3
        subst h3
        have h4 : 0 < sz := by simpa using h4
        have h5 := Nat.le_of_ble_eq_true h5
        have hbc : big ≤ c := Nat.le_of_not_lt hc
        obtain ⟨g, c2, f, r⟩ := s.row (rowAt_get hrow)
        have hcell := cellsOf_sizeT hsz
        have hle : cs.size / sz ≤ g.r := by
          have := (r.ho rfl).2
          rw [hcell] at this
          exact Nat.div_le_of_le_mul (by rw [Nat.mul_comm]; exact this)
        refine ⟨?_, ⟨fun h => Bool.noConfusion h, fun _ => ⟨hbc, a, cs, fz, sz, rfl, hrow, hsz, h4, by omega⟩⟩⟩
        cases hv with
        | slc _ h => exact absurd h hc
        | slcO _ _ hg hr' => rw [r.emb] at hg; cases hg; omega
        | slcZ _ hg hr' _ => rw [r.emb] at hg; cases hg; omega
      · cases hr

theorem run_sliceAt_slice {P : Program} {t e : TypeId} (hu : P.underlying t = some (.slice e)) (x : Value) (lo hi mx : Option Value) :
    (Instr.sliceAt t x lo hi mx).run P w = (Instr.slice t x lo hi mx).run P w := by
  simp [Instr.sliceAt, run_underlying hu]

theorem aslice_sound (s : Sim C low ρ h w) {t : TypeId} {x x' v : Value} {lo lo' hi hi' mx mx' : Option Value} (ha : aslice C h t x lo hi mx = some v)
    (hx : VR ρ x x') (hlo : OVR ρ lo lo') (hhi : OVR ρ hi hi') (hmx : OVR ρ mx mx') :
    ∃ v', (Instr.sliceAt t x' lo' hi' mx').run C.P w = .ok v' w ∧ VR ρ v v' := by
  unfold aslice at ha
  split at ha
  · rename_i elem a len cap hu
    cases hsz : sizeT C.P elem with
    | none => simp [hsz] at ha
    | some size =>
      cases hro : roomOf C.P h elem (some a) cap with
      | none => simp [hsz, hro] at ha
      | some x2 =>
        obtain ⟨room, exact⟩ := x2
        simp only [hsz, hro] at ha
        cases hb : bounds len room exact lo hi mx with
        | none => simp [hb] at ha
        | some x3 =>
          obtain ⟨l, hh, m⟩ := x3
          simp only [hb] at ha
          cases hx with
          | @slc _ a' _ _ hr hc =>
            obtain ⟨h1, h2, h3⟩ := room_sound s hro (VR.slc (l := len) hr hc)
            cases exact with
            | false => have := (h3 rfl).1; omega
            | true =>
              obtain ⟨h4, _, _⟩ := h2 rfl
              subst h4
              obtain ⟨m', run, h5, h6, h7⟩ := bounds_sound (P := C.P) (w := w) (isS := true) hb (Nat.le_refl _) (fun _ => rfl) hlo hhi hmx
              cases m with
              | none => exact absurd h7.2.1 (by simp)
              | some m =>
                obtain ⟨rfl, h8, h9⟩ := h7
                simp only at ha; cases ha
                refine ⟨.slice (some (if m' = l then a' else a'.add (l * size))) (hh - l) (m' - l), ?_, ?_⟩
                · rw [run_sliceAt_slice hu]
                  simp [Instr.slice, run_underlying hu, run, run_sizeOf hsz]
                  split <;> rfl
                · by_cases hm : m' = l
                  · simp only [hm, if_true]; exact .slc hr (by omega)
                  · simp only [hm, if_false]; exact .slc (hr.add _) (by omega)
          | @slcO _ a' _ _ c' g hr hc hg hr' =>
            obtain ⟨h1, h2, h3⟩ := room_sound s hro (VR.slcO (l := len) hr hc hg hr')
            cases exact with
            | true => have := (h2 rfl).2.2; omega
            | false =>
              obtain ⟨m', run, h5, h6, h7⟩ := bounds_sound (P := C.P) (w := w) (isS := true) hb h1 (fun h => by cases h) hlo hhi hmx
              have hrun : (Instr.sliceAt t (.slice (some a') len c') lo' hi' mx').run C.P w = .ok (.slice (some (if m' = l then a' else a'.add (l * size))) (hh - l) (m' - l)) w := by
                rw [run_sliceAt_slice hu]
                simp [Instr.slice, run_underlying hu, run, run_sizeOf hsz]
                split <;> rfl
              refine ⟨_, hrun, ?_⟩
              cases m with
              | some m =>
                obtain ⟨rfl, h8, h9⟩ := h7
                simp only at ha
                obtain ⟨hlt, ha⟩ := cond_some ha
                subst ha
                have hlt : m' < big := by simp at hlt; exact hlt.1
                by_cases hm : m' = l
                · simp only [hm, if_true]; exact .slc hr (by omega)
                · simp only [hm, if_false]; exact .slc (hr.add _) (by omega)
              | none =>
                obtain ⟨rfl, _, h8⟩ := h7
                simp only at ha; cases ha
                by_cases hm : m' = l
                · subst hm
                  have e1 : hh - m' = 0 := by omega
                  simp only [if_true, e1, Nat.sub_self]
                  obtain ⟨_, _, _, _, h11, _⟩ := hr.add (m' * size)
                  refine .slcZ (g := g) (by omega) ?_ (by omega) h11
                  have : (a.add (m' * size)).block = a.block := by unfold Addr.add; split <;> rfl
                  rw [this]; exact hg
                · simp only [hm, if_false]
                  have : (a.add (l * size)).block = a.block := by unfold Addr.add; split <;> rfl
                  exact .slcO (g := g) (hr.add _) (by omega) (by rw [this]; exact hg) (by omega)
          | @slcZ _ a' _ g hc hg hr' hs =>
            obtain ⟨h1, h2, h3⟩ := room_sound s hro (.slcZ (a' := a') hc hg hr' hs)
            cases exact with
            | true => have := (h2 rfl).2.2; omega
            | false =>
              obtain ⟨m', run, h5, h6, h7⟩ := bounds_sound (P := C.P) (w := w) (isS := true) hb h1 (fun h => by cases h) hlo hhi hmx
              have hrun : (Instr.sliceAt t (.slice (some a') 0 0) lo' hi' mx').run C.P w = .ok (.slice (some (if m' = l then a' else a'.add (l * size))) (hh - l) (m' - l)) w := by
                rw [run_sliceAt_slice hu]
                simp [Instr.slice, run_underlying hu, run, run_sizeOf hsz]
                split <;> rfl
              refine ⟨_, hrun, ?_⟩
              cases m with
              | some m =>
                obtain ⟨rfl, h8, h9⟩ := h7
                simp only at ha
                obtain ⟨hlt, ha⟩ := cond_some ha
                exfalso
                have h10 : 0 < room := by simp at hlt; exact hlt.2
                omega
              | none =>
                obtain ⟨rfl, _, h8⟩ := h7
                simp only at ha; cases ha
                have e1 : hh = 0 := by omega
                have e2 : l = 0 := by omega
                subst e1 e2
                simp only [if_true, Nat.sub_self, Nat.zero_mul, Nat.add_zero]
                have : a.add 0 = a := rfl
                rw [this]
                exact .slcZ hc hg hr' hs
  · rename_i n elem a hu
    cases hsz : sizeT C.P elem with
    | none => simp [hsz] at ha
    | some size =>
      cases hb : bounds n n true lo hi mx with
      | none => simp [hsz, hb] at ha
      | some x3 =>
        obtain ⟨l, hh, m⟩ := x3
        simp only [hsz, hb] at ha
        cases hx with
        | @ptr _ a' hr =>
          obtain ⟨m', run, h5, h6, h7⟩ := bounds_sound (P := C.P) (w := w) (isS := false) hb (Nat.le_refl _) (fun _ => rfl) hlo hhi hmx
          cases m with
          | none => exact absurd h7.2.1 (by simp)
          | some m =>
            obtain ⟨rfl, h8, h9⟩ := h7
            simp only at ha
            obtain ⟨hlt, ha⟩ := cond_some ha
            subst ha
            have hlt : m' < big := by simpa using hlt
            refine ⟨.slice (some (if m' = l then a' else a'.add (l * size))) (hh - l) (m' - l), ?_, ?_⟩
            · simp [Instr.sliceAt, Instr.sureAddr, run_underlying hu, run, run_sizeOf hsz]
            · by_cases hm : m' = l
              · simp only [hm, if_true]; exact .slc hr (by omega)
              · simp only [hm, if_false]; exact .slc (hr.add _) (by omega)
  · cases ha
end
end Go.Ev
