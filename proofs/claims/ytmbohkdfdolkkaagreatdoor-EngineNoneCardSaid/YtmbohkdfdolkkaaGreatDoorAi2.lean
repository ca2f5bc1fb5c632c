/- The abstract machine: a deterministic executor of the loaded program over abstract values, addresses and memory. -/
import GoSem.Step
namespace Go.Ai
open Go

/-- Abstract values. 'bad': nothing is known of it. A slice tells its object, its first cell, its length, a number of elements up to which its capacity surely goes, whether the capacity is just that, and the cells of an element. -/
inductive AV where
  | bad
  | bool (b : Bool)
  | int (k : IntKind) (n : Int)
  | float (k : FloatKind) (bits : Nat)
  | str (s : List UInt8)
  | ptr0
  | ptr (o off : Nat)
  | sl0
  | sl (o off len cap : Nat) (exact : Bool) (es : Nat)
  | map0
  | map (o : Nat)
  | fn0
  | fn (f : FuncId) (first captured : List AV)
  | agg (cs : List AV)
  | tup (vs : List AV)
  deriving Inhabited

/-- Binary tries over numbers. -/
inductive TT (α : Type) where
  | e
  | n (v : α) (l r : TT α)

section tries
variable {α : Type}
def half (i : Nat) : Nat := Nat.div (Nat.sub i 1) 2
noncomputable def TT.get (d : α) (t : TT α) : Nat → α :=
  TT.rec (fun _ => d) (fun v _ _ ihl ihr i => cond (Nat.beq i 0) v (cond (Nat.beq (Nat.mod i 2) 1) (ihl (half i)) (ihr (half i)))) t
/-- Where there is a place already. -/
noncomputable def TT.set (t : TT α) : Nat → α → TT α :=
  TT.rec (fun _ _ => .e) (fun v l r ihl ihr i x => cond (Nat.beq i 0) (.n x l r) (cond (Nat.beq (Nat.mod i 2) 1) (.n v (ihl (half i) x) r) (.n v l (ihr (half i) x)))) t
/-- Wherever. -/
noncomputable def TT.putN (d : α) (depth : Nat) : TT α → Nat → α → TT α :=
  Nat.rec (fun t _ _ => t)
    (fun _ ih t i x => TT.casesOn t
      (cond (Nat.beq i 0) (.n x .e .e) (cond (Nat.beq (Nat.mod i 2) 1) (.n d (ih .e (half i) x) .e) (.n d .e (ih .e (half i) x))))
      (fun v l r => cond (Nat.beq i 0) (.n x l r) (cond (Nat.beq (Nat.mod i 2) 1) (.n v (ih l (half i) x) r) (.n v l (ih r (half i) x))))) depth
noncomputable def TT.put (d : α) (t : TT α) (i : Nat) (x : α) : TT α := TT.putN d (Nat.succ i) t i x
/-- A trie of the numbers below n. -/
noncomputable def TT.mkN (f : Nat → α) (n : Nat) (depth : Nat) : Nat → Nat → TT α :=
  Nat.rec (fun _ _ => .e) (fun _ ih a b => cond (Nat.blt b n) (.n (f b) (ih (Nat.mul 2 a) (Nat.add a b)) (ih (Nat.mul 2 a) (Nat.add (Nat.mul 2 a) b))) .e) depth
noncomputable def TT.mk (f : Nat → α) (n : Nat) : TT α := TT.mkN f n n 1 0
/-- Is there a place? -/
noncomputable def TT.has (t : TT α) : Nat → Bool :=
  TT.rec (fun _ => false) (fun _ _ _ ihl ihr i => cond (Nat.beq i 0) true (cond (Nat.beq (Nat.mod i 2) 1) (ihl (half i)) (ihr (half i)))) t
end tries

section lists
variable {α β : Type}
noncomputable def lnth (d : α) (l : List α) : Nat → α := List.rec (fun _ => d) (fun a _ ih i => cond (Nat.beq i 0) a (ih (Nat.sub i 1))) l
noncomputable def llen (l : List α) : Nat := List.rec 0 (fun _ _ n => Nat.succ n) l
noncomputable def lapp (l m : List α) : List α := List.rec m (fun a _ ih => a :: ih) l
noncomputable def lmap (f : α → β) (l : List α) : List β := List.rec [] (fun a _ ih => f a :: ih) l
noncomputable def lall (f : α → Bool) (l : List α) : Bool := List.rec true (fun a _ ih => cond (f a) ih false) l
/-- n of them, from the first on; fewer if there are fewer -/
noncomputable def ltake (n : Nat) : List α → List α := Nat.rec (fun _ => []) (fun _ ih l => List.casesOn l [] (fun a l => a :: ih l)) n
noncomputable def ldrop (n : Nat) : List α → List α := Nat.rec (fun l => l) (fun _ ih l => List.casesOn l [] (fun _ l => ih l)) n
/-- Others from a place on. -/
noncomputable def lput (l : List α) : Nat → List α → List α :=
  List.rec (fun _ _ => []) (fun a l ih i vs => cond (Nat.beq i 0) (List.casesOn vs (a :: l) (fun v vs => v :: ih 0 vs)) (a :: ih (Nat.sub i 1) vs)) l
noncomputable def lrep (zs : List α) (n : Nat) : List α := Nat.rec [] (fun _ ih => lapp zs ih) n
noncomputable def ob (x : Option α) (f : α → Option β) : Option β := Option.rec none f x
end lists

inductive AObj where
  | none
  /-- cells; the class of those that may share memory with it, and the stamp at which it was last surely whole -/
  | cells (cs : List AV) (share : Option (Nat × Nat))
  | map (es : List (AV × AV))
  deriving Inhabited

/-- Objects; of each class its stamp, and how many cells any member has; the next new object. -/
structure Heap where
  objs : TT AObj
  cls : TT (Nat × Nat)
  next : Nat

noncomputable def Heap.obj (H : Heap) (o : Nat) : AObj := H.objs.get .none o
noncomputable def Heap.clsOf (H : Heap) (c : Nat) : Nat × Nat := H.cls.get (0, 0) c
noncomputable def Heap.put (H : Heap) (o : Nat) (x : AObj) : Heap := ⟨TT.put .none H.objs o x, H.cls, H.next⟩
noncomputable def Heap.putCls (H : Heap) (c : Nat) (x : Nat × Nat) : Heap := ⟨H.objs, TT.put (0, 0) H.cls c x, H.next⟩
/-- A new object that shares its memory with nobody. -/
noncomputable def Heap.new (H : Heap) (x : AObj) : Heap := ⟨TT.put .none H.objs H.next x, H.cls, Nat.succ H.next⟩
/-- A new row: a class of its own. -/
noncomputable def Heap.newRow (H : Heap) (cs : List AV) : Heap :=
  ⟨TT.put .none H.objs H.next (.cells cs (some (H.next, 0))), TT.put (0, 0) H.cls H.next (0, llen cs), Nat.succ H.next⟩

/-- A slice that grew, in a class: nobody knows whether in place. -/
noncomputable def Heap.fork (H : Heap) (cs : List AV) (c s : Nat) : Heap :=
  ⟨TT.put .none H.objs H.next (.cells cs (some (c, s))), TT.put (0, 0) H.cls c (s, llen cs), Nat.succ H.next⟩

/-- What a reader of cells finds. -/
inductive CR where
  | none
  | some (cs : List AV) (share : Option (Nat × Nat))

/-- A stamp that marks what may be read, and is never written. -/
noncomputable def roSh (sh : Option (Nat × Nat)) : Bool := Option.casesOn sh false fun p => Nat.beq p.2 4611686018427387904
noncomputable def wr {α : Type} (d : α) (sh : Option (Nat × Nat)) (x : α) : α := cond (roSh sh) d x

/-- The cells of an object, if they are surely what is told. -/
noncomputable def Heap.cells? (H : Heap) (o : Nat) : CR :=
  AObj.casesOn (H.obj o) .none
    (fun cs share => Option.casesOn share (.some cs none)
      (fun p => cond (Nat.beq p.2 (H.clsOf p.1).1) (.some cs (some p)) .none))
    (fun _ => .none)

noncomputable def Heap.map? (H : Heap) (o : Nat) : Option (List (AV × AV)) := AObj.casesOn (H.obj o) none (fun _ _ => none) (fun es => some es)

/-- Other cells: whoever may share the memory is not sure any more. -/
noncomputable def Heap.write (H : Heap) (o : Nat) (share : Option (Nat × Nat)) (cs : List AV) : Heap :=
  Option.casesOn share (H.put o (.cells cs none))
    (fun p => (H.put o (.cells cs (some (p.1, Nat.succ p.2)))).putCls p.1 (Nat.succ p.2, (H.clsOf p.1).2))

noncomputable def AV.cells (v : AV) : List AV := AV.casesOn v [v] (fun _ => [v]) (fun _ _ => [v]) (fun _ _ => [v]) (fun _ => [v]) [v] (fun _ _ => [v]) [v] (fun _ _ _ _ _ _ => [v]) [v] (fun _ => [v]) [v] (fun _ _ _ => [v]) (fun cs => cs) (fun _ => [v])
/-- May a cell hold it? -/
noncomputable def AV.single (v : AV) : Bool := AV.casesOn v false (fun _ => true) (fun _ _ => true) (fun _ _ => true) (fun _ => true) true (fun _ _ => true) true (fun _ _ _ _ _ _ => true) true (fun _ => true) true (fun _ _ _ => true) (fun _ => false) (fun _ => false)

/-- A constant. -/
def ofCell : Value → AV
  | .bool b => .bool b
  | .int k n => .int k n
  | .float k b => .float k b
  | .string s => .str s.data.toList
  | .pointer none => .ptr0
  | .slice none 0 0 => .sl0
  | .map none => .map0
  | .nilFunc => .fn0
  | _ => .bad
def ofValue : Value → AV
  | .tuple ⟨[]⟩ => .tup []
  | .agg ⟨cs⟩ => .agg (cs.map ofCell)
  | v => ofCell v


/-- Of a type what the machine asks of it. -/
inductive TK where
  | none
  | bool
  | int (k : IntKind)
  | float (k : FloatKind)
  | string
  | pointer (elem : TypeId)
  /-- cells and bytes of an element, its zero, whether it is a byte -/
  | slice (es eb : Nat) (zc : List AV) (u8 : Bool)
  | array (len es : Nat) (agg : Bool)
  /-- is the key an integer; is it a string; what is told of what is not there -/
  | map (kint kstr : Bool) (zero : AV)
  /-- of each field its place, its cells, is it an aggregate -/
  | struct (fields : List (Nat × Nat × Bool))
  | func
  | other
  deriving Inhabited

structure TI where
  kind : TK
  size : Nat
  agg : Bool
  zero : AV
  /-- of which kinds its cells are, if its values may be compared cell by cell (0: bool, 1: integer, 2: float, 3: text) -/
  eqs : List Nat
  deriving Inhabited

def TI.no : TI := ⟨.none, 0, false, .bad, []⟩

/-- A function: its body, its slots, its results. -/
inductive FI where
  | none
  | some (ntmps : Nat) (results : List ResultVar) (body : Code)
  | bits (to : Bool)

structure Tab where
  fns : TT FI
  tys : TT TI

noncomputable def Tab.fn (T : Tab) (f : Nat) : FI := T.fns.get .none f
noncomputable def Tab.ty (T : Tab) (t : Nat) : TI := T.tys.get TI.no t
noncomputable def Tab.size (T : Tab) (t : Nat) : Nat := (T.ty t).size
noncomputable def Tab.agg (T : Tab) (t : Nat) : Bool := (T.ty t).agg
noncomputable def Tab.kind (T : Tab) (t : Nat) : TK := (T.ty t).kind

abbrev Env := TT AV
def undefA : AV := .tup []

noncomputable def ev (x : Operand) : Env → AV :=
  Operand.casesOn x (fun t ρ => ρ.get undefA t) (fun v _ => ofValue v) (fun _ _ => .bad) (fun f _ => .fn f [] [])
noncomputable def evs (l : List Operand) (ρ : Env) : List AV := lmap (fun x => ev x ρ) l

/-- What an operation comes to. -/
inductive OR where
  | fail
  | val (v : AV) (H : Heap)
  | skip (H : Heap)
  | call (f : FuncId) (args : List AV) (H : Heap)

/-- A value, if it is one, and memory as it is. -/
noncomputable def OR.of (v : AV) (H : Heap) : OR := AV.casesOn v .fail (fun _ => .val v H) (fun _ _ => .val v H) (fun _ _ => .val v H) (fun _ => .val v H) (.val v H) (fun _ _ => .val v H) (.val v H) (fun _ _ _ _ _ _ => .val v H) (.val v H) (fun _ => .val v H) (.val v H) (fun _ _ _ => .val v H) (fun _ => .val v H) (fun _ => .val v H)

/-- By kind of value. -/
noncomputable def AV.onInt {α : Type} (d : α) (f : IntKind → Int → α) (v : AV) : α := AV.casesOn v d (fun _ => d) f (fun _ _ => d) (fun _ => d) d (fun _ _ => d) d (fun _ _ _ _ _ _ => d) d (fun _ => d) d (fun _ _ _ => d) (fun _ => d) (fun _ => d)
noncomputable def AV.onBool {α : Type} (d : α) (f : Bool → α) (v : AV) : α := AV.casesOn v d f (fun _ _ => d) (fun _ _ => d) (fun _ => d) d (fun _ _ => d) d (fun _ _ _ _ _ _ => d) d (fun _ => d) d (fun _ _ _ => d) (fun _ => d) (fun _ => d)
noncomputable def AV.onPtr {α : Type} (d : α) (f : Nat → Nat → α) (v : AV) : α := AV.casesOn v d (fun _ => d) (fun _ _ => d) (fun _ _ => d) (fun _ => d) d f d (fun _ _ _ _ _ _ => d) d (fun _ => d) d (fun _ _ _ => d) (fun _ => d) (fun _ => d)
noncomputable def AV.onAgg {α : Type} (d : α) (f : List AV → α) (v : AV) : α := AV.casesOn v d (fun _ => d) (fun _ _ => d) (fun _ _ => d) (fun _ => d) d (fun _ _ => d) d (fun _ _ _ _ _ _ => d) d (fun _ => d) d (fun _ _ _ => d) f (fun _ => d)
noncomputable def AV.onTup {α : Type} (d : α) (f : List AV → α) (v : AV) : α := AV.casesOn v d (fun _ => d) (fun _ _ => d) (fun _ _ => d) (fun _ => d) d (fun _ _ => d) d (fun _ _ _ _ _ _ => d) d (fun _ => d) d (fun _ _ _ => d) (fun _ => d) f
noncomputable def AV.onStr {α : Type} (d : α) (f : List UInt8 → α) (v : AV) : α := AV.casesOn v d (fun _ => d) (fun _ _ => d) (fun _ _ => d) f d (fun _ _ => d) d (fun _ _ _ _ _ _ => d) d (fun _ => d) d (fun _ _ _ => d) (fun _ => d) (fun _ => d)

/-- Integers by their signs. -/
noncomputable def ilt (x y : Int) : Bool := Int.casesOn x (fun a => Int.casesOn y (fun b => Nat.blt a b) (fun _ => false)) (fun a => Int.casesOn y (fun _ => true) (fun b => Nat.blt b a))
noncomputable def ieq (x y : Int) : Bool := Int.casesOn x (fun a => Int.casesOn y (fun b => Nat.beq a b) (fun _ => false)) (fun a => Int.casesOn y (fun _ => false) (fun b => Nat.beq a b))
/-- Whole numbers from 0 on. -/
noncomputable def natOf {α : Type} (d : α) (f : Nat → α) (v : AV) : α := v.onInt d fun _ n => Int.casesOn n f fun _ => d

/-- Below that numbers of a kind need no wrap; may they be below 0. -/
def lim (k : IntKind) : Nat := match k with | .i8 => 128 | .i16 => 32768 | .i32 => 2147483648 | .i64 => 9223372036854775808 | .u8 => 256 | .u16 => 65536 | .u32 => 4294967296 | .u64 => 18446744073709551616
noncomputable def fwrap (k : IntKind) (n : Int) : Int :=
  Int.casesOn n (fun a => cond (Nat.blt a (lim k)) (.ofNat a) (k.wrap (.ofNat a))) (fun a => cond (cond k.signed (Nat.blt a (lim k)) false) (.negSucc a) (k.wrap (.negSucc a)))

/-- Bits of two numbers from 0 on; else the long way. -/
noncomputable def bitsA (slow : IntKind → Int → Int → AV) (f : Nat → Nat → Nat) (k : IntKind) (x y : Int) : AV :=
  Int.casesOn x (fun a => Int.casesOn y (fun b => cond (cond (Nat.blt a (lim k)) (Nat.blt b (lim k)) false) (.int k (.ofNat (f a b))) (slow k (.ofNat a) (.ofNat b))) (fun b => slow k (.ofNat a) (.negSucc b))) (fun a => slow k (.negSucc a) y)
def bitsSlow (op : BinOp) (k : IntKind) (x y : Int) : AV :=
  match Op.intBits op k x y with
  | .pure (.int k n) => .int k n
  | _ => .bad

noncomputable def shlA (k : IntKind) (x y : Int) : AV :=
  Int.casesOn y (fun n => Int.casesOn x
      (fun a => .int k (fwrap k (.ofNat (Nat.shiftLeft a (cond (Nat.ble n k.bits) n k.bits)))))
      (fun a => .int k (k.wrap (.negSucc a * 2 ^ (min n k.bits))))) (fun _ => .bad)
noncomputable def shrA (k : IntKind) (x y : Int) : AV :=
  Int.casesOn y (fun n => Int.casesOn x
      (fun a => .int k (.ofNat (Nat.shiftRight a (cond (Nat.ble n k.bits) n k.bits))))
      (fun a => .int k ((Int.negSucc a).fdiv (2 ^ (min n k.bits))))) (fun _ => .bad)

noncomputable def keq (j k : IntKind) : Bool := IntKind.casesOn j
  (IntKind.casesOn k true false false false false false false false) (IntKind.casesOn k false true false false false false false false)
  (IntKind.casesOn k false false true false false false false false) (IntKind.casesOn k false false false true false false false false)
  (IntKind.casesOn k false false false false true false false false) (IntKind.casesOn k false false false false false true false false)
  (IntKind.casesOn k false false false false false false true false) (IntKind.casesOn k false false false false false false false true)

noncomputable def intA (op : BinOp) : IntKind → Int → Int → AV :=
  BinOp.casesOn (motive := fun _ => IntKind → Int → Int → AV) op
    (fun k a b => .int k (fwrap k (Int.add a b)))
    (fun k a b => .int k (fwrap k (Int.sub a b)))
    (fun k a b => .int k (fwrap k (Int.mul a b)))
    (fun k a b => cond (ieq b 0) .bad (.int k (fwrap k (a.tdiv b))))
    (fun k a b => cond (ieq b 0) .bad (.int k (a.tmod b)))
    (bitsA (bitsSlow .and) Nat.land)
    (bitsA (bitsSlow .or) Nat.lor)
    (bitsA (bitsSlow .xor) Nat.xor)
    (fun _ _ _ => .bad)
    (fun _ _ _ => .bad)
    (bitsSlow .andNot)
    (fun _ a b => .bool (ieq a b))
    (fun _ a b => .bool (not (ieq a b)))
    (fun _ a b => .bool (ilt a b))
    (fun _ a b => .bool (not (ilt b a)))
    (fun _ a b => .bool (ilt b a))
    (fun _ a b => .bool (not (ilt a b)))


noncomputable def seq (a : List UInt8) : List UInt8 → Bool :=
  List.rec (fun b => List.casesOn b true (fun _ _ => false)) (fun x _ ih b => List.casesOn b false (fun y b => cond (Nat.beq x.toNat y.toNat) (ih b) false)) a

noncomputable def strA (op : BinOp) : List UInt8 → List UInt8 → AV :=
  BinOp.casesOn (motive := fun _ => List UInt8 → List UInt8 → AV) op
    (fun a b => cond (Nat.ble (Nat.add (llen a) (llen b)) 9223372036854775807) (.str (lapp a b)) .bad)
    (fun _ _ => .bad) (fun _ _ => .bad) (fun _ _ => .bad) (fun _ _ => .bad) (fun _ _ => .bad) (fun _ _ => .bad) (fun _ _ => .bad) (fun _ _ => .bad) (fun _ _ => .bad) (fun _ _ => .bad)
    (fun a b => .bool (seq a b))
    (fun a b => .bool (not (seq a b)))
    (fun a b => .bool (Op.bytesLess a b))
    (fun a b => .bool (or (Op.bytesLess a b) (seq a b)))
    (fun a b => .bool (not (or (Op.bytesLess a b) (seq a b))))
    (fun a b => .bool (not (Op.bytesLess a b)))

def fcmpA (op : BinOp) (k : FloatKind) (x y : Nat) : AV :=
  match Op.floatCmp op k x y with
  | .pure (.bool b) => .bool b
  | _ => .bad
def isCmp (op : BinOp) : Bool := match op with | .eql | .neq | .lss | .leq | .gtr | .geq => true | _ => false

def fkeq : FloatKind → FloatKind → Bool
  | .f32, .f32 | .f64, .f64 => true
  | _, _ => false

/-- Two cells: alike, not alike, nobody knows. -/
noncomputable def cellEq (x y : AV) : AV :=
  AV.casesOn x .bad
    (fun a => y.onBool .bad fun b => .bool (cond a b (not b)))
    (fun k a => y.onInt .bad fun k' b => cond (keq k k') (.bool (ieq a b)) .bad)
    (fun k a => AV.casesOn y .bad (fun _ => .bad) (fun _ _ => .bad) (fun k' b => cond (fkeq k k') (.bool (Op.floatEq k a b)) .bad) (fun _ => .bad) .bad (fun _ _ => .bad) .bad (fun _ _ _ _ _ _ => .bad) .bad (fun _ => .bad) .bad (fun _ _ _ => .bad) (fun _ => .bad) (fun _ => .bad))
    (fun a => y.onStr .bad fun b => .bool (seq a b))
    .bad (fun _ _ => .bad) .bad (fun _ _ _ _ _ _ => .bad) .bad (fun _ => .bad) .bad (fun _ _ _ => .bad) (fun _ => .bad) (fun _ => .bad)
noncomputable def codeOf (x : AV) : Nat := AV.casesOn x 9 (fun _ => 0) (fun _ _ => 1) (fun _ _ => 2) (fun _ => 3) 9 (fun _ _ => 9) 9 (fun _ _ _ _ _ _ => 9) 9 (fun _ => 9) 9 (fun _ _ _ => 9) (fun _ => 9) (fun _ => 9)
/-- Cells of told kinds. -/
noncomputable def cellsEq (cs : List Nat) : List AV → List AV → AV :=
  List.rec (fun xs ys => List.casesOn xs (List.casesOn ys (.bool true) (fun _ _ => .bad)) (fun _ _ => .bad))
    (fun c _ ih xs ys => List.casesOn xs .bad fun x xs => List.casesOn ys .bad fun y ys =>
      cond (Nat.beq (codeOf x) c) ((cellEq x y).onBool .bad fun b => cond b (ih xs ys) (.bool false)) .bad) cs

noncomputable def TK.known (k : TK) : Bool := TK.casesOn k false true (fun _ => true) (fun _ => true) true (fun _ => true) (fun _ _ _ _ => true) (fun _ _ _ => true) (fun _ _ _ => true) (fun _ => true) true true
noncomputable def TK.isBool (k : TK) : Bool := TK.casesOn k false true (fun _ => false) (fun _ => false) false (fun _ => false) (fun _ _ _ _ => false) (fun _ _ _ => false) (fun _ _ _ => false) (fun _ => false) false false
noncomputable def TK.isPointer (k : TK) : Bool := TK.casesOn k false false (fun _ => false) (fun _ => false) false (fun _ => true) (fun _ _ _ _ => false) (fun _ _ _ => false) (fun _ _ _ => false) (fun _ => false) false false
noncomputable def TK.isSlice (k : TK) : Bool := TK.casesOn k false false (fun _ => false) (fun _ => false) false (fun _ => false) (fun _ _ _ _ => true) (fun _ _ _ => false) (fun _ _ _ => false) (fun _ => false) false false
noncomputable def TK.isMap (k : TK) : Bool := TK.casesOn k false false (fun _ => false) (fun _ => false) false (fun _ => false) (fun _ _ _ _ => false) (fun _ _ _ => false) (fun _ _ _ => true) (fun _ => false) false false
noncomputable def TK.isFunc (k : TK) : Bool := TK.casesOn k false false (fun _ => false) (fun _ => false) false (fun _ => false) (fun _ _ _ _ => false) (fun _ _ _ => false) (fun _ _ _ => false) (fun _ => false) true false
noncomputable def TK.isString (k : TK) : Bool := TK.casesOn k false false (fun _ => false) (fun _ => false) true (fun _ => false) (fun _ _ _ _ => false) (fun _ _ _ => false) (fun _ _ _ => false) (fun _ => false) false false
noncomputable def TK.onSlice {α : Type} (d : α) (f : Nat → Nat → List AV → Bool → α) (k : TK) : α := TK.casesOn k d d (fun _ => d) (fun _ => d) d (fun _ => d) f (fun _ _ _ => d) (fun _ _ _ => d) (fun _ => d) d d
noncomputable def TK.onStruct {α : Type} (d : α) (f : List (Nat × Nat × Bool) → α) (k : TK) : α := TK.casesOn k d d (fun _ => d) (fun _ => d) d (fun _ => d) (fun _ _ _ _ => d) (fun _ _ _ => d) (fun _ _ _ => d) f d d
noncomputable def TK.onArray {α : Type} (d : α) (f : Nat → Nat → Bool → α) (k : TK) : α := TK.casesOn k d d (fun _ => d) (fun _ => d) d (fun _ => d) (fun _ _ _ _ => d) f (fun _ _ _ => d) (fun _ => d) d d
noncomputable def TK.onMap {α : Type} (d : α) (f : Bool → Bool → AV → α) (k : TK) : α := TK.casesOn k d d (fun _ => d) (fun _ => d) d (fun _ => d) (fun _ _ _ _ => d) (fun _ _ _ => d) f (fun _ => d) d d
noncomputable def TK.onInt {α : Type} (d : α) (f : IntKind → α) (k : TK) : α := TK.casesOn k d d f (fun _ => d) d (fun _ => d) (fun _ _ _ _ => d) (fun _ _ _ => d) (fun _ _ _ => d) (fun _ => d) d d

/-- Which nil, or what else: by the value's own constructor. -/
noncomputable def AV.nilOf (isP isS isM isF : Bool) (v : AV) : AV := AV.casesOn v .bad (fun _ => .bad) (fun _ _ => .bad) (fun _ _ => .bad) (fun _ => .bad)
  (cond isP (.bool true) .bad) (fun _ _ => cond isP (.bool false) .bad) (cond isS (.bool true) .bad) (fun _ _ _ _ _ _ => cond isS (.bool false) .bad)
  (cond isM (.bool true) .bad) (fun _ => cond isM (.bool false) .bad) (cond isF (.bool true) .bad) (fun _ _ _ => cond isF (.bool false) .bad) (fun _ => .bad) (fun _ => .bad)

noncomputable def eqA (T : Tab) (t : TypeId) (x y : AV) : AV :=
  AV.casesOn x .bad
    (fun a => cond (T.kind t).isBool (y.onBool .bad fun b => .bool (cond a b (not b))) .bad)
    (fun _ _ => .bad) (fun _ _ => .bad) (fun _ => .bad)
    (cond (T.kind t).isPointer (y.nilOf true false false false) .bad)
    (fun _ _ => cond (T.kind t).isPointer (AV.casesOn y .bad (fun _ => .bad) (fun _ _ => .bad) (fun _ _ => .bad) (fun _ => .bad) (.bool false) (fun _ _ => .bad) .bad (fun _ _ _ _ _ _ => .bad) .bad (fun _ => .bad) .bad (fun _ _ _ => .bad) (fun _ => .bad) (fun _ => .bad)) .bad)
    (cond (T.kind t).isSlice (y.nilOf false true false false) .bad)
    (fun _ _ _ _ _ _ => cond (T.kind t).isSlice (AV.casesOn y .bad (fun _ => .bad) (fun _ _ => .bad) (fun _ _ => .bad) (fun _ => .bad) .bad (fun _ _ => .bad) (.bool false) (fun _ _ _ _ _ _ => .bad) .bad (fun _ => .bad) .bad (fun _ _ _ => .bad) (fun _ => .bad) (fun _ => .bad)) .bad)
    (cond (T.kind t).isMap (y.nilOf false false true false) .bad)
    (fun _ => cond (T.kind t).isMap (AV.casesOn y .bad (fun _ => .bad) (fun _ _ => .bad) (fun _ _ => .bad) (fun _ => .bad) .bad (fun _ _ => .bad) .bad (fun _ _ _ _ _ _ => .bad) (.bool false) (fun _ => .bad) .bad (fun _ _ _ => .bad) (fun _ => .bad) (fun _ => .bad)) .bad)
    (cond (T.kind t).isFunc (y.nilOf false false false true) .bad)
    (fun _ _ _ => cond (T.kind t).isFunc (AV.casesOn y .bad (fun _ => .bad) (fun _ _ => .bad) (fun _ _ => .bad) (fun _ => .bad) .bad (fun _ _ => .bad) .bad (fun _ _ _ _ _ _ => .bad) .bad (fun _ => .bad) (.bool false) (fun _ _ _ => .bad) (fun _ => .bad) (fun _ => .bad)) .bad)
    (fun xs => List.casesOn (T.ty t).eqs .bad fun _ _ => y.onAgg .bad fun ys => cellsEq (T.ty t).eqs xs ys)
    (fun _ => .bad)

/-- The two shifts, whose operands may be of two kinds. -/
noncomputable def shiftA (op : BinOp) : Option (IntKind → Int → Int → AV) :=
  BinOp.casesOn op none none none none none none none none (some shlA) (some shrA) none none none none none none none
/-- == and != of what is neither number nor text. -/
noncomputable def eqOp (op : BinOp) (r : AV) : AV :=
  BinOp.casesOn op .bad .bad .bad .bad .bad .bad .bad .bad .bad .bad .bad (r.onBool .bad fun b => .bool b) (r.onBool .bad fun b => .bool (not b)) .bad .bad .bad .bad

noncomputable def binA (T : Tab) (op : BinOp) (t : TypeId) (x y : AV) : AV :=
  AV.casesOn x (eqOp op (eqA T t x y)) (fun _ => eqOp op (eqA T t x y))
    (fun k a => y.onInt .bad fun k' b => Option.casesOn (shiftA op) (cond (keq k k') (intA op k a b) .bad) (fun f => f k a b))
    (fun k a => AV.casesOn y .bad (fun _ => .bad) (fun _ _ => .bad) (fun k' b => cond (fkeq k k') (cond (isCmp op) (fcmpA op k a b) .bad) .bad) (fun _ => .bad) .bad (fun _ _ => .bad) .bad (fun _ _ _ _ _ _ => .bad) .bad (fun _ => .bad) .bad (fun _ _ _ => .bad) (fun _ => .bad) (fun _ => .bad))
    (fun a => y.onStr .bad fun b => strA op a b)
    (eqOp op (eqA T t x y)) (fun _ _ => eqOp op (eqA T t x y)) (eqOp op (eqA T t x y)) (fun _ _ _ _ _ _ => eqOp op (eqA T t x y))
    (eqOp op (eqA T t x y)) (fun _ => eqOp op (eqA T t x y)) (eqOp op (eqA T t x y)) (fun _ _ _ => eqOp op (eqA T t x y)) (fun _ => eqOp op (eqA T t x y)) (fun _ => .bad)

noncomputable def unA (op : UnOp) (x : AV) : AV :=
  UnOp.casesOn op (x.onInt .bad fun k n => .int k (fwrap k (Int.sub 0 n))) (x.onInt .bad fun k n => bitsSlow .xor k (if k.signed then -1 else k.max) n)
    (x.onBool .bad fun b => .bool (not b)) .bad

/-- Parts laid into cells: places and sizes of the parts. -/
noncomputable def fillA (place : Nat → Option (Nat × Nat)) (parts : List (Nat × Operand)) (ρ : Env) : List AV → Option (List AV) :=
  List.rec (fun cs => some cs)
    (fun p _ ih cs => Option.casesOn (place p.1) none (fun q =>
      cond (cond (Nat.beq (llen (ev p.2 ρ).cells) q.2) (cond (Nat.ble (Nat.add q.1 q.2) (llen cs)) (lall AV.single (ev p.2 ρ).cells) false) false)
        (ih (lput cs q.1 (ev p.2 ρ).cells)) none)) parts
noncomputable def fieldPlace (fs : List (Nat × Nat × Bool)) : Nat → Option (Nat × Nat) :=
  List.rec (fun _ => none) (fun f _ ih i => cond (Nat.beq i 0) (some (f.1, f.2.1)) (ih (Nat.sub i 1))) fs

/-- n cells from a place on, if they are there. -/
noncomputable def slc {α : Type} (d : α) (f : List AV → α) (l : List AV) (off n : Nat) : α :=
  cond (Nat.beq (llen (ltake n (ldrop off l))) n) (f (ltake n (ldrop off l))) d

noncomputable def partA (agg : Bool) (size : Nat) (cs : List AV) (off : Nat) : AV := cond agg (slc .bad AV.agg cs off size) (lnth .bad cs off)

noncomputable def loadA (T : Tab) (t : TypeId) (a : AV) (H : Heap) : OR :=
  cond (T.kind t).known (a.onPtr .fail fun o off => CR.casesOn (H.cells? o) .fail fun cs _ => OR.of (partA (T.agg t) (T.size t) cs off) H) .fail

noncomputable def storeA (T : Tab) (t : TypeId) (a v : AV) (H : Heap) : OR :=
  cond (T.kind t).known (a.onPtr .fail fun o off => CR.casesOn (H.cells? o) .fail fun cs sh => wr .fail sh (
    cond (cond (Nat.beq (llen v.cells) (T.size t)) (cond (Nat.ble (Nat.add off (T.size t)) (llen cs)) (lall AV.single v.cells) false) false)
      (.skip (H.write o sh (lput cs off v.cells))) .fail)) .fail

/-- A bound of a slice: of an operand, or what is told. -/
noncomputable def bound {α : Type} (d : α) (x : Option Operand) (e : Nat) (ρ : Env) (f : Nat → α) : α := Option.casesOn x (f e) (fun x => natOf d f (ev x ρ))

noncomputable def sliceA (T : Tab) (t : TypeId) (x : Operand) (lo hi mx : Option Operand) (ρ : Env) (H : Heap) : OR :=
  AV.casesOn (ev x ρ) .fail (fun _ => .fail) (fun _ _ => .fail) (fun _ _ => .fail)
    (fun s => cond (T.kind t).isString (Option.casesOn mx
      (bound .fail hi (llen s) ρ fun h => bound .fail lo 0 ρ fun l => cond (cond (Nat.ble l h) (Nat.ble h (llen s)) false) (.val (.str (ltake (Nat.sub h l) (ldrop l s))) H) .fail) (fun _ => .fail)) .fail)
    .fail
    (fun o off => (T.kind t).onArray .fail fun n es _ => bound .fail mx n ρ fun m => bound .fail hi n ρ fun h => bound .fail lo 0 ρ fun l =>
      cond (cond (Nat.ble l h) (cond (Nat.ble h m) (cond (Nat.ble m n) (cond mx.isSome hi.isSome true) false) false) false) (CR.casesOn (H.cells? o) .fail fun cs _ => cond (Nat.ble (Nat.add off (Nat.mul n es)) (llen cs)) (.val (.sl o (Nat.add off (Nat.mul l es)) (Nat.sub h l) (Nat.sub m l) true es) H) .fail) .fail)
    (cond (T.kind t).isSlice (bound .fail mx 0 ρ fun m => bound .fail hi 0 ρ fun h => bound .fail lo 0 ρ fun l =>
      cond (cond (Nat.ble l h) (cond (Nat.ble h m) (cond (Nat.ble m 0) (cond mx.isSome hi.isSome true) false) false) false) (.val .sl0 H) .fail) .fail)
    (fun o off len cap ex es => (T.kind t).onSlice .fail fun es' _ _ _ => cond (Nat.beq es es')
      (bound .fail mx cap ρ fun m => bound .fail hi len ρ fun h => bound .fail lo 0 ρ fun l =>
        cond (cond (Nat.ble l h) (cond (Nat.ble h m) (cond (Nat.ble m cap) (cond mx.isSome hi.isSome true) false) false) false)
          (.val (.sl o (Nat.add off (Nat.mul l es)) (Nat.sub h l) (Nat.sub m l) (or ex mx.isSome) es) H) .fail) .fail)
    .fail (fun _ => .fail) .fail (fun _ _ _ => .fail) (fun _ => .fail) (fun _ => .fail)

noncomputable def goN (n : Nat) (H : Heap) : OR := .val (.int .i64 (.ofNat n)) H

noncomputable def lenA (T : Tab) (t : TypeId) (x : AV) (H : Heap) : OR :=
  AV.casesOn x .fail (fun _ => .fail) (fun _ _ => .fail) (fun _ _ => .fail)
    (fun s => cond (T.kind t).isString (goN (llen s) H) .fail)
    .fail (fun _ _ => .fail)
    (cond (T.kind t).isSlice (goN 0 H) .fail) (fun _ _ len _ _ _ => cond (T.kind t).isSlice (goN len H) .fail)
    (cond (T.kind t).isMap (goN 0 H) .fail) (fun o => cond (T.kind t).isMap (Option.casesOn (H.map? o) .fail fun es => goN (llen es) H) .fail)
    .fail (fun _ _ _ => .fail) (fun _ => .fail) (fun _ => .fail)

/-- Is it a key of a kind? -/
noncomputable def keyOk (kint kstr : Bool) (k : AV) : Bool := AV.casesOn k false (fun _ => false) (fun _ _ => kint) (fun _ _ => false) (fun _ => kstr) false (fun _ _ => false) false (fun _ _ _ _ _ _ => false) false (fun _ => false) false (fun _ _ _ => false) (fun _ => false) (fun _ => false)

/-- Where a key stands: 'some (some (place, value))', 'some none': nowhere; 'none': nobody knows. -/
inductive FR where
  | unknown
  | no
  | at_ (i : Nat) (v : AV)
noncomputable def findA (k : AV) (es : List (AV × AV)) : Nat → FR :=
  List.rec (fun _ => .no) (fun e _ ih i => (cellEq k e.1).onBool .unknown fun b => cond b (.at_ i e.2) (ih (Nat.succ i))) es

noncomputable def lookupA (T : Tab) (t : TypeId) (x k : AV) (ok : Bool) (H : Heap) : OR :=
  (T.kind t).onMap .fail fun kint kstr z => cond (keyOk kint kstr k)
    (AV.casesOn x .fail (fun _ => .fail) (fun _ _ => .fail) (fun _ _ => .fail) (fun _ => .fail) .fail (fun _ _ => .fail) .fail (fun _ _ _ _ _ _ => .fail)
      (cond ok (.val (.tup [z, .bool false]) H) (OR.of z H))
      (fun o => Option.casesOn (H.map? o) .fail fun es => FR.casesOn (findA k es 0) .fail
        (cond ok (.val (.tup [z, .bool false]) H) (OR.of z H)) (fun _ v => cond ok (.val (.tup [v, .bool true]) H) (OR.of v H)))
      .fail (fun _ _ _ => .fail) (fun _ => .fail) (fun _ => .fail)) .fail

noncomputable def mapUpdateA (T : Tab) (t : TypeId) (m k v : AV) (H : Heap) : OR :=
  (T.kind t).onMap .fail fun kint kstr _ => cond (keyOk kint kstr k)
    (AV.casesOn m .fail (fun _ => .fail) (fun _ _ => .fail) (fun _ _ => .fail) (fun _ => .fail) .fail (fun _ _ => .fail) .fail (fun _ _ _ _ _ _ => .fail) .fail
      (fun o => Option.casesOn (H.map? o) .fail fun es => FR.casesOn (findA k es 0) .fail
        (.skip (H.put o (.map (lapp es [(k, v)])))) (fun i _ => .skip (H.put o (.map (lput es i [(k, v)])))))
      .fail (fun _ _ _ => .fail) (fun _ => .fail) (fun _ => .fail)) .fail

noncomputable def lerase {α : Type} (l : List α) : Nat → List α := List.rec (fun _ => []) (fun a l ih i => cond (Nat.beq i 0) l (a :: ih (Nat.sub i 1))) l

noncomputable def deleteA (T : Tab) (t : TypeId) (m k : AV) (H : Heap) : OR :=
  (T.kind t).onMap .fail fun kint kstr _ => cond (keyOk kint kstr k)
    (AV.casesOn m .fail (fun _ => .fail) (fun _ _ => .fail) (fun _ _ => .fail) (fun _ => .fail) .fail (fun _ _ => .fail) .fail (fun _ _ _ _ _ _ => .fail)
      (.val (.tup []) H)
      (fun o => Option.casesOn (H.map? o) .fail fun es => FR.casesOn (findA k es 0) .fail
        (.val (.tup []) H) (fun i _ => .val (.tup []) (H.put o (.map (lerase es i)))))
      .fail (fun _ _ _ => .fail) (fun _ => .fail) (fun _ => .fail)) .fail

/-- How many elements, and the cells of the first n. -/
noncomputable def lenOfA {α : Type} (d : α) (f : Nat → α) (x : AV) : α := AV.casesOn x d (fun _ => d) (fun _ _ => d) (fun _ _ => d) (fun s => f (llen s)) d (fun _ _ => d) (f 0) (fun _ _ n _ _ _ => f n) d (fun _ => d) d (fun _ _ _ => d) (fun _ => d) (fun _ => d)
noncomputable def byteV (b : UInt8) : AV := .int .u8 (.ofNat b.toNat)
noncomputable def firstA {α : Type} (d : α) (f : List AV → α) (size n : Nat) (x : AV) (H : Heap) : α :=
  AV.casesOn x d (fun _ => d) (fun _ _ => d) (fun _ _ => d) (fun s => cond (cond (Nat.beq size 1) (Nat.ble n (llen s)) false) (f (lmap byteV (ltake n s))) d) d (fun _ _ => d) (cond (Nat.beq n 0) (f []) d)
    (fun o off len _ _ es => cond (cond (Nat.beq es size) (Nat.ble n len) false) (CR.casesOn (H.cells? o) d fun cs _ => slc d f cs off (Nat.mul n size)) d) d (fun _ => d) d (fun _ _ _ => d) (fun _ => d) (fun _ => d)

def most : Nat := 70368744177664   -- 2^46
/-- append: new cells behind a slice. -/
noncomputable def appendTo (es eb n : Nat) (new : List AV) (s : AV) (H : Heap) : OR :=
  AV.casesOn s .fail (fun _ => .fail) (fun _ _ => .fail) (fun _ _ => .fail) (fun _ => .fail) .fail (fun _ _ => .fail)
    (cond (Nat.beq n 0) (.val .sl0 H) (cond (Nat.ble (Nat.mul n eb) most) (.val (.sl H.next 0 n n false es) (H.newRow new)) .fail))
    (fun o off len cap ex es' => cond (cond (Nat.beq es es') (Nat.ble (Nat.mul (Nat.add len n) eb) most) false)
      (cond (Nat.beq n 0) (.val (.sl o off len cap ex es) H)
        (CR.casesOn (H.cells? o) .fail fun cs sh =>
          cond (Nat.ble (Nat.add len n) cap)
            (wr .fail sh (cond (Nat.ble (Nat.add off (Nat.mul (Nat.add len n) es)) (llen cs)) (.val (.sl o off (Nat.add len n) cap ex es) (H.write o sh (lput cs (Nat.add off (Nat.mul len es)) new))) .fail))
            (slc .fail (fun old => cond ex
                (.val (.sl H.next 0 (Nat.add len n) (Nat.add len n) false es) (H.newRow (lapp old new)))
                (Option.casesOn sh .fail fun p => wr .fail (some p) (cond (Nat.beq off 0)
                  (.val (.sl H.next 0 (Nat.add len n) (Nat.add len n) false es)
                    (H.fork (lapp old new) p.1 (cond (Nat.ble (H.clsOf p.1).2 (llen old)) p.2 (Nat.succ p.2)))) .fail)))
              cs off (Nat.mul len es)))) .fail)
    .fail (fun _ => .fail) .fail (fun _ _ _ => .fail) (fun _ => .fail) (fun _ => .fail)

/-- The kind of the second operand: a number says how many zeros there are. -/
noncomputable def argT (T : Tab) (ts : List TypeId) : TK := List.casesOn ts .none fun _ ts => List.casesOn ts .none fun t _ => T.kind t

noncomputable def appendA (T : Tab) (ts : List TypeId) (s x : AV) (H : Heap) : OR :=
  List.casesOn ts .fail fun t _ => (T.kind t).onSlice .fail fun es eb zc _ =>
    cond (cond (Nat.beq (llen zc) es) (cond (Nat.beq es 0) false (cond (Nat.beq eb 0) false (lall AV.single zc))) false)
      (cond (argT T ts).known ((argT T ts).onInt
        (lenOfA .fail (fun n => firstA .fail (fun new => cond (lall AV.single new) (appendTo es eb n new s H) .fail) es n x H) x)
        (fun _ => natOf .fail (fun n => cond (Nat.ble n most) (appendTo es eb n (lrep zc n) s H) .fail) x)) .fail) .fail

noncomputable def copyA (T : Tab) (ts : List TypeId) (d s : AV) (H : Heap) : OR :=
  List.casesOn ts .fail fun t _ => (T.kind t).onSlice .fail fun es _ _ _ =>
    lenOfA .fail (fun m =>
      AV.casesOn d .fail (fun _ => .fail) (fun _ _ => .fail) (fun _ _ => .fail) (fun _ => .fail) .fail (fun _ _ => .fail)
        (goN 0 H)
        (fun o off len _ _ es' => cond (cond (Nat.beq es es') (not (Nat.beq es 0)) false)
          (firstA .fail (fun new => CR.casesOn (H.cells? o) .fail fun cs sh => wr .fail sh (
              cond (cond (Nat.ble (Nat.add off (llen new)) (llen cs)) (lall AV.single new) false)
                (cond (Nat.beq (llen new) 0) (goN (cond (Nat.ble m len) m len) H) (goN (cond (Nat.ble m len) m len) (H.write o sh (lput cs off new)))) .fail)) es (cond (Nat.ble m len) m len) s H) .fail)
        .fail (fun _ => .fail) .fail (fun _ _ _ => .fail) (fun _ => .fail) (fun _ => .fail)) s

noncomputable def clearA (T : Tab) (ts : List TypeId) (x : AV) (H : Heap) : OR :=
  List.casesOn ts .fail fun t _ =>
    AV.casesOn x .fail (fun _ => .fail) (fun _ _ => .fail) (fun _ _ => .fail) (fun _ => .fail) .fail (fun _ _ => .fail)
      (cond (T.kind t).isSlice (.val (.tup []) H) .fail)
      (fun o off n _ _ es => (T.kind t).onSlice .fail fun es' _ zc _ => cond (Nat.beq n 0) (.val (.tup []) H)
        (cond (cond (Nat.beq es es') (cond (Nat.beq (llen zc) es) (lall AV.single zc) false) false)
          (CR.casesOn (H.cells? o) .fail fun cs sh => wr .fail sh (cond (Nat.ble (Nat.add off (Nat.mul n es)) (llen cs))
            (.val (.tup []) (H.write o sh (lput cs off (lrep zc n)))) .fail)) .fail))
      .fail (fun _ => .fail) .fail (fun _ _ _ => .fail) (fun _ => .fail) (fun _ => .fail)

noncomputable def minA (x y : AV) : AV := x.onInt .bad fun k a => y.onInt .bad fun k' b => cond (keq k k') (.int k (cond (ilt b a) b a)) .bad
noncomputable def maxA (x y : AV) : AV := x.onInt .bad fun k a => y.onInt .bad fun k' b => cond (keq k k') (.int k (cond (ilt a b) b a)) .bad
noncomputable def foldA (f : AV → AV → AV) (ys : List AV) : AV → AV := List.rec (fun x => x) (fun y _ ih x => ih (f x y)) ys

noncomputable def args1 {α : Type} (d : α) (f : AV → α) (l : List AV) : α := List.casesOn l d fun x l => List.casesOn l (f x) fun _ _ => d
noncomputable def args2 {α : Type} (d : α) (f : AV → AV → α) (l : List AV) : α := List.casesOn l d fun x l => List.casesOn l d fun y l => List.casesOn l (f x y) fun _ _ => d

noncomputable def capA (T : Tab) (t : TypeId) (x : AV) (H : Heap) : OR :=
  cond (T.kind t).isSlice (AV.casesOn x .fail (fun _ => .fail) (fun _ _ => .fail) (fun _ _ => .fail) (fun _ => .fail) .fail (fun _ _ => .fail)
    (goN 0 H) (fun _ _ _ cap ex _ => cond ex (goN cap H) .fail) .fail (fun _ => .fail) .fail (fun _ _ _ => .fail) (fun _ => .fail) (fun _ => .fail)) .fail

inductive BK where
  | len | cap | append | copy | clear | delete | min | max | other
def bk : Builtin → BK
  | .len => .len | .cap => .cap | .append => .append | .copy => .copy | .clear => .clear | .delete => .delete | .min => .min | .max => .max | _ => .other

noncomputable def builtinA (b : BK) : Tab → List TypeId → List AV → Heap → OR :=
  BK.casesOn b
    (fun T ts l H => args1 .fail (fun x => List.casesOn ts .fail fun t _ => lenA T t x H) l)
    (fun T ts l H => args1 .fail (fun x => List.casesOn ts .fail fun t _ => capA T t x H) l)
    (fun T ts l H => args2 .fail (fun s x => appendA T ts s x H) l)
    (fun T ts l H => args2 .fail (fun s x => copyA T ts s x H) l)
    (fun T ts l H => args1 .fail (fun x => clearA T ts x H) l)
    (fun T ts l H => args2 .fail (fun m k => List.casesOn ts .fail fun t _ => deleteA T t m k H) l)
    (fun _ _ l H => List.casesOn l .fail fun x l => OR.of (foldA minA l x) H)
    (fun _ _ l H => List.casesOn l .fail fun x l => OR.of (foldA maxA l x) H)
    (fun _ _ _ _ => .fail)

/-- Bytes read back. -/
noncomputable def bytesOf (l : List AV) : Option (List UInt8) :=
  List.rec (some []) (fun v _ ih => v.onInt none fun k n => cond (keq k .u8) (Int.casesOn n (fun n => Option.casesOn ih none fun bs => some (UInt8.ofNat n :: bs)) (fun _ => none)) none) l

noncomputable def convertA (T : Tab) (src dst : TypeId) (x : AV) (H : Heap) : OR :=
  AV.casesOn x .fail (fun _ => .fail)
    (fun _ n => (T.kind src).onInt .fail fun _ => (T.kind dst).onInt .fail fun k => .val (.int k (fwrap k n)) H)
    (fun _ _ => .fail)
    (fun s => cond (T.kind src).isString (cond (T.kind dst).isString (.val (.str s) H)
      ((T.kind dst).onSlice .fail fun _ _ _ u8 => cond (cond u8 (Nat.ble (llen s) most) false) (.val (.sl H.next 0 (llen s) (llen s) false 1) (H.newRow (lmap byteV s))) .fail)) .fail)
    .fail (fun _ _ => .fail)
    (cond (T.kind dst).isString ((T.kind src).onSlice .fail fun _ _ _ u8 => cond u8 (.val (.str []) H) .fail) .fail)
    (fun o off len _ _ es => cond (T.kind dst).isString ((T.kind src).onSlice .fail fun _ _ _ u8 => cond (cond u8 (Nat.beq es 1) false)
      (CR.casesOn (H.cells? o) .fail fun cs _ => slc .fail (fun r => Option.casesOn (bytesOf r) .fail fun bs => .val (.str bs) H) cs off len) .fail) .fail)
    .fail (fun _ => .fail) .fail (fun _ _ _ => .fail) (fun _ => .fail) (fun _ => .fail)

noncomputable def fieldAddrA (T : Tab) (t : TypeId) (x : AV) (f : Nat) (H : Heap) : OR :=
  (T.kind t).onStruct .fail fun fs => Option.casesOn (fieldPlace fs f) .fail fun q => cond (Nat.beq q.2 0) .fail (x.onPtr .fail fun o off => .val (.ptr o (Nat.add off q.1)) H)
noncomputable def fieldA (T : Tab) (t : TypeId) (x : AV) (f : Nat) (H : Heap) : OR :=
  (T.kind t).onStruct .fail fun fs => (lnth (0, 0, false) fs f) |> fun q => cond (Nat.blt f (llen fs)) (x.onAgg .fail fun cs => OR.of (partA q.2.2 q.2.1 cs q.1) H) .fail

noncomputable def indexAddrA (T : Tab) (t : TypeId) (x i : AV) (H : Heap) : OR :=
  natOf .fail (fun i => AV.casesOn x .fail (fun _ => .fail) (fun _ _ => .fail) (fun _ _ => .fail) (fun _ => .fail) .fail
    (fun o off => (T.kind t).onArray .fail fun n es _ => cond (cond (Nat.blt i n) (not (Nat.beq es 0)) false) (.val (.ptr o (Nat.add off (Nat.mul i es))) H) .fail)
    .fail
    (fun o off len _ _ es => (T.kind t).onSlice .fail fun es' _ _ _ => cond (cond (Nat.blt i len) (cond (Nat.beq es es') (not (Nat.beq es 0)) false) false) (.val (.ptr o (Nat.add off (Nat.mul i es))) H) .fail)
    .fail (fun _ => .fail) .fail (fun _ _ _ => .fail) (fun _ => .fail) (fun _ => .fail)) i
noncomputable def indexA (T : Tab) (t : TypeId) (x i : AV) (H : Heap) : OR :=
  natOf .fail (fun i => AV.casesOn x .fail (fun _ => .fail) (fun _ _ => .fail) (fun _ _ => .fail)
    (fun s => cond (cond (T.kind t).isString (Nat.blt i (llen s)) false) (.val (byteV (lnth 0 s i)) H) .fail)
    .fail (fun _ _ => .fail) .fail (fun _ _ _ _ _ _ => .fail) .fail (fun _ => .fail) .fail (fun _ _ _ => .fail)
    (fun cs => (T.kind t).onArray .fail fun n es ag => cond (Nat.blt i n) (OR.of (partA ag es cs (Nat.mul i es)) H) .fail)
    (fun _ => .fail)) i

noncomputable def makeSliceA (T : Tab) (t : TypeId) (l c : AV) (H : Heap) : OR :=
  (T.kind t).onSlice .fail fun es eb zc _ => natOf .fail (fun l => natOf .fail (fun c =>
    cond (cond (Nat.ble l c) (cond (Nat.ble (Nat.mul c eb) most) (cond (Nat.ble c most) (cond (Nat.beq (llen zc) es) (not (Nat.beq es 0)) false) false) false) false)
      (.val (.sl H.next 0 l c true es) (H.newRow (lrep zc c))) .fail) c) l

noncomputable def onFn {α : Type} (d : α) (f : FuncId → List AV → List AV → α) (v : AV) : α := AV.casesOn v d (fun _ => d) (fun _ _ => d) (fun _ _ => d) (fun _ => d) d (fun _ _ => d) d (fun _ _ _ _ _ _ => d) d (fun _ => d) d f (fun _ => d) (fun _ => d)

/-- A function that is known without a body. -/
noncomputable def bitsOf (to : Bool) (args : List AV) (H : Heap) : OR :=
  args1 .fail (fun x => cond to
    (AV.casesOn x .fail (fun _ => .fail) (fun _ _ => .fail) (fun k b => cond (fkeq k .f64) (.val (.int .u64 (.ofNat b)) H) .fail) (fun _ => .fail) .fail (fun _ _ => .fail) .fail (fun _ _ _ _ _ _ => .fail) .fail (fun _ => .fail) .fail (fun _ _ _ => .fail) (fun _ => .fail) (fun _ => .fail))
    (x.onInt .fail fun k n => cond (keq k .u64) (Int.casesOn n (fun n => .val (.float .f64 n) H) (fun _ => .fail)) .fail)) args

noncomputable def callOp (c : Call) (T : Tab) (ρ : Env) (H : Heap) : OR :=
  Callee.casesOn c.callee
    (fun f => onFn .fail (fun f first captured => FI.casesOn (T.fn f) .fail
      (fun _ _ _ => .call f (lapp first (lapp (evs c.args.toList ρ) captured)) H)
      (fun to => bitsOf to (lapp first (lapp (evs c.args.toList ρ) captured)) H)) (ev f ρ))
    (fun _ _ => .fail)
    (fun b => OR.casesOn (builtinA (bk b) T c.argTypes.toList (evs c.args.toList ρ) H) .fail (fun v H => .val v H) (fun _ => .fail) (fun _ _ _ => .fail))

noncomputable def opA (op : Op) : Tab → Env → Heap → OR :=
  Op.casesOn (motive := fun _ => Tab → Env → Heap → OR) op
    (fun x _ ρ H => OR.of (ev x ρ) H)
    (fun x _ ρ H => OR.of (ev x ρ) H)
    (fun c a b _ ρ H => (ev c ρ).onBool .fail fun t => OR.of (cond t (ev a ρ) (ev b ρ)) H)
    (fun elem T _ H => OR.of (T.ty elem).zero H |> fun r => OR.casesOn r .fail (fun z _ => .val (.ptr H.next 0) (H.new (.cells z.cells none))) (fun _ => .fail) (fun _ _ _ => .fail))
    (fun _ x _ ρ H => OR.casesOn (OR.of (ev x ρ) H) .fail (fun v _ => cond (lall AV.single v.cells) (.val (.ptr H.next 0) (H.new (.cells v.cells none))) .fail) (fun _ => .fail) (fun _ _ _ => .fail))
    (fun t parts T ρ H => (T.ty t).zero.onAgg .fail fun z => Option.casesOn
      (TK.casesOn (T.kind t) none none (fun _ => none) (fun _ => none) none (fun _ => none) (fun _ _ _ _ => none)
        (fun _ es _ => fillA (fun i => some (Nat.mul i es, es)) parts.toList ρ z) (fun _ _ _ => none) (fun fs => fillA (fieldPlace fs) parts.toList ρ z) none none)
      .fail fun cs => .val (.agg cs) H)
    (fun t len parts T ρ H => (T.kind t).onSlice .fail fun es _ zc _ =>
      cond (cond (Nat.beq (llen zc) es) (cond (not (Nat.beq es 0)) (Nat.ble (Nat.mul len es) 16777216) false) false)
        (Option.casesOn (fillA (fun i => some (Nat.mul i es, es)) parts.toList ρ (lrep zc len)) .fail fun cs => .val (.sl H.next 0 len len true es) (H.newRow cs)) .fail)
    (fun _ _ _ _ _ _ _ => .fail)
    (fun t a T ρ H => loadA T t (ev a ρ) H)
    (fun t a x T ρ H => storeA T t (ev a ρ) (ev x ρ) H)
    (fun _ _ _ _ => .fail)
    (fun _ _ _ _ => .fail)
    (fun x _ ρ H => AV.casesOn (ev x ρ) .fail (fun _ => .fail) (fun _ _ => .fail) (fun _ _ => .fail) (fun _ => .fail) .fail (fun o off => .val (.ptr o off) H) .fail (fun _ _ _ _ _ _ => .fail) .fail (fun _ => .fail) .fail (fun f a b => .val (.fn f a b) H) (fun _ => .fail) (fun _ => .fail))
    (fun op t x y _ T ρ H => OR.of (binA T op t (ev x ρ) (ev y ρ)) H)
    (fun op _ x _ ρ H => OR.of (unA op (ev x ρ)) H)
    (fun s d x T ρ H => convertA T s d (ev x ρ) H)
    (fun _ _ _ _ _ => .fail)
    (fun _ _ _ _ _ => .fail)
    (fun fn first captured _ ρ H => Fn.casesOn fn (fun f => .val (.fn f (evs first.toList ρ) (evs captured.toList ρ)) H) (fun _ => .fail) (fun _ _ => .fail) (fun _ _ _ _ => .fail) (fun _ => .fail))
    (fun _ r _ _ H => Option.casesOn r (.val (.map H.next) (H.new (.map []))) (fun _ => .fail))
    (fun _ _ _ _ _ => .fail)
    (fun t l c T ρ H => makeSliceA T t (ev l ρ) (ev c ρ) H)
    (fun t x lo hi mx T ρ H => sliceA T t x lo hi mx ρ H)
    (fun t x f T ρ H => fieldAddrA T t (ev x ρ) f H)
    (fun t x f T ρ H => fieldA T t (ev x ρ) f H)
    (fun t x i T ρ H => indexAddrA T t (ev x ρ) (ev i ρ) H)
    (fun t x i T ρ H => indexA T t (ev x ρ) (ev i ρ) H)
    (fun t x k ok T ρ H => lookupA T t (ev x ρ) (ev k ρ) ok H)
    (fun t m k v T ρ H => mapUpdateA T t (ev m ρ) (ev k ρ) (ev v ρ) H)
    (fun _ _ _ _ _ _ => .fail)
    (fun _ _ _ _ _ _ _ => .fail)
    (fun _ _ _ _ _ => .fail)
    (fun _ _ _ _ _ => .fail)
    (fun _ _ _ _ => .fail)
    (fun _ _ _ _ _ _ _ => .fail)
    (fun t i _ ρ H => (ev t ρ).onTup .fail fun vs => cond (Nat.blt i (llen vs)) (OR.of (lnth .bad vs i) H) .fail)
    (fun c T ρ H => callOp c T ρ H)
    (fun _ _ _ _ => .fail)
    (fun _ _ _ _ => .fail)
    (fun _ _ _ _ => .fail)
    (fun _ _ _ _ _ => .fail)
    (fun _ _ _ _ _ _ => .fail)
    (fun _ _ _ _ _ => .fail)

/-- What an operation may give: 1 a value, 2 none, 3 a value or a call. -/
noncomputable def opK (op : Op) : Nat :=
  Op.casesOn op (fun _ => 1) (fun _ => 1) (fun _ _ _ => 1) (fun _ => 1) (fun _ _ => 1) (fun _ _ => 1) (fun _ _ _ => 1) (fun _ _ _ _ => 0) (fun _ _ => 1) (fun _ _ _ => 2) (fun _ => 0) (fun _ => 0) (fun _ => 1)
    (fun _ _ _ _ _ => 1) (fun _ _ _ => 1) (fun _ _ _ => 1) (fun _ _ => 0) (fun _ _ => 0) (fun _ _ _ => 1) (fun _ _ => 1) (fun _ _ => 0) (fun _ _ _ => 1) (fun _ _ _ _ _ => 1) (fun _ _ _ => 1) (fun _ _ _ => 1)
    (fun _ _ _ => 1) (fun _ _ _ => 1) (fun _ _ _ _ => 1) (fun _ _ _ _ => 2) (fun _ _ _ => 0) (fun _ _ _ _ => 0) (fun _ _ => 0) (fun _ _ => 0) (fun _ => 0) (fun _ _ _ _ => 0) (fun _ _ => 1) (fun _ => 3)
    (fun _ => 0) (fun _ => 0) (fun _ => 0) (fun _ _ => 0) (fun _ _ _ => 0) (fun _ _ => 0)
noncomputable def opB (op : Op) (T : Tab) (ρ : Env) (H : Heap) : OR :=
  OR.casesOn (opA op T ρ H) .fail (fun v H => cond (Nat.beq (opK op) 2) .fail (.val v H)) (fun H => cond (Nat.beq (opK op) 2) (.skip H) .fail) (fun f l H => cond (Nat.beq (opK op) 3) (.call f l H) .fail)

noncomputable def putA (ρ : Env) (dst : Option Tmp) (v : AV) : Env := Option.casesOn dst ρ fun d => ρ.set d v

/-- What a call comes to. -/
inductive KR where
  | fail
  | ok (v : AV) (H : Heap)

inductive ER where
  | fail
  | normal (ρ : Env) (H : Heap)
  | exit (id : Nat) (ρ : Env) (H : Heap)
  | ret (ρ : Env) (H : Heap)

noncomputable def dstOf (ops : List Oper) : Nat → Option Tmp := List.rec (fun _ => none) (fun o _ ih i => cond (Nat.beq i 0) o.dst (ih (Nat.sub i 1))) ops
noncomputable def AV.onGuard {α : Type} (d no : α) (f : Bool → α) (v : AV) : α :=
  AV.casesOn v d f (fun _ _ => no) (fun _ _ => no) (fun _ => no) no (fun _ _ => no) no (fun _ _ _ _ _ _ => no) no (fun _ => no) no (fun _ _ _ => no) (fun _ => no) (fun _ => no)
/-- By a guard: is it unknown, is it wanted, is it not. -/
noncomputable def wantedA {α : Type} (d yes no : α) (g : Option (Nat × Bool)) (ops : List Oper) (ρ : Env) : α :=
  Option.casesOn g yes fun jw => Option.casesOn (dstOf ops jw.1) no fun t =>
    (ρ.get undefA t).onGuard d no fun b => cond b (cond jw.2 yes no) (cond jw.2 no yes)

abbrev Caller := FuncId → List AV → Heap → KR

noncomputable def opsA (T : Tab) (call : Caller) (ops : List Oper) (l : List Oper) : Env → Heap → ER :=
  List.rec (fun ρ H => .normal ρ H)
    (fun o _ ih ρ H => wantedA .fail
      (OR.casesOn (opB o.op T ρ H) .fail (fun v H => ih (putA ρ o.dst v) H) (fun H => ih (putA ρ o.dst undefA) H)
        (fun f args H => KR.casesOn (call f args H) .fail (fun v H => ih (putA ρ o.dst v) H)))
      (ih (putA ρ o.dst undefA) H) o.guard ops ρ) l

noncomputable def loopA (body : Env → Heap → ER) (n : Nat) : Env → Heap → ER :=
  Nat.rec (fun _ _ => .fail) (fun _ ih ρ H => ER.casesOn (body ρ H) .fail (fun ρ H => ih ρ H) (fun id ρ H => .exit id ρ H) (fun ρ H => .ret ρ H)) n

noncomputable def execA (T : Tab) (call : Caller) (rounds : Nat) (draw : List Oper → Env → Heap → ER) (c : Code) : Env → Heap → ER :=
  Code.rec (motive := fun _ => Env → Heap → ER)
    (fun ρ H => .normal ρ H)
    (fun _ ops d ρ H => cond d (draw ops.toList ρ H) (opsA T call ops.toList ops.toList ρ H))
    (fun _ _ iha ihb ρ H => ER.casesOn (iha ρ H) .fail (fun ρ H => ihb ρ H) (fun id ρ H => .exit id ρ H) (fun ρ H => .ret ρ H))
    (fun x _ _ iha ihb ρ H => (ev x ρ).onBool .fail fun b => cond b (iha ρ H) (ihb ρ H))
    (fun id _ ih ρ H => ER.casesOn (ih ρ H) .fail (fun ρ H => .normal ρ H) (fun j ρ H => cond (Nat.beq j id) (.normal ρ H) (.exit j ρ H)) (fun ρ H => .ret ρ H))
    (fun _ ih ρ H => loopA ih rounds ρ H)
    (fun _ _ _ _ _ _ _ _ => .fail)
    (fun id ρ H => .exit id ρ H)
    (fun _ _ _ _ => .fail)
    (fun _ _ _ => .fail)
    (fun _ _ _ => .fail)
    (fun ρ H => .ret ρ H)
    (fun _ _ _ => .fail) c

noncomputable def resultA (T : Tab) (ρ : Env) (H : Heap) (r : ResultVar) : Option AV :=
  ResultVar.casesOn r (fun t => some (ρ.get undefA t)) (fun a t => OR.casesOn (loadA T t (ρ.get undefA a) H) none (fun v _ => some v) (fun _ => none) (fun _ _ _ => none))
noncomputable def resultsL (T : Tab) (ρ : Env) (H : Heap) (rs : List ResultVar) : Option (List AV) :=
  List.rec (some []) (fun r _ ih => Option.casesOn (resultA T ρ H r) none fun v => Option.casesOn ih none fun vs => some (v :: vs)) rs
noncomputable def oneOf (vs : List AV) : AV := List.casesOn vs (.tup []) fun v rest => List.casesOn rest v fun _ _ => .tup vs
noncomputable def resultsA (T : Tab) (rs : List ResultVar) (ρ : Env) (H : Heap) : KR := Option.casesOn (resultsL T ρ H rs) .fail fun vs => .ok (oneOf vs) H

/-- Functions whose answers are told ahead. -/
inductive SR where
  | no
  | ok (v : AV) (H : Heap)
  | fail
abbrev Sums := FuncId → List AV → Heap → SR

noncomputable def initA (args : List AV) (n : Nat) : Env := TT.mk (fun i => lnth undefA args i) n

noncomputable def callA (T : Tab) (S : Sums) (rounds : Nat) (draw : Caller → List Oper → Env → Heap → ER) (n : Nat) : Caller :=
  Nat.rec (fun _ _ _ => .fail)
    (fun _ ih f args H => SR.casesOn (S f args H)
      (FI.casesOn (T.fn f) .fail
        (fun ntmps rs c => ER.casesOn (execA T ih rounds (draw ih) c (initA args (cond (Nat.ble (llen args) ntmps) ntmps (llen args))) H) .fail (fun ρ H => resultsA T rs ρ H) (fun _ _ _ => .fail) (fun ρ H => resultsA T rs ρ H))
        (fun _ => .fail))
      (fun v H => .ok v H) .fail) n


/-- A function's row. -/
def FI.ofFunc (f : Func) : FI := match f.body with | Option.some c => FI.some f.ntmps f.results.toList c | Option.none => FI.none

def kindOf.cellsC : AV → List AV := fun v => match v with | .agg cs => cs | v => [v]
def kindOf.knownC (P : Program) (t : TypeId) : Bool := (P.underlying t).isSome
def kindOf.sizeC (P : Program) (t : TypeId) : Nat := match P.info? t with | some i => i.size | none => 0
def kindOf.isAggC (P : Program) (t : TypeId) : Bool := match P.underlying t with | some (.struct _) | some (.array _ _) => true | _ => false
/-- What the machine asks of a type, out of the program. -/
def kindOf (P : Program) (t : TypeId) : TK :=
  match P.underlying t with
  | some .bool => .bool
  | some (.int k) => .int k
  | some (.float k) => .float k
  | some .string => .string
  | some (.pointer e) => .pointer e
  | some (.slice e) =>
    match P.info? e with
    | some i => (match i.zero with | some z => .slice i.size i.bytes (kindOf.cellsC (ofValue z)) (match P.underlying e with | some (.int .u8) => true | _ => false) | none => .other)
    | none => .other
  | some (.array n e) => if kindOf.knownC P e then .array n (kindOf.sizeC P e) (kindOf.isAggC P e) else .other
  | some (.map k e) =>
    match P.info? e with
    | some i => (match i.zero with
      | some z => .map (match P.underlying k with | some (.int _) => true | _ => false) (match P.underlying k with | some .string => true | _ => false) (ofValue z)
      | none => .other)
    | none => .other
  | some (.struct fs) => if fs.toList.all (fun f => kindOf.knownC P f.type) then .struct (fs.toList.map fun f => (f.offset, kindOf.sizeC P f.type, kindOf.isAggC P f.type)) else .other
  | some (.func _ _ _) => .func
  | some _ => .other
  | none => .none

def flatFields (P : Program) : List Field → Nat → Option (List Nat)
  | [], _ => some []
  | f :: fs, i =>
    if f.name != "_" && f.offset == i then
      (match P.underlying f.type with | some .bool => some 0 | some (.int _) => some 1 | some (.float _) => some 2 | some .string => some 3 | _ => none).bind fun c => (flatFields P fs (i + 1)).map (c :: ·)
    else none
def eqsOf (P : Program) (t : TypeId) : List Nat :=
  match P.underlying t with
  | some (.struct fs) => if !P.stoodInHeld t && !P.eqGuardType P.depth t then (flatFields P fs.toList 0).getD [] else []
  | _ => []
/-- A type's row. -/
def mkTI (P : Program) (t : TypeId) : TI :=
  ⟨kindOf P t, kindOf.sizeC P t, kindOf.isAggC P t, (match (P.info? t).bind (·.zero) with | some z => ofValue z | none => .bad), eqsOf P t⟩

end Go.Ai
