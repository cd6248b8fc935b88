/- The operations that leave memory as it is: what they give, as a function of the slots and the blocks. -/
import Derived.Test.YtggeifnbllfmbaaDoorVm1
set_option linter.unusedSimpArgs false
namespace Go.Vm

def constAV : Value → Option AV
  | .bool b => some (.d (.bool b))
  | .int k n => some (.d (.int k n))
  | .string s => some (.d (.str s.data.toList))
  | .slice none 0 0 => some (.d .nilsl)
  | .pointer none => some (.d .nilptr)
  | .nilFunc => some (.d .nilfn)
  | .map none => some (.d .nilmap)
  | .nilIface => some (.d .nilif)
  | _ => none

def ev (env : Env) : Operand → Option AV
  | .tmp t => look env.s t
  | .const v => constAV v
  | .func f => some (.d (.fn f))
  | .global _ => none

/-- A part of a piece of data: some of its cells. -/
def subD (agg : Bool) (size off : Nat) (x : D) : D :=
  if agg then .agg ((x.cells.drop off).take size) else (x.cells.drop off).headD .nilptr

def AV.allD : List AV → Option (List D)
  | [] => some []
  | .d x :: r => (AV.allD r).map (x :: ·)
  | _ :: _ => none

def AV.pack (cs : List AV) : AV := match AV.allD cs with | some ds => .d (.agg ds) | none => .agg cs

def subAV (agg : Bool) (size off : Nat) : AV → AV
  | .d x => .d (subD agg size off x)
  | x => if agg then AV.pack ((x.cells.drop off).take size) else (x.cells.drop off).headD .unk

def bitD (op : BinOp) (k : IntKind) (a b : Int) : Int :=
  let x := BitVec.ofInt k.bits a
  let y := BitVec.ofInt k.bits b
  match op with
  | .and => k.wrap (x &&& y).toNat
  | .or => k.wrap (x ||| y).toNat
  | .xor => k.wrap (x ^^^ y).toNat
  | .andNot => k.wrap (x &&& ~~~y).toNat
  | _ => 0

def intBin (op : BinOp) (k : IntKind) (a b : Int) : Option (Prop × AV) :=
  match op with
  | .add => some (True, .d (.int k (k.wrap (a + b))))
  | .sub => some (True, .d (.int k (k.wrap (a - b))))
  | .mul => some (True, .d (.int k (k.wrap (a * b))))
  | .quo => some (b ≠ 0, .d (.int k (k.wrap (a.tdiv b))))
  | .rem => some (b ≠ 0, .d (.int k (a.tmod b)))
  | .and | .or | .xor | .andNot => some (True, .d (.int k (bitD op k a b)))
  | .eql => some (True, .d (.bool (decide (a = b))))
  | .neq => some (True, .d (.bool (decide (a ≠ b))))
  | .lss => some (True, .d (.bool (decide (a < b))))
  | .leq => some (True, .d (.bool (decide (a ≤ b))))
  | .gtr => some (True, .d (.bool (decide (b < a))))
  | .geq => some (True, .d (.bool (decide (b ≤ a))))
  | _ => none

def strBin (op : BinOp) (a b : List UInt8) : Option (Prop × AV) :=
  match op with
  | .add => some (a.length + b.length ≤ 9223372036854775807, .d (.str (a ++ b)))
  | .eql => some (True, .d (.bool (decide (a = b))))
  | .neq => some (True, .d (.bool (decide (a ≠ b))))
  | .lss => some (True, .d (.bool (Op.bytesLess a b)))
  | .leq => some (True, .d (.bool (Op.bytesLess a b || decide (a = b))))
  | .gtr => some (True, .d (.bool (!(Op.bytesLess a b || decide (a = b)))))
  | .geq => some (True, .d (.bool (!Op.bytesLess a b)))
  | _ => none

/-- Are two values of a type equal? Bools, numbers and texts, and structs and arrays of such. -/
def eqFs (tab : Tab) (rec : TypeId → D → D → Option Bool) (xs ys : List D) : List (Nat × TypeId) → Option Bool
  | [] => some true
  | (o, ft) :: r => match tab.get ft with
    | some fi => if o + fi.size ≤ xs.length ∧ o + fi.size ≤ ys.length then
        (match rec ft (subD fi.agg fi.size o (.agg xs)) (subD fi.agg fi.size o (.agg ys)), eqFs tab rec xs ys r with
        | some a, some b => some (a && b)
        | _, _ => none) else none
    | none => none

def eqT (tab : Tab) : Nat → TypeId → D → D → Option Bool
  | 0, _, _, _ => none
  | f + 1, t, x, y => match tab.get t with
    | none => none
    | some ti => match ti.k, x, y with
      | .bool, .bool a, .bool b => some (decide (a = b))
      | .int _, .int k a, .int k' b => if k = k' then some (decide (a = b)) else none
      | .str, .str a, .str b => some (decide (a = b))
      | .struct true fs, .agg xs, .agg ys => eqFs tab (eqT tab f) xs ys fs
      | .arr true n e, .agg xs, .agg ys => match tab.get e with
        | some te => eqFs tab (eqT tab f) xs ys ((List.range n).map fun i => (i * te.size, e))
        | none => none
      | _, _, _ => none

/-- A byte, and texts out of bytes. -/
def byteOf : D → UInt8
  | .int _ n => UInt8.ofNat n.toNat
  | _ => 0
def isU8 : D → Prop
  | .int k _ => k = .u8
  | _ => False
def bytesOk : List D → Prop
  | [] => True
  | x :: r => isU8 x ∧ bytesOk r
def bytesAV : AV → Option (TypeId × List D)
  | .d (.sl e xs) => some (e, xs)
  | .bl _ e xs => some (e, xs)
  | _ => none
def nilStr : AV → Option (Prop × AV)
  | .d .nilsl => some (True, .d (.str []))
  | _ => none

/-- Is a value nil (of a type of its own kind)? -/
def nilness : TK → AV → Option (Prop × Bool)
  | .ptr _, .d .nilptr | .sl _, .d .nilsl | .func, .d .nilfn | .map _ _, .d .nilmap => some (True, true)
  | .ptr _, .ptr _ _ _ _ | .ptr _, .fp _ _ _ _ | .func, .d (.fn _) | .func, .clo _ _ | .map _ _, .map _ => some (True, false)
  | _, _ => none

/-- When can a slice be nil? -/
def nilMaybe : TK → AV → Option Prop
  | .sl _, .d (.sl _ xs) => some (xs = [])
  | .sl _, .bl _ _ xs => some (xs = [])
  | .sl _, .ref _ _ _ len => some (len = 0)
  | .sl _, .z0 _ => some True
  | _, _ => none

def isNilC : TK → AV → Bool
  | .ptr _, .d .nilptr | .sl _, .d .nilsl | .func, .d .nilfn | .map _ _, .d .nilmap => true
  | _, _ => false

def eqBin (tab : Tab) (t : TypeId) (neg : Bool) (x y : AV) : Option (Prop × AV) :=
  match tab.get t with
  | none => none
  | some ti => match ti.k, x, y with
    | .bool, .d (.bool a), .d (.bool b) => some (True, .d (.bool (if neg then decide (a ≠ b) else decide (a = b))))
    | .struct true _, .d x, .d y => (eqT tab 9 t x y).map fun b => (True, .d (.bool (if neg then !b else b)))
    | .arr true _ _, .d x, .d y => (eqT tab 9 t x y).map fun b => (True, .d (.bool (if neg then !b else b)))
    | k, x, y =>
      if isNilC k y then (match nilMaybe k x with
        | some q => some (True, .pb fun b => b = !neg → q)
        | none => (nilness k x).map fun (o, b) => (o, .d (.bool (if neg then !b else b))))
      else if isNilC k x then (nilness k y).map fun (o, b) => (o, .d (.bool (if neg then !b else b)))
      else none

def binAV (tab : Tab) (t : TypeId) (op : BinOp) (x y : AV) : Option (Prop × AV) :=
  match x, y with
  | .d (.int k a), .d (.int k' b) =>
    match op with
    | .shl => some (0 ≤ b, .d (.int k (k.wrap (a * 2 ^ (min b.toNat k.bits)))))
    | .shr => some (0 ≤ b, .d (.int k (a.fdiv (2 ^ (min b.toNat k.bits)))))
    | _ => if k = k' then intBin op k a b else none
  | .d (.str a), .d (.str b) => strBin op a b
  | x, y => match op with
    | .eql => eqBin tab t false x y
    | .neq => eqBin tab t true x y
    | _ => none

def unAV (op : UnOp) (x : AV) : Option (Prop × AV) :=
  match op, x with
  | .neg, .d (.int k n) => some (True, .d (.int k (k.wrap (0 - n))))
  | .xor, .d (.int k n) => some (True, .d (.int k (bitD .xor k (if k.signed then -1 else k.max) n)))
  | .not, .d (.bool b) => some (True, .d (.bool (!b)))
  | _, _ => none

def loadAV (tab : Tab) (h : List Blk) (t : TypeId) (a : AV) : Option (Prop × AV) :=
  match a, tab.get t with
  | .fp e xs i off, some ti =>
    match tab.get e with
    | some te => some (off + ti.size ≤ te.size, .d (subD ti.agg ti.size off (xs.getD i .nilptr)))
    | none => none
  | .ptr b e i off, some ti =>
    match tab.get e, h[b]? with
    | some te, some (.cells e' xs) => some (e' = e ∧ i < xs.length ∧ off + ti.size ≤ te.size, subAV ti.agg ti.size off (xs.getD i .unk))
    | _, _ => none
  | _, _ => none

/-- The fields' places of a struct type. -/
def fieldOf (tab : Tab) (t : TypeId) (f : Nat) : Option (Nat × TI) :=
  match tab.get t with
  | some ⟨.struct _ fs, _, _, _⟩ => match fs[f]? with
    | some (o, ft) => (tab.get ft).map fun ti => (o, ti)
    | none => none
  | _ => none

def fieldAddrAV (tab : Tab) (t : TypeId) (a : AV) (f : Nat) : Option (Prop × AV) :=
  match fieldOf tab t f, a with
  | some (o, ti), .fp e xs i off => some (ti.size ≠ 0, .fp e xs i (off + o))
  | some (o, ti), .ptr b e i off => some (ti.size ≠ 0, .ptr b e i (off + o))
  | _, _ => none

def fieldAV (tab : Tab) (t : TypeId) (a : AV) (f : Nat) : Option (Prop × AV) :=
  match fieldOf tab t f, a with
  | some (o, ti), .d (.agg cs) => some (o + ti.size ≤ cs.length, .d (subD ti.agg ti.size o (.agg cs)))
  | some (o, ti), .agg cs => some (o + ti.size ≤ cs.length, subAV ti.agg ti.size o (.agg cs))
  | _, _ => none

def asI : AV → Option Int
  | .d (.int _ n) => some n
  | _ => none

/-- The element type of a slice type, and of an array type. -/
def slOf (tab : Tab) (t : TypeId) : Option TypeId :=
  match tab.get t with
  | some ⟨.sl e, _, _, _⟩ => (tab.get e).map fun _ => e
  | _ => none
def arrOf (tab : Tab) (t : TypeId) : Option (Nat × TI) :=
  match tab.get t with
  | some ⟨.arr _ l e, _, _, _⟩ => (tab.get e).map fun te => (l, te)
  | _ => none
def isStr (tab : Tab) (t : TypeId) : Bool := match tab.get t with | some ⟨.str, _, _, _⟩ => true | _ => false

def indexAddrAV (tab : Tab) (t : TypeId) (x i : AV) : Option (Prop × AV) :=
  match asI i with
  | none => none
  | some n => match slOf tab t with
    | some e => match x with
      | .d (.sl e' xs) => some (e' = e ∧ 0 ≤ n ∧ n < xs.length, .fp e' xs n.toNat 0)
      | .bl _ e' xs => some (e' = e ∧ 0 ≤ n ∧ n < xs.length, .fp e' xs n.toNat 0)
      | .ref b e' off len => some (e' = e ∧ 0 ≤ n ∧ n < len, .ptr b e' (off + n.toNat) 0)
      | _ => none
    | none => match arrOf tab t, x with
      | some (l, te), .ptr b e' i off => some (0 ≤ n ∧ n < l, .ptr b e' i (off + n.toNat * te.size))
      | some (l, te), .fp e' xs i off => some (0 ≤ n ∧ n < l, .fp e' xs i (off + n.toNat * te.size))
      | _, _ => none

def byteAt (s : List UInt8) (i : Nat) : Int := ((s.getD i 0).toNat : Int)

def indexAV (tab : Tab) (t : TypeId) (x i : AV) : Option (Prop × AV) :=
  match asI i with
  | none => none
  | some n => match x with
    | .d (.str s) => if isStr tab t then some (0 ≤ n ∧ n < s.length, .d (.int .u8 (byteAt s n.toNat))) else none
    | .d (.agg cs) => (arrOf tab t).map fun (l, te) => (0 ≤ n ∧ n < l ∧ n.toNat * te.size + te.size ≤ cs.length, subAV te.agg te.size (n.toNat * te.size) (.d (.agg cs)))
    | .agg cs => (arrOf tab t).map fun (l, te) => (0 ≤ n ∧ n < l ∧ n.toNat * te.size + te.size ≤ cs.length, subAV te.agg te.size (n.toNat * te.size) (.agg cs))
    | _ => none

/-- A bound of a slice expression. -/
def bnd (env : Env) (dflt : Int) : Option Operand → Option Int
  | none => some dflt
  | some x => (ev env x).bind asI

def sliceAV (tab : Tab) (env : Env) (t : TypeId) (x : AV) (lo hi mx : Option Operand) : Option (Prop × AV) :=
  match mx with
  | none => match x with
    | .d (.str s) => match isStr tab t, bnd env 0 lo, bnd env s.length hi with
      | true, some l, some h => some (0 ≤ l ∧ l ≤ h ∧ h ≤ s.length, .d (.str ((s.take h.toNat).drop l.toNat)))
      | _, _, _ => none
    | .d (.sl e' xs) => match slOf tab t, bnd env 0 lo, bnd env xs.length hi with
      | some e, some l, some h => some (e' = e ∧ 0 ≤ l ∧ l ≤ h ∧ h ≤ xs.length, .d (.sl e' ((xs.take h.toNat).drop l.toNat)))
      | _, _, _ => none
    | .bl _ e' xs => match slOf tab t, bnd env 0 lo, bnd env xs.length hi with
      | some e, some l, some h => some (e' = e ∧ 0 ≤ l ∧ l ≤ h ∧ h ≤ xs.length, .d (.sl e' ((xs.take h.toNat).drop l.toNat)))
      | _, _, _ => none
    | .ref b e' off len => match slOf tab t, bnd env 0 lo, bnd env len hi with
      | some e, some l, some h => some (e' = e ∧ 0 ≤ l ∧ l ≤ h ∧ h ≤ len, .ref b e' (off + l.toNat) (h.toNat - l.toNat))
      | _, _, _ => none
    | .gr b e' k => match slOf tab t, bnd env 0 lo, bnd env k hi with
      | some e, some l, some h => some (e' = e ∧ l = 0 ∧ h = 0, .bl b e' [])
      | _, _, _ => none
    | .d .nilsl => match slOf tab t, bnd env 0 lo, bnd env 0 hi with
      | some _, some l, some h => some (l = 0 ∧ h = 0, .d .nilsl)
      | _, _, _ => none
    | _ => none
  | some m => match (ev env m).bind asI, bnd env 0 lo, hi.bind fun x => (ev env x).bind asI, slOf tab t with
    | some 0, some 0, some 0, some _ => match x with
      | .d (.sl e _) => some (True, .z0 e)
      | .bl _ e _ => some (True, .z0 e)
      | .ref _ e _ _ => some (True, .z0 e)
      | .d .nilsl => some (True, .d .nilsl)
      | _ => none
    | _, _, _, _ => none

def lenAV (str sl : Bool) : AV → Option Int
  | .d (.str s) => if str then some s.length else none
  | .d (.sl _ xs) => if sl then some xs.length else none
  | .d .nilsl => if sl then some 0 else none
  | .z0 _ => if sl then some 0 else none
  | .bl _ _ xs => if sl then some xs.length else none
  | .ref _ _ _ len => if sl then some len else none
  | _ => none

def setCells (cs : List AV) (off : Nat) (vs : List AV) : List AV := cs.take off ++ vs ++ cs.drop (off + vs.length)

def minmax (mx : Bool) : List AV → Option (IntKind × Int)
  | [.d (.int k a)] => some (k, a)
  | [.d (.int k a), .d (.int k' b)] => if k = k' then some (k, if mx then max a b else min a b) else none
  | [.d (.int k a), .d (.int k' b), .d (.int k'' c)] => if k = k' ∧ k = k'' then some (k, if mx then max (max a b) c else min (min a b) c) else none
  | _ => none

/-! Maps whose keys are bools, numbers or texts. -/

def zeroAV (ti : TI) : AV := if ti.agg then .d (.agg ti.zero) else .d (ti.zero.headD .nilptr)

def keyEq : D → D → Option Bool
  | .int k a, .int k' b => if k = k' then some (decide (a = b)) else none
  | .str a, .str b => some (decide (a = b))
  | .bool a, .bool b => some (decide (a = b))
  | _, _ => none

def mapFind (k : D) : List (D × AV) → Option (Option AV)
  | [] => some none
  | (k', v) :: r => match keyEq k k' with
    | some b => if b then some (some v) else mapFind k r
    | none => none

def mapPut (k : D) (v : AV) : List (D × AV) → Option (List (D × AV))
  | [] => some [(k, v)]
  | (k', v') :: r => match keyEq k k' with
    | some b => if b then some ((k', v) :: r) else (mapPut k v r).map ((k', v') :: ·)
    | none => none

def keyOk (tab : Tab) (kt : TypeId) (k : D) : Bool :=
  match tab.get kt, k with
  | some ⟨.int _, _, _, _⟩, .int _ _ => true
  | some ⟨.str, _, _, _⟩, .str _ => true
  | some ⟨.bool, _, _, _⟩, .bool _ => true
  | _, _ => false

/-- A map type's key type, and what is kept of its element type. -/
def mapOf (tab : Tab) (t : TypeId) : Option (TypeId × TI) :=
  match tab.get t with
  | some ⟨.map k e, _, _, _⟩ => (tab.get e).map fun te => (k, te)
  | _ => none

def lookupAV (tab : Tab) (h : List Blk) (t : TypeId) (m k : AV) (ok : Bool) : Option (Prop × AV) :=
  match mapOf tab t, k with
  | some (kt, te), .d kd => if keyOk tab kt kd then
      (match m with
        | .d .nilmap => some (True, if ok then .tup [zeroAV te, .d (.bool false)] else zeroAV te)
        | .map b => match h[b]? with
          | some (.map es) => (mapFind kd es).map fun r => (True, if ok then .tup [r.getD (zeroAV te), .d (.bool r.isSome)] else r.getD (zeroAV te))
          | _ => none
        | _ => none) else none
  | _, _ => none

/-- What an operation that leaves memory as it is gives: what must hold, and the value. -/
def evL (tab : Tab) (env : Env) : Op → Option (Prop × AV)
  | .move x | .assign x => (ev env x).map fun v => (True, v)
  | .pick c a b => match ev env c with
    | some (.d (.bool t)) => some (True, if t then (ev env a).getD .unk else (ev env b).getD .unk)
    | _ => none
  | .binOp op t x y _ => match ev env x, ev env y with
    | some a, some b => binAV tab t op a b
    | _, _ => none
  | .unOp op _ x => match ev env x with
    | some a => unAV op a
    | none => none
  | .convert s d x => match tab.get s, tab.get d, ev env x with
    | some ⟨.int _, _, _, _⟩, some ⟨.int k, _, _, _⟩, some (.d (.int _ n)) => some (True, .d (.int k (k.wrap n)))
    | some ⟨.str, _, _, _⟩, some ⟨.str, _, _, _⟩, some (.d (.str t)) => some (True, .d (.str t))
    | some ⟨.int _, _, _, _⟩, some ⟨.str, _, _, _⟩, some (.d (.int _ n)) => some (True, .d (.str (Utf8.encode n).data.toList))
    | some ⟨.sl e, _, _, _⟩, some ⟨.str, _, _, _⟩, some v => match tab.get e, bytesAV v with
      | some ⟨.int .u8, _, _, _⟩, some (e', xs) => some (e' = e ∧ bytesOk xs, .d (.str (xs.map byteOf)))
      | some ⟨.int .u8, _, _, _⟩, none => nilStr v
      | _, _ => none
    | _, _, _ => none
  | .load t a => match ev env a with
    | some v => loadAV tab env.h t v
    | none => none
  | .fieldAddr t x f => match ev env x with
    | some v => fieldAddrAV tab t v f
    | none => none
  | .field t x f => match ev env x with
    | some v => fieldAV tab t v f
    | none => none
  | .indexAddr t x i => match ev env x, ev env i with
    | some a, some b => indexAddrAV tab t a b
    | _, _ => none
  | .index t x i => match ev env x, ev env i with
    | some a, some b => indexAV tab t a b
    | _, _ => none
  | .slice t x lo hi mx => match ev env x with
    | some a => sliceAV tab env t a lo hi mx
    | none => none
  | .lookup t m k ok => match ev env m, ev env k with
    | some mv, some kv => lookupAV tab env.h t mv kv ok
    | _, _ => none
  | .extract x i => match ev env x with
    | some (.tup vs) => (vs[i]?).map fun v => (True, v)
    | _ => none
  | .nilCheck x => match ev env x with
    | some (.ptr b e i o) => some (True, .ptr b e i o)
    | some (.fp e xs i o) => some (True, .fp e xs i o)
    | some (.d (.fn f)) => some (True, .d (.fn f))
    | some (.clo f cs) => some (True, .clo f cs)
    | _ => none
  | .makeFunc (.func f) first caps => if first.size = 0 then
      (match caps.toList.mapM (ev env) with
       | some [] => some (True, .d (.fn f))
       | some cs => some (True, .clo f cs)
       | none => none) else none
  | .call { callee := .builtin .len, args := args, argTypes := ts } => match args.toList, ts.toList with
    | [x], [t] => match arrOf tab t with
      | some (n, _) => some (True, .d (.int .i64 n))
      | none => ((ev env x).bind (lenAV (isStr tab t) (slOf tab t).isSome)).map fun n => (True, .d (.int .i64 n))
    | _, _ => none
  | .call { callee := .builtin .cap, args := args, argTypes := ts } => match args.toList, ts.toList with
    | [x], [t] => match slOf tab t, ev env x with
      | some _, some (.d .nilsl) => some (True, .d (.int .i64 0))
      | _, _ => none
    | _, _ => none
  | .call { callee := .builtin .min, args := args, argTypes := _ } => (args.toList.mapM (ev env)).bind fun vs => (minmax false vs).map fun (k, n) => (True, .d (.int k n))
  | .call { callee := .builtin .max, args := args, argTypes := _ } => (args.toList.mapM (ev env)).bind fun vs => (minmax true vs).map fun (k, n) => (True, .d (.int k n))
  | _ => none

end Go.Vm
