/-
  updates, the compact code, the first silent operations. (No statement of the seat is proved here.)
-/
import Derived.Test.YtcohlhplpogopaaGreatGa
import Derived.Laws.StructEq
import Derived.Laws.Strings
import Derived.MapKept
import Derived.Great.FillDense
import Derived.Laws.BytesString
set_option linter.unusedSimpArgs false
set_option linter.unusedVariables false
namespace Go.Proofs.YtcohlhplpogopaaGreat
namespace A
noncomputable section

def toV0 : Value → V
  | .agg cs => .agg (cs.toList.map .lit)
  | v => .lit v
def toV : Value → V
  | .agg cs => .agg (cs.toList.map .lit)
  | .func f a b => .fn f (a.toList.map .lit) (b.toList.map .lit)
  | .iface t v => .ifc t (toV0 v)
  | v => .lit v

def compX : Operand → Option X
  | .tmp t => some (.t t)
  | .const v => some (.c (toV v))
  | .func f => some (.c (.fn (.func f) [] []))
  | .global _ => none

def consX (a : Option X) (r : Option (List X)) : Option (List X) :=
  match a, r with
  | some a, some r => some (a :: r)
  | _, _ => none
def compXs : List Operand → Option (List X)
  | [] => some []
  | x :: l => consX (compX x) (compXs l)
def compOX : Option Operand → Option (Option X)
  | none => some none
  | some x => match compX x with | some y => some (some y) | none => none

/-- the kinds of types that matter. -/
inductive TK where
  | bool
  | int (k : IntKind)
  | string
  | slice (e : TypeId)
  | map (k e : TypeId)
  | struct (fs : List Field)
  | array (n : Nat) (e : TypeId)
  | pointer
  | func
  | iface
  | other

def tk : TypeDesc → TK
  | .bool => .bool
  | .int k => .int k
  | .string => .string
  | .slice e => .slice e
  | .map k e => .map k e
  | .struct fs => .struct fs.toList
  | .array n e => .array n e
  | .pointer _ => .pointer
  | .func _ _ _ => .func
  | .interface _ => .iface
  | _ => .other

def kindP (P : Program) (t : TypeId) : Option TK := match P.underlying t with | some d => some (tk d) | none => none
def sizeP (P : Program) (t : TypeId) : Option Nat := match P.info? t with | some i => some i.size | none => none
def bytesP (P : Program) (t : TypeId) : Option Nat := match P.info? t with | some i => some i.bytes | none => none
def zeroP (P : Program) (t : TypeId) : Option Value := match P.info? t with | some i => i.zero | none => none
def zcells (z : Value) : Option (List V) := cond (z.cells.toList.all Value.atom) (some (z.cells.toList.map .lit)) none
def zeroC (P : Program) (t : TypeId) : Option (List V) := match zeroP P t with | some z => zcells z | none => none
/-- how many cells a load of a type gives as an aggregate; none: it is one cell. -/
def aggN (P : Program) (t : TypeId) : Option (Option Nat) :=
  match kindP P t, sizeP P t with
  | some (.struct _), some n => some (some n)
  | some (.array _ _), some n => some (some n)
  | some _, some _ => some none
  | _, _ => none

/-- the kind of a scalar type. -/
def scalarK (P : Program) (t : TypeId) : Option SK :=
  match kindP P t with
  | some .bool => some .bool
  | some (.int k) => some (.int k)
  | some .string => some .string
  | _ => none
def consK (c : Bool) (a : Option SK) (r : Option (List SK)) : Option (List SK) :=
  match c, a, r with
  | true, some a, some r => some (a :: r)
  | _, _, _ => none
def plainFs (P : Program) : List Field → Nat → Option (List SK)
  | [], _ => some []
  | f :: l, n => consK (and (f.name != "_") (Nat.beq f.offset n)) (scalarK P f.type) (plainFs P l (n + 1))
/-- a struct of scalars: their kinds. -/
def plainK (P : Program) (t : TypeId) : Option (List SK) :=
  match kindP P t with
  | some (.struct fs) => cond (and (not (P.stoodInHeld t)) (not (P.eqGuardType P.depth t))) (plainFs P fs 0) none
  | _ => none
def keyK (P : Program) (t : TypeId) : Option KK :=
  match scalarK P t with
  | some s => some (.one s)
  | none => (match plainK P t with | some l => some (.many l) | none => none)

def nilV : NK → Value → Bool
  | .ifc, .nilIface => true
  | .fn, .nilFunc => true
  | .ptr, .pointer none => true
  | .slc, .slice none 0 0 => true
  | .map, .map none => true
  | _, _ => false
def nilX (k : NK) : Operand → Bool
  | .const v => nilV k v
  | _ => false
def tkN : TK → Option NK
  | .pointer => some .ptr
  | .slice _ => some .slc
  | .map _ _ => some .map
  | .iface => some .ifc
  | .func => some .fn
  | .string => some .str
  | _ => none

def mapX (f : X → O) (x : Option X) : Option O := match x with | some x => some (f x) | none => none
def mapX2 (f : X → X → O) (x y : Option X) : Option O := match x, y with | some x, some y => some (f x y) | _, _ => none
def mapX3 (f : X → X → X → O) (x y z : Option X) : Option O := match x, y, z with | some x, some y, some z => some (f x y z) | _, _, _ => none

def compFld (P : Program) (fs : List Field) (i : Nat) : Option (Nat × Nat) :=
  match fs[i]? with
  | some f => (match sizeP P f.type with | some n => some (f.offset, n) | none => none)
  | none => none
def placeOf (P : Program) (k : TK) (i : Nat) : Option (Nat × Nat) :=
  match k with
  | .struct fs => compFld P fs i
  | .array _ e => (match sizeP P e with | some n => some (i * n, n) | none => none)
  | .slice e => (match sizeP P e with | some n => some (i * n, n) | none => none)
  | _ => none
def consP (a : Option (Nat × Nat)) (x : Option X) (r : Option (List (Nat × Nat × X))) : Option (List (Nat × Nat × X)) :=
  match a, x, r with
  | some (o, n), some x, some r => some ((o, n, x) :: r)
  | _, _, _ => none
def compParts (P : Program) (k : TK) : List (Nat × Operand) → Option (List (Nat × Nat × X))
  | [] => some []
  | (i, x) :: l => consP (placeOf P k i) (compX x) (compParts P k l)

def nilO (op : BinOp) (x y : Operand) (k : Option NK) : Option O :=
  match k with
  | some k => cond (nilX k y) (match op with | .eql => mapX (.eqNil false k) (compX x) | .neq => mapX (.eqNil true k) (compX x) | _ => none) none
  | none => none
def binO (P : Program) (op : BinOp) (t : TypeId) (x y : Operand) : Option O :=
  match kindP P t with
  | some (.int _) => mapX2 (.ar op) (compX x) (compX y)
  | some .string => mapX2 (.ar op) (compX x) (compX y)
  | some .bool => (match op with | .eql => mapX2 (.eqB false) (compX x) (compX y) | .neq => mapX2 (.eqB true) (compX x) (compX y) | _ => none)
  | some (.struct _) => (match plainK P t with | some ks => (match op with | .eql => mapX2 (.eqA false ks) (compX x) (compX y) | .neq => mapX2 (.eqA true ks) (compX x) (compX y) | _ => none) | none => none)
  | some k => nilO op x y (tkN k)
  | none => none

def isU8 (P : Program) (t : TypeId) : Bool := match kindP P t with | some (.int .u8) => true | _ => false
def convO (P : Program) (a b : TypeId) (x : Operand) : Option O :=
  match kindP P a, kindP P b with
  | some (.int _), some (.int k) => mapX (.conv k) (compX x)
  | some (.slice e), some .string => cond (isU8 P e) (mapX .bstr (compX x)) none
  | some .string, some (.slice e) => cond (isU8 P e) (mapX .strb (compX x)) none
  | _, _ => none

def lenO (P : Program) (t : TypeId) (x : Operand) : Option O :=
  match kindP P t with
  | some .string => mapX (.len .str) (compX x)
  | some (.slice _) => mapX (.len .slc) (compX x)
  | some (.map _ _) => mapX (.len .map) (compX x)
  | _ => none
def appO (P : Program) (t u : TypeId) (x y : Operand) : Option O :=
  match kindP P t, kindP P u with
  | some (.slice e), some (.slice _) | some (.slice e), some .string =>
    (match sizeP P e, bytesP P e, zeroP P e with
    | some n, some b, some z => cond (and (and (Nat.ble b 65536) (Nat.ble 1 b)) (and (Nat.ble 1 n) (Nat.beq z.cells.size n))) (mapX2 (.app n b) (compX x) (compX y)) none
    | _, _, _ => none)
  | _, _ => none
def copyO (P : Program) (t : TypeId) (x y : Operand) : Option O :=
  match kindP P t with
  | some (.slice e) => (match sizeP P e with | some n => mapX2 (.copy n) (compX x) (compX y) | none => none)
  | _ => none
def isInt (P : Program) (t : TypeId) : Bool := match kindP P t with | some (.int _) => true | _ => false
def builtinO (P : Program) (b : Builtin) (ts : List TypeId) (xs : List Operand) : Option O :=
  match b, ts, xs with
  | .len, [t], [x] => lenO P t x
  | .append, [t, u], [x, y] => appO P t u x y
  | .copy, [t, _], [x, y] => copyO P t x y
  | .min, [t, _], [x, y] => cond (isInt P t) (mapX2 .min (compX x) (compX y)) none
  | .max, [t, _], [x, y] => cond (isInt P t) (mapX2 .max (compX x) (compX y)) none
  | _, _, _ => none

/-- the methods of a name that take the value itself. -/
def methOf (P : Program) (name : String) (t : TypeId) (ms : List Method) : List (TypeId × FuncId) :=
  match ms.find? (·.name == name) with
  | some m => (match m.path.toList, m.func, kindP P t with
    | [], some (f, false), some k => (match k with | .pointer => [] | .iface => [] | _ => [(t, f)])
    | _, _, _ => [])
  | none => []
def methsOf (P : Program) (name : String) : List TypeInfo → Nat → List (TypeId × FuncId)
  | [], _ => []
  | i :: l, t => methOf P name t i.methods.toList ++ methsOf P name l (t + 1)

def callO (P : Program) (c : Call) : Option O :=
  match c.callee with
  | .value f => (match compX f, compXs c.args.toList with | some f, some l => some (.call f l) | _, _ => none)
  | .invoke r name => (match compX r, compXs c.args.toList with | some r, some l => some (.inv (methsOf P name P.types.toList 0) r l) | _, _ => none)
  | .builtin b => builtinO P b c.argTypes.toList c.args.toList
def deferO (c : Call) : Option O :=
  match c.callee with
  | .value f => (match compX f, compXs c.args.toList with | some f, some l => some (.defer f l) | _, _ => none)
  | _ => none

def allocO (P : Program) (t : TypeId) : Option O := match zeroC P t with | some z => some (.alloc z) | none => none
def buildO (P : Program) (t : TypeId) (ps : List (Nat × Operand)) : Option O :=
  match kindP P t with
  | some (.struct fs) => cond (fs.all fun f => (sizeP P f.type).isSome) (match zeroC P t, compParts P (.struct fs) ps with | some z, some l => some (.build z l) | _, _ => none) none
  | some (.array n e) => (match sizeP P e, zeroC P t, compParts P (.array n e) ps with | some _, some z, some l => some (.build z l) | _, _, _ => none)
  | _ => none
def litsO (P : Program) (t : TypeId) (len : Nat) (ps : List (Nat × Operand)) : Option O :=
  match kindP P t with
  | some (.slice e) => (match sizeP P e, zeroC P e, compParts P (.slice e) ps with
    | some n, some z, some l => cond (and (Nat.beq z.length n) (and (Nat.ble (len * n) 16777216) (Nat.ble 1 n))) (some (.lits n len (rep z len) l)) none
    | _, _, _ => none)
  | _ => none
def loadO (P : Program) (t : TypeId) (a : Operand) : Option O := match aggN P t with | some n => mapX (.load n) (compX a) | none => none
def storeO (P : Program) (t : TypeId) (a x : Operand) : Option O := match sizeP P t with | some n => mapX2 (.store n) (compX a) (compX x) | none => none
def fieldAO (P : Program) (s : TypeId) (x : Operand) (f : Nat) : Option O :=
  match kindP P s with
  | some (.struct fs) => (match compFld P fs f with | some (off, n) => cond (Nat.beq n 0) none (mapX (.fieldA off) (compX x)) | none => none)
  | _ => none
def fieldO (P : Program) (s : TypeId) (x : Operand) (f : Nat) : Option O :=
  match kindP P s with
  | some (.struct fs) => (match fs[f]? with | some g => (match aggN P g.type with | some n => mapX (.field g.offset n) (compX x) | none => none) | none => none)
  | _ => none
def idxAO (P : Program) (t : TypeId) (x i : Operand) : Option O :=
  match kindP P t with
  | some (.slice e) => (match sizeP P e with | some n => mapX2 (.idxA n) (compX x) (compX i) | none => none)
  | _ => none
def idxO (P : Program) (t : TypeId) (x i : Operand) : Option O :=
  match kindP P t with
  | some .string => mapX2 .idxS (compX x) (compX i)
  | some (.array len e) => (match sizeP P e, aggN P e with | some n, some a => mapX2 (.idxV len n a) (compX x) (compX i) | _, _ => none)
  | _ => none
def sliceO (P : Program) (t : TypeId) (x : Operand) (lo hi mx : Option Operand) : Option O :=
  match mx, compX x, compOX lo, compOX hi with
  | none, some x, some lo, some hi => (match kindP P t with
    | some (.slice e) => (match sizeP P e with | some n => some (.slice n x lo hi) | none => none)
    | some .string => some (.sliceS x lo hi)
    | _ => none)
  | _, _, _, _ => none
def unO (op : UnOp) (x : Operand) : Option O :=
  match op with
  | .not => mapX .not (compX x)
  | .neg => mapX .neg (compX x)
  | _ => none
def ifaceO (P : Program) (t : TypeId) (x : Operand) : Option O :=
  match kindP P t with
  | some .iface => none
  | some _ => mapX (.iface t) (compX x)
  | none => none
def assertO (P : Program) (t : TypeId) (ok : Bool) (x : Operand) : Option O :=
  match kindP P t, zeroP P t with
  | some .iface, _ => none
  | some _, some z => mapX (.assert t (toV z) ok) (compX x)
  | _, _ => none
def makeSO (P : Program) (t : TypeId) (l c : Operand) : Option O :=
  match kindP P t with
  | some (.slice e) => (match sizeP P e, bytesP P e, zeroC P e with
    | some n, some b, some z => cond (and (Nat.beq z.length n) (Nat.ble 1 n)) (mapX2 (.makeS n b z) (compX l) (compX c)) none
    | _, _, _ => none)
  | _ => none
def makeMO (r : Option Operand) : Option O := match r with | none => some .makeM | some _ => none
def lookO (P : Program) (t : TypeId) (ok : Bool) (m k : Operand) : Option O :=
  match kindP P t with
  | some (.map kt e) => (match zeroP P e, keyK P kt with | some z, some ks => mapX2 (.look ks (toV z) ok) (compX m) (compX k) | _, _ => none)
  | _ => none
def updO (P : Program) (t : TypeId) (m k v : Operand) : Option O :=
  match kindP P t with
  | some (.map kt _) => (match keyK P kt with | some ks => mapX3 (.upd ks) (compX m) (compX k) (compX v) | none => none)
  | _ => none
def funcO (f : Fn) (a b : List Operand) : Option O := match compXs a, compXs b with | some a, some b => some (.func f a b) | _, _ => none

def compOp (P : Program) (o : Op) : Option O :=
  match o with
  | .move x => mapX .mov (compX x)
  | .assign x => mapX .mov (compX x)
  | .pick c a b => mapX3 .pick (compX c) (compX a) (compX b)
  | .alloc t => allocO P t
  | .box _ x => mapX .box (compX x)
  | .build t ps => buildO P t ps.toList
  | .buildSlice t len ps => litsO P t len ps.toList
  | .load t a => loadO P t a
  | .store t a x => storeO P t a x
  | .nilCheck x => mapX .chk (compX x)
  | .binOp op t x y _ => binO P op t x y
  | .unOp op _ x => unO op x
  | .convert a b x => convO P a b x
  | .makeInterface t x => ifaceO P t x
  | .makeFunc f a b => funcO f a.toList b.toList
  | .makeMap _ r => makeMO r
  | .makeSlice t l c => makeSO P t l c
  | .slice t x lo hi mx => sliceO P t x lo hi mx
  | .fieldAddr s x f => fieldAO P s x f
  | .field s x f => fieldO P s x f
  | .indexAddr t x i => idxAO P t x i
  | .index t x i => idxO P t x i
  | .lookup t m k ok => lookO P t ok m k
  | .mapUpdate t m k v => updO P t m k v
  | .insert t m k v => updO P t m k v
  | .typeAssert x _ t ok => assertO P t ok x
  | .extract x i => mapX (fun x => .ext x i) (compX x)
  | .call c => callO P c
  | .defer c => deferO c
  | .panic x => mapX .panic (compX x)
  | _ => none

def compG (ops : List Oper) (g : Option (Nat × Bool)) : Option (Option (Nat × Bool)) :=
  match g with
  | none => some none
  | some (j, w) => (match ops[j]? with | some o => (match o.dst with | some t => some (some (t, w)) | none => none) | none => none)

def okD (nt : Nat) (d : Option Nat) : Bool := match d with | none => true | some d => Nat.blt d nt
def mkCO (d : Option Nat) (nt : Nat) (o : Option O) (g : Option (Option (Nat × Bool))) : Option CO :=
  match o, g with
  | some o, some g => cond (okD nt d) (some ⟨d, o, g⟩) none
  | _, _ => none
def loudO : O → Bool
  | .call _ _ | .inv _ _ _ | .defer _ _ | .panic _ => true
  | _ => false
def loudOp : Op → Bool
  | .call ⟨.builtin _, _, _⟩ => false
  | .call _ | .defer _ | .panic _ => true
  | _ => false
def compOp1 (P : Program) (o : Op) : Option O := match compOp P o with | some c => cond (or (loudOp o) (not (loudO c))) (some c) none | none => none
def compCO (P : Program) (nt : Nat) (ops : List Oper) (o : Oper) : Option CO := mkCO o.dst nt (compOp1 P o.op) (compG ops o.guard)

def consC (a : Option CO) (r : Option (List CO)) : Option (List CO) := match a, r with | some a, some r => some (a :: r) | _, _ => none
def compOps (P : Program) (nt : Nat) (ops : List Oper) : List Oper → Option (List CO)
  | [] => some []
  | o :: l => consC (compCO P nt ops o) (compOps P nt ops l)

/- regions whose order is drawn -/
inductive PK where
  | pure | read | made | loud
def partK (o : O) : PK :=
  match o with
  | .call _ _ | .inv _ _ _ | .defer _ _ | .panic _ | .store _ _ _ | .upd _ _ _ _ | .app _ _ _ _ | .copy _ _ _ => .loud
  | .box _ | .alloc _ | .lits _ _ _ _ | .makeM | .makeS _ _ _ _ _ | .strb _ => .made
  | .load _ _ | .look _ _ _ _ _ | .chk _ | .fieldA _ _ | .idxA _ _ _ | .bstr _ | .len _ _ | .eqNil _ _ _ | .slice _ _ _ _ => .read
  | _ => .pure
/-- the numbers of the operations ahead of each one. -/
def hasN (l : List Nat) (n : Nat) : Bool := l.any (Nat.beq n)
def addN (l m : List Nat) : List Nat := m.foldl (fun l n => cond (hasN l n) l (n :: l)) l
def preOf (acc : List (List Nat)) (es : List Edge) : List Nat :=
  es.foldl (fun l e => cond (Region.binds .any e) (addN (addN l [e.on]) (acc.getD e.on [])) l) []
def pres (ops : List Oper) : List (List Nat) := ops.foldl (fun acc o => acc ++ [preOf acc o.after.toList]) []

def isLoud (p : PK) : Bool := match p with | .loud => true | _ => false
def isMade (p : PK) : Bool := match p with | .made => true | _ => false
/-- how many loud operations are among the numbers; how many are not behind a number. -/
def loBelow (loud : List Nat) (pre : List Nat) : Nat := (loud.filter (hasN pre)).length
def hiBelow (loud : List Nat) (ps : List (List Nat)) (i : Nat) : Nat := (loud.filter fun l => not (hasN (ps.getD l []) i)).length

/-- whether all operations from j to below j + n are behind i. -/
def lastOf (ps : List (List Nat)) (i : Nat) : Nat → Nat → Bool
  | _, 0 => true
  | j, n + 1 => and (hasN (ps.getD j []) i) (lastOf ps i (j + 1) n)
/-- the operations that make objects, and their temporaries; those of them that a loud one is not behind. -/
def madeOf : List CO → Nat → List (Nat × Nat)
  | [], _ => []
  | o :: l, i => (match o.d with | some d => cond (isMade (partK o.o)) ((i, d) :: madeOf l (i + 1)) (madeOf l (i + 1)) | none => madeOf l (i + 1))
def hideOf (made : List (Nat × Nat)) (pre : List Nat) (i : Nat) : List Nat := (made.filter fun p => and (Nat.blt p.1 i) (not (hasN pre p.1))).map (·.2)
def partOf (loud : List Nat) (made : List (Nat × Nat)) (ps : List (List Nat)) (i : Nat) (k : PK) : Part :=
  match k with
  | .pure => .pure
  | .made => .made
  | .loud => .loud (lastOf ps i (i + 1) (ps.length - (i + 1))) (hideOf made (ps.getD i []) i)
  | .read => .read (loBelow loud (ps.getD i [])) (hiBelow loud ps i)

def partsOf (loud : List Nat) (made : List (Nat × Nat)) (ps : List (List Nat)) : List CO → Nat → List (Part × CO)
  | [], _ => []
  | o :: l, i => (partOf loud made ps i (partK o.o), o) :: partsOf loud made ps l (i + 1)
def loudOf : List CO → Nat → List Nat
  | [], _ => []
  | o :: l, i => cond (isLoud (partK o.o)) (i :: loudOf l (i + 1)) (loudOf l (i + 1))

def tmpX : X → List Nat
  | .t n => [n]
  | .c _ => []
def tmpOX : Option X → List Nat
  | none => []
  | some x => tmpX x
/-- the temporaries that an operation looks at. -/
def usesO : O → List Nat
  | .mov x | .eqNil _ _ x | .not x | .neg x | .conv _ x | .bstr x | .strb x | .box x | .load _ x | .chk x | .fieldA _ x | .field _ _ x | .len _ x | .iface _ x | .assert _ _ _ x | .ext x _ | .panic x => tmpX x
  | .pick a b c | .upd _ a b c => tmpX a ++ tmpX b ++ tmpX c
  | .ar _ a b | .eqB _ a b | .eqA _ _ a b | .store _ a b | .idxA _ a b | .idxS a b | .idxV _ _ _ a b | .app _ _ a b | .copy _ a b | .makeS _ _ _ a b | .look _ _ _ a b | .min a b | .max a b => tmpX a ++ tmpX b
  | .alloc _ | .makeM => []
  | .build _ ps | .lits _ _ _ ps => ps.flatMap fun p => tmpX p.2.2
  | .slice _ x lo hi | .sliceS x lo hi => tmpX x ++ tmpOX lo ++ tmpOX hi
  | .func _ a b => a.flatMap tmpX ++ b.flatMap tmpX
  | .call f l => tmpX f ++ l.flatMap tmpX
  | .inv _ x l => tmpX x ++ l.flatMap tmpX
  | .defer f l => tmpX f ++ l.flatMap tmpX
def uses (o : CO) : List Nat := usesO o.o ++ (match o.g with | some (t, _) => [t] | none => [])
def clash (a b : CO) : Bool :=
  or (match a.d with | some d => or (hasN (uses b) d) (match b.d with | some e => Nat.beq d e | none => false) | none => false)
    (match b.d with | some d => hasN (uses a) d | none => false)
def sameD (a b : Option Nat) : Bool := match a, b with | some a, some b => Nat.beq a b | _, _ => false
def noD (a : Option Nat) : Bool := match a with | some _ => false | none => true
/-- whether what must not change places is in order: a with each behind it. -/
def pairOk (ps : List (List Nat)) (i j : Nat) (a b : CO) : Bool :=
  and (not (and (isMade (partK a.o)) (sameD a.d b.d)))
    (or (hasN (ps.getD j []) i) (and (not (clash a b)) (and (not (and (isLoud (partK a.o)) (isLoud (partK b.o)))) (not (and (isMade (partK a.o)) (and (isLoud (partK b.o)) (noD a.d)))))))
def rowOk (ps : List (List Nat)) (i : Nat) (a : CO) : List CO → Nat → Bool
  | [], _ => true
  | b :: l, j => and (pairOk ps i j a b) (rowOk ps i a l (j + 1))
def allOk (ps : List (List Nat)) : List CO → Nat → Bool
  | [], _ => true
  | a :: l, i => and (rowOk ps i a l (i + 1)) (allOk ps l (i + 1))

/-- whether all edges that bind go backwards. -/
def edgesOk : List Oper → Nat → Bool
  | [], _ => true
  | o :: l, j => and (o.after.toList.all fun e => or (not (Region.binds .any e)) (Nat.blt e.on j)) (edgesOk l (j + 1))

def regO (l : Option (List CO)) : Option C := match l with | some l => some (.reg l) | none => none
def regDO (ops : List Oper) (l : Option (List CO)) : Option C :=
  match l with
  | some l => cond (and (edgesOk ops 0) (allOk (pres ops) l 0)) (some (.regD (partsOf (loudOf l 0) (madeOf l 0) (pres ops) l 0))) none
  | none => none

def seqO (a b : Option C) : Option C := match a, b with | some a, some b => some (.seq a b) | _, _ => none
def condO (x : Option X) (a b : Option C) : Option C := match x, a, b with | some x, some a, some b => some (.cond x a b) | _, _, _ => none
def blockO (id : Nat) (c : Option C) : Option C := match c with | some c => some (.block id c) | none => none
def loopO (c : Option C) : Option C := match c with | some c => some (.loop c) | none => none

def compC (P : Program) (nt : Nat) : Code → Option C
  | .skip => some .skip
  | .region _ ops draw => cond draw (regDO ops.toList (compOps P nt ops.toList ops.toList)) (regO (compOps P nt ops.toList ops.toList))
  | .seq a b => seqO (compC P nt a) (compC P nt b)
  | .cond c a b => condO (compX c) (compC P nt a) (compC P nt b)
  | .block id c => blockO id (compC P nt c)
  | .loop c => loopO (compC P nt c)
  | .exit id => some (.exit id)
  | .ret => some .ret
  | _ => none

def compR1 (P : Program) (r : ResultVar) : Option R :=
  match r with
  | .tmp t => some (.tmp t)
  | .cell a t => (match aggN P t with | some n => some (.cell a n) | none => none)
def consR (a : Option R) (r : Option (List R)) : Option (List R) := match a, r with | some a, some r => some (a :: r) | _, _ => none
def compR (P : Program) : List ResultVar → Option (List R)
  | [] => some []
  | r :: l => consR (compR1 P r) (compR P l)

def mkF (nt : Nat) (res : Option (List R)) (pre : Option (Nat × Nat)) (body : Option C) : Option F :=
  match res, body with
  | some res, some body => some ⟨nt, res, pre, body⟩
  | _, _ => none
/-- a body that begins with recover. -/
def recB (c : Code) : Option ((Nat × Nat) × Code) :=
  match c with
  | .seq (.region _ ops false) b => (match ops.toList with
    | [⟨some t, .call ⟨.builtin .recover, ⟨[]⟩, _⟩, _, _, _, none⟩, ⟨some u, .assign (.tmp t'), _, _, _, none⟩] => cond (Nat.beq t t') (some ((t, u), b)) none
    | _ => none)
  | _ => none
def compFB (P : Program) (fn : Func) (c : Code) (r : Option ((Nat × Nat) × Code)) : Option F :=
  match r with
  | some ((t, u), b) => cond (and (Nat.blt t fn.ntmps) (Nat.blt u fn.ntmps)) (mkF fn.ntmps (compR P fn.results.toList) (some (t, u)) (compC P fn.ntmps b)) none
  | none => mkF fn.ntmps (compR P fn.results.toList) none (compC P fn.ntmps c)
def compF (P : Program) (fn : Func) : Option F :=
  match fn.body with
  | some c => cond (fn.name != "runtime.NumGoroutine") (compFB P fn c (recB c)) none
  | none => none

end
end A
end Go.Proofs.YtcohlhplpogopaaGreat

namespace Go.Proofs.YtcohlhplpogopaaGreat
namespace A

theorem eqI_eq (a b : Int) : eqI a b = (a == b) := by
  cases a <;> cases b <;> simp only [eqI] <;> rw [Bool.eq_iff_iff] <;> simp <;> omega
theorem ltI_eq (a b : Int) : ltI a b = decide (a < b) := by
  cases a <;> cases b <;> simp only [ltI] <;> rw [Bool.eq_iff_iff] <;> simp [Nat.blt] <;> omega
theorem leI_eq (a b : Int) : (!ltI b a) = decide (a ≤ b) := by
  rw [ltI_eq, Bool.eq_iff_iff]; simp
theorem beqK_iff {k k' : IntKind} : beqK k k' = true ↔ k = k' := by cases k <;> cases k' <;> simp [beqK]

theorem wrapK_eq (k : IntKind) (n : Int) : wrapK k n = k.wrap n := by
  unfold wrapK
  cases h : inK k n
  · rfl
  · simp only [cond_true]
    cases k <;> cases n <;> first
      | exact Bool.noConfusion (show false = true from h)
      | (have h' := Nat.le_of_ble_eq_true h; simp only [IntKind.wrap, IntKind.bits, IntKind.signed, Int.ofNat_eq_natCast]; simp; omega)

theorem toU_eq (k : IntKind) (a : Int) : (BitVec.ofInt k.bits a).toNat = toU k a := by
  rw [BitVec.toNat_ofInt]; unfold toU
  congr 2

theorem eqBytes_eq : ∀ x y : List UInt8, eqBytes x y = (x == y)
  | [], [] => rfl
  | [], _ :: _ => rfl
  | _ :: _, [] => rfl
  | a :: x, b :: y => by
    show cond (Nat.beq a.toNat b.toNat) (eqBytes x y) false = _
    rw [eqBytes_eq x y, show ((a :: x) == (b :: y)) = (a == b && x == y) from rfl]
    have : (a == b) = Nat.beq a.toNat b.toNat := by
      rw [Bool.eq_iff_iff, Nat.beq_eq]; simp [UInt8.toNat_inj]
    rw [this]
    cases Nat.beq a.toNat b.toNat <;> rfl
theorem ltBytes_eq : ∀ x y : List UInt8, ltBytes x y = Op.bytesLess x y
  | [], [] => rfl
  | [], _ :: _ => rfl
  | _ :: _, [] => rfl
  | a :: x, b :: y => by
    show cond (Nat.blt a.toNat b.toNat) true (cond (Nat.beq a.toNat b.toNat) (ltBytes x y) false) = (a < b || (a == b && Op.bytesLess x y))
    rw [ltBytes_eq x y]
    have h1 : (a == b) = Nat.beq a.toNat b.toNat := by rw [Bool.eq_iff_iff, Nat.beq_eq]; simp [UInt8.toNat_inj]
    have h2 : decide (a < b) = Nat.blt a.toNat b.toNat := by rw [Bool.eq_iff_iff]; simp [Nat.blt, UInt8.lt_iff_toNat_lt, Nat.succ_le_iff]
    rw [h1, h2]
    cases Nat.blt a.toNat b.toNat <;> cases Nat.beq a.toNat b.toNat <;> rfl

theorem bytesLess_anti : ∀ x y : List UInt8, (Op.bytesLess x y || x == y) = !Op.bytesLess y x
  | [], [] => rfl
  | [], _ :: _ => rfl
  | _ :: _, [] => rfl
  | a :: x, b :: y => by
    have ih := bytesLess_anti x y
    show ((a < b || (a == b && Op.bytesLess x y)) || (a == b && x == y)) = !(b < a || (b == a && Op.bytesLess y x))
    by_cases h1 : a < b
    · have h2 : ¬ b < a := by simp only [UInt8.lt_iff_toNat_lt] at *; omega
      have h3 : (b == a) = false := by simp; rintro rfl; exact h2 h1
      simp [h1, h2, h3]
    · by_cases h2 : a = b
      · subst h2; simp [h1]; simpa using ih
      · have h3 : b < a := by
          simp only [UInt8.lt_iff_toNat_lt] at *
          have : a.toNat ≠ b.toNat := fun e => h2 (UInt8.toNat_inj.1 e)
          omega
        simp [h1, h2, h3]

section
variable {P : Program}

theorem run_arII {op : BinOp} {k k' : IntKind} {a b : Int} {v : V} (h : arII op k k' a b = some v) (t : TypeId) (w : World) :
    ∃ x, v = .lit x ∧ (binOp op t (.int k a) (.int k' b)).run P w = .ok x w := by
  unfold arII at h
  cases op <;> simp only [arShift] at h
  case shl =>
    simp only [arShl, ltI_eq] at h
    by_cases hb : b < 0
    · simp [hb] at h
    · simp only [hb, decide_false, cond_false] at h
      cases h
      refine ⟨_, rfl, ?_⟩
      simp only [binOp, Op.shift, if_neg hb, wrapK_eq]
      rfl
  case shr =>
    simp only [arShr, ltI_eq] at h
    by_cases hb : b < 0
    · simp [hb] at h
    · simp only [hb, decide_false, cond_false] at h
      cases h
      refine ⟨_, rfl, ?_⟩
      simp only [binOp, Op.shift, if_neg hb]
      rfl
  all_goals
    cases hk : beqK k k' with
    | false => rw [hk] at h; cases h
    | true =>
      have hkk := beqK_iff.1 hk
      subst hkk
      rw [hk] at h
      simp only [cond_true, arInt, arAdd, arSub, arMul, arQuo, arRem, arAnd, arOr, arXor, arEql, arNeq, arLss, arLeq, arGtr, arGeq, arNo] at h
      first
        | (cases h; done)
        | (cases h; refine ⟨_, rfl, ?_⟩; simp [binOp, Op.intArith, Op.intBits, Op.intCmp, wrapK_eq, toU_eq, eqI_eq, ltI_eq, Nat.land, Nat.lor, Nat.xor, bne]; done)
        | (rw [eqI_eq] at h
           by_cases hb : b = 0
           · simp [hb] at h
           · simp only [beq_iff_eq, hb, Bool.not_eq_true, beq_eq_false_iff_ne, ne_eq, not_false_eq_true, show (b == 0) = false from by simp [hb], cond_false] at h
             cases h; refine ⟨_, rfl, ?_⟩; simp [binOp, Op.intDiv, hb, wrapK_eq])
        | (cases h; refine ⟨_, rfl, ?_⟩; simp only [leI_eq]; simp [binOp, Op.intCmp]; done)
        | (cases h; refine ⟨_, rfl, ?_⟩; simp [binOp, Op.intArith, Op.intBits, Op.intCmp, wrapK_eq]; rfl)

theorem run_arStr {op : BinOp} {a b : ByteArray} {v : V} (h : arStr op a.data.toList b.data.toList = some v) (t : TypeId) (w : World) :
    ∃ x, v = .lit x ∧ (binOp op t (.string a) (.string b)).run P w = .ok x w := by
  cases op <;> simp only [arStr] at h <;> first
    | (cases h; done)
    | (cases h; refine ⟨_, rfl, ?_⟩; simp [binOp, Op.stringOp, ByteArray.toList_eq, eqBytes_eq, ltBytes_eq, bytesLess_anti]; done)
    | (cases h; refine ⟨_, rfl, ?_⟩; simp only [binOp, Op.stringOp, ByteArray.toList_eq, eqBytes_eq, ltBytes_eq, bytesLess_anti]; rfl)

theorem litV_rel {σ : Sg} {m : World} {v x : Value} (h : VRel σ m (.lit v) x) : x = v := by simpa only [VRel] using h

theorem run_ar {σ : Sg} {m : World} {op : BinOp} {x y v : V} {a b : Value} (h : ar op x y = some v) (hx : VRel σ m x a) (hy : VRel σ m y b) (t : TypeId) (w : World) :
    ∃ z, v = .lit z ∧ (binOp op t a b).run P w = .ok z w := by
  unfold ar at h
  split at h
  · have e1 := litV_rel hx; have e2 := litV_rel hy
    subst e1; subst e2
    exact run_arII h t w
  · have e1 := litV_rel hx; have e2 := litV_rel hy
    subst e1; subst e2
    exact run_arStr h t w
  · cases h

theorem run_eqGuard_lit (op : BinOp) (t : TypeId) (x y : Operand) {a b : Value} (w : World) (ha : (∃ k n, a = .int k n) ∨ (∃ s, a = .string s) ∨ ∃ c, a = .bool c) : (eqGuard op t x y a b).run P w = .ok () w := by
  unfold eqGuard
  rcases ha with ⟨k, n, rfl⟩ | ⟨s, rfl⟩ | ⟨c, rfl⟩ <;> (split <;> rfl)

theorem ar_lit {op : BinOp} {x y v : V} {σ : Sg} {m : World} {a : Value} (h : ar op x y = some v) (hx : VRel σ m x a) : (∃ k n, a = .int k n) ∨ (∃ s, a = .string s) ∨ ∃ c, a = .bool c := by
  unfold ar at h
  split at h
  · exact .inl ⟨_, _, litV_rel hx⟩
  · exact .inr (.inl ⟨_, litV_rel hx⟩)
  · cases h

/- types -/
theorem kindP_some {t : TypeId} {k : TK} (h : kindP P t = some k) : ∃ d, P.underlying t = some d ∧ tk d = k := by
  unfold kindP at h
  cases hu : P.underlying t with
  | none => rw [hu] at h; cases h
  | some d => rw [hu] at h; cases h; exact ⟨d, rfl, rfl⟩
theorem tk_int {d : TypeDesc} {k : IntKind} (h : tk d = .int k) : d = .int k := by cases d <;> simp [tk] at h; rw [h]
theorem tk_bool {d : TypeDesc} (h : tk d = .bool) : d = .bool := by cases d <;> simp [tk] at h; rfl
theorem tk_string {d : TypeDesc} (h : tk d = .string) : d = .string := by cases d <;> simp [tk] at h; rfl
theorem tk_slice {d : TypeDesc} {e : TypeId} (h : tk d = .slice e) : d = .slice e := by cases d <;> simp [tk] at h; rw [h]
theorem tk_map {d : TypeDesc} {k e : TypeId} (h : tk d = .map k e) : d = .map k e := by cases d <;> simp [tk] at h; rw [h.1, h.2]
theorem tk_struct {d : TypeDesc} {fs : List Field} (h : tk d = .struct fs) : d = .struct fs.toArray := by cases d <;> simp [tk] at h; rw [← h]
theorem tk_array {d : TypeDesc} {n : Nat} {e : TypeId} (h : tk d = .array n e) : d = .array n e := by cases d <;> simp [tk] at h; rw [h.1, h.2]
theorem tk_iface {d : TypeDesc} (h : tk d = .iface) : ∃ ms, d = .interface ms := by cases d <;> simp [tk] at h; exact ⟨_, rfl⟩
theorem tk_func {d : TypeDesc} (h : tk d = .func) : ∃ a b c, d = .func a b c := by cases d <;> simp [tk] at h; exact ⟨_, _, _, rfl⟩
theorem tk_pointer {d : TypeDesc} (h : tk d = .pointer) : ∃ e, d = .pointer e := by cases d <;> simp [tk] at h; exact ⟨_, rfl⟩

theorem run_und {t : TypeId} {d : TypeDesc} (h : P.underlying t = some d) (w : World) : (underlying t).run P w = .ok d w := by
  simp [underlying, h]

theorem und_struct {t : TypeId} {fs : List Field} (h : kindP P t = some (.struct fs)) : P.underlying t = some (.struct fs.toArray) := by
  obtain ⟨d, h1, h2⟩ := kindP_some h
  rw [h1, tk_struct h2]

theorem sizeP_run {t : TypeId} {n : Nat} (h : sizeP P t = some n) (w : World) : (sizeOf t).run P w = .ok n w := by
  unfold sizeP at h
  cases hi : P.info? t with
  | none => rw [hi] at h; cases h
  | some i => rw [hi] at h; cases h; simp [sizeOf, typeInfo, show P.toTables.info? t = some i from hi]
theorem zeroP_run {t : TypeId} {z : Value} (h : zeroP P t = some z) (w : World) : (zeroValue t).run P w = .ok z w := by
  unfold zeroP at h
  cases hi : P.info? t with
  | none => rw [hi] at h; cases h
  | some i => rw [hi] at h; simp only at h; simp [zeroValue, typeInfo, show P.toTables.info? t = some i from hi, h]
theorem bytesP_run {t : TypeId} {n : Nat} (h : bytesP P t = some n) (w : World) : ∃ i, (typeInfo t).run P w = .ok i w ∧ i.bytes = n := by
  unfold bytesP at h
  cases hi : P.info? t with
  | none => rw [hi] at h; cases h
  | some i => rw [hi] at h; cases h; exact ⟨i, by simp [typeInfo, show P.toTables.info? t = some i from hi], rfl⟩

theorem aggN_run {t : TypeId} {n : Option Nat} (h : aggN P t = some n) (w : World) :
    (isAgg t).run P w = .ok n.isSome w ∧ ∀ k, n = some k → (sizeOf t).run P w = .ok k w := by
  unfold aggN at h
  split at h
  · rename_i fs k h1 h2
    obtain ⟨d, h3, h4⟩ := kindP_some h1
    have := tk_struct h4; subst this
    cases h
    exact ⟨by simp [isAgg, run_und h3], fun k' e => by cases e; exact sizeP_run h2 w⟩
  · rename_i a b k h1 h2
    obtain ⟨d, h3, h4⟩ := kindP_some h1
    have := tk_array h4; subst this
    cases h
    exact ⟨by simp [isAgg, run_und h3], fun k' e => by cases e; exact sizeP_run h2 w⟩
  · rename_i k s hn2 hn1 h1 h2
    obtain ⟨d, h3, h4⟩ := kindP_some h1
    cases h
    refine ⟨?_, fun k' e => by cases e⟩
    simp only [isAgg, Sem.run_bind, run_und h3, Result.andThen_ok]
    cases d <;> first
      | rfl
      | exact absurd h4.symm (hn2 _)
      | exact absurd h4.symm (hn1 _ _)
  · cases h

/- equality of scalars and of structs of scalars -/
/-- a value is a scalar of a kind. -/
def IsSK : SK → Value → Prop
  | .int k, a => ∃ n, a = .int k n
  | .bool, a => ∃ b, a = .bool b
  | .string, a => ∃ s, a = .string s

theorem scalarK_und {t : TypeId} {s : SK} (h : scalarK P t = some s) : P.underlying t = some (match s with | .bool => .bool | .int k => .int k | .string => .string) := by
  unfold scalarK at h
  split at h
  · rename_i h1; obtain ⟨d, h3, h4⟩ := kindP_some h1; cases h; rw [tk_bool h4] at h3; exact h3
  · rename_i k h1; obtain ⟨d, h3, h4⟩ := kindP_some h1; cases h; rw [tk_int h4] at h3; exact h3
  · rename_i h1; obtain ⟨d, h3, h4⟩ := kindP_some h1; cases h; rw [tk_string h4] at h3; exact h3
  · cases h

theorem eqSK_rel {σ : Sg} {m : World} {s : SK} {x y : V} {a b : Value} {r : Bool} (h : eqSK s x y = some r) (hx : VRel σ m x a) (hy : VRel σ m y b) : IsSK s a ∧ IsSK s b ∧ (r = true ↔ a = b) := by
  unfold eqSK at h
  split at h
  · rename_i k k1 p k2 q
    have e1 := litV_rel hx; have e2 := litV_rel hy
    cases hk : beqK k k1 && beqK k k2 with
    | false => rw [hk] at h; cases h
    | true =>
      rw [hk] at h
      rw [Bool.and_eq_true, beqK_iff, beqK_iff] at hk
      obtain ⟨rfl, rfl⟩ := hk
      cases h
      subst e1; subst e2
      exact ⟨⟨p, rfl⟩, ⟨q, rfl⟩, by rw [eqI_eq]; simp⟩
  · rename_i p q
    have e1 := litV_rel hx; have e2 := litV_rel hy
    cases h
    subst e1; subst e2
    exact ⟨⟨p, rfl⟩, ⟨q, rfl⟩, by cases p <;> cases q <;> simp⟩
  · rename_i p q
    have e1 := litV_rel hx; have e2 := litV_rel hy
    cases h
    subst e1; subst e2
    refine ⟨⟨p, rfl⟩, ⟨q, rfl⟩, ?_⟩
    rw [eqBytes_eq]
    simp only [beq_iff_eq, Value.string.injEq]
    constructor
    · intro e; rcases p with ⟨⟨p⟩⟩; rcases q with ⟨⟨q⟩⟩; simp at e; rw [e]
    · intro e; rw [e]
  · cases h

theorem run_equalIn_sk {t : TypeId} {s : SK} (ht : scalarK P t = some s) {a b : Value} (ha : IsSK s a) (hb : IsSK s b) (d : Nat) (w : World) :
    ∃ r, (Op.equalIn (d + 1) t a b).run P w = .ok r w ∧ (r = true ↔ a = b) := by
  have hu := scalarK_und ht
  cases s with
  | bool => obtain ⟨p, rfl⟩ := ha; obtain ⟨q, rfl⟩ := hb; exact ⟨p == q, by simp [Op.equalIn, run_und hu], by simp⟩
  | int k => obtain ⟨p, rfl⟩ := ha; obtain ⟨q, rfl⟩ := hb; exact ⟨p == q, by simp [Op.equalIn, run_und hu], by simp⟩
  | string =>
    obtain ⟨p, rfl⟩ := ha; obtain ⟨q, rfl⟩ := hb
    refine ⟨p == q, by simp [Op.equalIn, run_und hu], ?_⟩
    rw [beq_toListBytes, ByteArray.toList_eq, ByteArray.toList_eq]
    simp only [beq_iff_eq, Value.string.injEq]
    constructor
    · intro e; rcases p with ⟨⟨p⟩⟩; rcases q with ⟨⟨q⟩⟩; simp at e; rw [e]
    · intro e; rw [e]

/-- values that are scalars of kinds, in a row. -/
def AreSK : List SK → List Value → Prop
  | [], l => l = []
  | s :: ks, l => ∃ a r, l = a :: r ∧ IsSK s a ∧ AreSK ks r

theorem bothO_some {x y : Option Bool} {r : Bool} (h : bothO x y = some r) : ∃ a b, x = some a ∧ y = some b ∧ r = (a && b) := by
  unfold bothO at h
  split at h
  · cases h; exact ⟨_, _, rfl, rfl, rfl⟩
  · cases h

theorem eqAll_rel {σ : Sg} {m : World} : ∀ {ks : List SK} {l k : List V} {xs ys : List Value} {r : Bool}, eqAll ks l k = some r → LRel σ m l xs → LRel σ m k ys → AreSK ks xs ∧ AreSK ks ys ∧ (r = true ↔ xs = ys)
  | [], [], [], xs, ys, r, h, hx, hy => by
    rw [LRel.nil_iff] at hx hy
    subst hx; subst hy
    have : r = true := by cases h; rfl
    exact ⟨rfl, rfl, by simp [this]⟩
  | [], [], _ :: _, _, _, _, h, _, _ => by cases h
  | [], _ :: _, _, _, _, _, h, _, _ => by cases h
  | s :: ks, [], _, _, _, _, h, _, _ => by cases h
  | s :: ks, _ :: _, [], _, _, _, h, _, _ => by cases h
  | s :: ks, u :: l, v :: k, xs, ys, r, h, hx, hy => by
    have h' : bothO (eqSK s u v) (eqAll ks l k) = some r := h
    obtain ⟨p, q, h1, h2, h3⟩ := bothO_some h'
    simp only [LRel] at hx hy
    obtain ⟨x, xs', rfl, hx1, hx2⟩ := hx
    obtain ⟨y, ys', rfl, hy1, hy2⟩ := hy
    obtain ⟨a1, a2, a3⟩ := eqSK_rel h1 hx1 hy1
    obtain ⟨b1, b2, b3⟩ := eqAll_rel h2 hx2 hy2
    refine ⟨⟨x, xs', rfl, a1, b1⟩, ⟨y, ys', rfl, a2, b2⟩, ?_⟩
    rw [h3, Bool.and_eq_true, a3, b3]
    simp

theorem consK_some {c : Bool} {a : Option SK} {r : Option (List SK)} {l : List SK} (h : consK c a r = some l) : c = true ∧ ∃ s ks, a = some s ∧ r = some ks ∧ l = s :: ks := by
  unfold consK at h
  split at h
  · cases h; exact ⟨rfl, _, _, rfl, rfl, rfl⟩
  · cases h

theorem part_scalar {t : TypeId} {s : SK} (ht : scalarK P t = some s) (cs : Array Value) (off : Nat) (a : Value) (h : cs[off]? = some a) (w : World) : (part t cs off).run P w = .ok a w := by
  have hu := scalarK_und ht
  have : (isAgg t).run P w = .ok false w := by
    simp only [isAgg, Sem.run_bind, run_und hu, Result.andThen_ok]
    cases s <;> rfl
  simp [part, this, h]

theorem run_eqFields {d : Nat} {xs ys : Array Value} (w : World) : ∀ (fs : List Field) (n : Nat) (ks : List SK) (as bs : List Value), plainFs P fs n = some ks → AreSK ks as → AreSK ks bs →
    (∀ j a, as[j]? = some a → xs[n + j]? = some a) → (∀ j a, bs[j]? = some a → ys[n + j]? = some a) →
    ∃ r, (Op.eqFields (d + 1) xs ys fs).run P w = .ok r w ∧ (r = true ↔ as = bs)
  | [], n, ks, as, bs, h, ha, hb, _, _ => by
    cases h
    cases ha; cases hb
    exact ⟨true, rfl, by simp⟩
  | f :: fs, n, ks, as, bs, h, ha, hb, hxs, hys => by
    obtain ⟨hc, s, ks', h1, h2, rfl⟩ := consK_some h
    rw [Bool.and_eq_true, bne_iff_ne, Nat.beq_eq] at hc
    obtain ⟨hname, hoff⟩ := hc
    obtain ⟨a, as', rfl, ha1, ha2⟩ := ha
    obtain ⟨b, bs', rfl, hb1, hb2⟩ := hb
    have hx0 := hxs 0 a (by simp)
    have hy0 := hys 0 b (by simp)
    obtain ⟨r, hr, hrr⟩ := run_equalIn_sk h1 ha1 hb1 d w
    obtain ⟨q, hq, hqq⟩ := run_eqFields (d := d) w fs (n + 1) ks' as' bs' h2 ha2 hb2 (fun j c hj => by rw [show n + 1 + j = n + (j + 1) from by omega]; exact hxs (j + 1) c (by simpa using hj))
      (fun j c hj => by rw [show n + 1 + j = n + (j + 1) from by omega]; exact hys (j + 1) c (by simpa using hj))
    simp only [Op.eqFields, ne_eq, hname, not_false_eq_true, if_true, Sem.run_bind]
    rw [hoff, part_scalar h1 xs n a (by simpa using hx0) w]
    simp only [Result.andThen_ok]
    rw [part_scalar h1 ys n b (by simpa using hy0) w]
    simp only [Result.andThen_ok, hr, Sem.run_ite, Sem.run_pure]
    cases r with
    | false =>
      refine ⟨false, by simp, ?_⟩
      have : a ≠ b := fun e => by have := hrr.2 e; cases this
      simp [this]
    | true =>
      refine ⟨q, by simpa using hq, ?_⟩
      have := hrr.1 rfl
      subst this
      rw [hqq]; simp

theorem plainK_some {t : TypeId} {ks : List SK} (h : plainK P t = some ks) :
    ∃ fs, P.underlying t = some (.struct fs) ∧ P.stoodInHeld t = false ∧ P.eqGuardType P.depth t = false ∧ plainFs P fs.toList 0 = some ks := by
  unfold plainK at h
  split at h
  · rename_i fs h1
    have hu := und_struct h1
    cases hc : (!P.stoodInHeld t && !P.eqGuardType P.depth t) with
    | false => rw [hc] at h; cases h
    | true =>
      rw [hc] at h
      rw [Bool.and_eq_true, Bool.not_eq_true', Bool.not_eq_true'] at hc
      exact ⟨_, hu, hc.1, hc.2, h⟩
  · cases h

theorem run_equalIn_plain {t : TypeId} {ks : List SK} (ht : plainK P t = some ks) {xs ys : Array Value} (hx : AreSK ks xs.toList) (hy : AreSK ks ys.toList) (d : Nat) (w : World) :
    ∃ r, (Op.equalIn (d + 2) t (.agg xs) (.agg ys)).run P w = .ok r w ∧ (r = true ↔ xs.toList = ys.toList) := by
  obtain ⟨fs, hu, hs, _, hp⟩ := plainK_some ht
  have hfo : P.fieldsOf t = fs := by simp [Program.fieldsOf, hu]
  rw [run_equalIn_struct w (d + 1) t xs ys (by rw [hfo]; exact hu) hs, hfo]
  exact run_eqFields w fs.toList 0 ks xs.toList ys.toList hp hx hy (fun j a h => by simpa using h) (fun j a h => by simpa using h)

theorem scalar_not_plain {t : TypeId} {ks : List SK} (h : plainK P t = some ks) : ∃ fs, P.underlying t = some (.struct fs) := let ⟨fs, hu, _⟩ := plainK_some h; ⟨fs, hu⟩

end
end A
end Go.Proofs.YtcohlhplpogopaaGreat

namespace Go.Proofs.YtcohlhplpogopaaGreat
namespace A

/-- an operation of the model comes to a value that v stands for, in a world that h' stands for. -/
def Does (P : Program) (σ : Sg) (m : World) (n : Sem Next) (v : V) (h h' : H) (w : World) : Prop :=
  ∃ x w' σ', (n.run P w = .ok (.value x) w' ∨ (n.run P w = .ok .skip w' ∧ x = undef)) ∧ VRel σ' m v x ∧ WRel σ' m h' w' ∧ Good σ σ' h h' w w'

section
variable {P : Program} {σ : Sg} {m w : World} {h h' : H}

theorem Does.of_run {s : Sem Value} {v : V} {x : Value} {w' : World} {σ' : Sg} (hr : s.run P w = .ok x w') (hv : VRel σ' m v x) (hw : WRel σ' m h' w') (hg : Good σ σ' h h' w w') :
    Does P σ m (do pure (.value (← s))) v h h' w := ⟨x, w', σ', .inl (by simp [hr]), hv, hw, hg⟩

theorem Does.same {s : Sem Value} {v : V} {x : Value} (hw : WRel σ m h w) (hr : s.run P w = .ok x w) (hv : VRel σ m v x) : Does P σ m (do pure (.value (← s))) v h h w :=
  .of_run hr hv hw (Good.refl _ _ _)

/- operands -/
theorem lits_rel : ∀ l : List Value, LRel σ m (l.map V.lit) l
  | [] => LRel.nil
  | _ :: l => LRel.cons (by simp only [VRel]) (lits_rel l)
theorem toV0_rel (v : Value) : VRel σ m (toV0 v) v := by
  cases v with
  | agg cs => simp only [toV0, VRel]; exact ⟨cs, rfl, lits_rel _⟩
  | _ => simp only [toV0, VRel]
theorem toV_rel (v : Value) : VRel σ m (toV v) v := by
  cases v with
  | agg cs => simp only [toV, VRel]; exact ⟨cs, rfl, lits_rel _⟩
  | func f a b => simp only [toV, VRel]; exact ⟨a, b, rfl, lits_rel _, lits_rel _⟩
  | iface t v => simp only [toV, VRel]; exact ⟨v, rfl, toV0_rel v⟩
  | _ => simp only [toV, VRel]

theorem X_rel {a : Go.Act} {tm : TM} {x : Operand} {y : X} (ht : TRel σ m tm a.tmps) (hc : compX x = some y) : VRel σ m (y.ev tm) (a.eval x) := by
  cases x with
  | tmp t => cases hc; exact ht t
  | const v => cases hc; exact toV_rel v
  | func f => cases hc; show VRel σ m (.fn _ [] []) _; simp only [VRel, Act.eval]; exact ⟨#[], #[], rfl, LRel.nil, LRel.nil⟩
  | global g => cases hc

theorem consX_some {a : Option X} {r : Option (List X)} {l : List X} (h : consX a r = some l) : ∃ x k, a = some x ∧ r = some k ∧ l = x :: k := by
  unfold consX at h
  split at h
  · cases h; exact ⟨_, _, rfl, rfl, rfl⟩
  · cases h
theorem Xs_rel {a : Go.Act} {tm : TM} (ht : TRel σ m tm a.tmps) : ∀ {l : List Operand} {ys : List X}, compXs l = some ys → LRel σ m (evs ys tm) (l.map a.eval)
  | [], ys, hc => by cases hc; exact LRel.nil
  | x :: l, ys, hc => by
    obtain ⟨y, k, h1, h2, rfl⟩ := consX_some hc
    exact LRel.cons (X_rel ht h1) (Xs_rel ht h2)

theorem mapX_some {f : X → O} {x : Option X} {o : O} (h : mapX f x = some o) : ∃ y, x = some y ∧ o = f y := by
  unfold mapX at h; split at h <;> cases h; exact ⟨_, rfl, rfl⟩
theorem mapX2_some {f : X → X → O} {x y : Option X} {o : O} (h : mapX2 f x y = some o) : ∃ a b, x = some a ∧ y = some b ∧ o = f a b := by
  unfold mapX2 at h; split at h <;> cases h; exact ⟨_, _, rfl, rfl, rfl⟩
theorem mapX3_some {f : X → X → X → O} {x y z : Option X} {o : O} (h : mapX3 f x y z = some o) : ∃ a b c, x = some a ∧ y = some b ∧ z = some c ∧ o = f a b c := by
  unfold mapX3 at h; split at h <;> cases h; exact ⟨_, _, _, rfl, rfl, rfl, rfl⟩

theorem okV_some {o : Option V} {v : V} (hs : okV h o = some (v, h')) : o = some v ∧ h' = h := by
  unfold okV at hs; split at hs <;> cases hs; exact ⟨rfl, rfl⟩
theorem okB_some {neg : Bool} {o : Option Bool} {v : V} (hs : okB h neg o = some (v, h')) : ∃ b, o = some b ∧ v = litB (xor neg b) ∧ h' = h := by
  unfold okB at hs; split at hs <;> cases hs; exact ⟨_, rfl, rfl, rfl⟩
theorem okAgg_some {o : Option (List V)} {v : V} (hs : okAgg h o = some (v, h')) : ∃ l, o = some l ∧ v = .agg l ∧ h' = h := by
  unfold okAgg at hs; split at hs <;> cases hs; exact ⟨_, rfl, rfl, rfl⟩

theorem does_pick {c a b : V} {x y z : Value} {v : V} (hs : pickV c a b h = some (v, h')) (hw : WRel σ m h w) (hc : VRel σ m c x) (ha : VRel σ m a y) (hb : VRel σ m b z) :
    Does P σ m (do pure (.value (if ← asBool x then y else z))) v h h' w := by
  unfold pickV at hs
  split at hs
  · rename_i t
    have e := litV_rel hc; subst e
    cases hs
    refine ⟨_, w, σ, .inl (by simp [asBool]; rfl), ?_, hw, Good.refl _ _ _⟩
    cases t
    · exact hb
    · exact ha
  · cases hs

theorem does_ar {op : BinOp} {t : TypeId} {x y : Operand} {u u' v : V} {a b : Value} (hs : okV h (ar op u u') = some (v, h')) (hw : WRel σ m h w) (ha : VRel σ m u a) (hb : VRel σ m u' b) :
    Does P σ m (do pure (.value (← (do eqGuard op t x y a b; binOp op t a b : Sem Value)))) v h h' w := by
  obtain ⟨h1, rfl⟩ := okV_some hs
  obtain ⟨z, rfl, hz⟩ := run_ar (P := P) h1 ha hb t w
  exact .same (x := z) hw (by simp [run_eqGuard_lit op t x y w (ar_lit h1 ha), hz]) (by simp only [VRel])

theorem eqGuard_ne {op : BinOp} {t : TypeId} {x y : Operand} {a b : Value} (h : ∀ u v, a = .agg u → b = .agg v → P.eqGuardType P.depth t = false) (hn : a = .nilIface → b = .nilIface → ∃ c, y = .const c) :
    (eqGuard op t x y a b).run P w = .ok () w := by
  have main : ∀ op, (op = .eql ∨ op = .neq) → (eqGuard op t x y a b).run P w = .ok () w := by
    intro op hop
    rcases hop with rfl | rfl
    all_goals
      cases a <;> cases b <;> first
        | rfl
        | (obtain ⟨c, rfl⟩ := hn rfl rfl; cases x <;> rfl)
        | (have hg := h _ _ rfl rfl; simp [eqGuard, hg])
  cases op <;> first | rfl | exact main _ (.inl rfl) | exact main _ (.inr rfl)

theorem does_eqB {neg : Bool} {op : BinOp} {t : TypeId} {x y : Operand} {u u' v : V} {a b : Value} (hs : eqBV neg u u' h = some (v, h')) (hw : WRel σ m h w) (ha : VRel σ m u a) (hb : VRel σ m u' b)
    (ht : kindP P t = some .bool) (ho : op = (bif neg then .neq else .eql)) : Does P σ m (do pure (.value (← (do eqGuard op t x y a b; binOp op t a b : Sem Value)))) v h h' w := by
  unfold eqBV at hs
  split at hs
  · rename_i p q
    have e := litV_rel ha; have e' := litV_rel hb; subst e; subst e'
    cases hs
    obtain ⟨d, hu, hd⟩ := kindP_some ht
    have := tk_bool hd; subst this
    refine .same (x := .bool (xor neg (!(xor p q)))) hw ?_ (by simp only [litB, VRel])
    rw [Sem.run_bind, eqGuard_ne (fun _ _ e => by cases e) (fun e => by cases e), Result.andThen_ok]
    have he : (Op.equal t (.bool p) (.bool q)).run P w = .ok (p == q) w := by
      have := run_equalIn_sk (P := P) (t := t) (s := .bool) (by simp [scalarK, ht]) ⟨p, rfl⟩ ⟨q, rfl⟩ 9999 w
      obtain ⟨r, hr, hrr⟩ := this
      have hrq : r = (p == q) := by rw [Bool.eq_iff_iff, hrr]; simp
      rw [← hrq]; exact hr
    subst ho
    cases neg
    · show Sem.run P (do pure (.bool (← Op.equal t (.bool p) (.bool q))) : Sem Value) w = _
      rw [Sem.run_bind, he]; cases p <;> cases q <;> rfl
    · show Sem.run P (do pure (.bool (!(← Op.equal t (.bool p) (.bool q)))) : Sem Value) w = _
      rw [Sem.run_bind, he]; cases p <;> cases q <;> rfl
  · cases hs

theorem does_eqA {neg : Bool} {ks : List SK} {op : BinOp} {t : TypeId} {x y : Operand} {u u' v : V} {a b : Value} (hs : eqAV neg ks u u' h = some (v, h')) (hw : WRel σ m h w) (ha : VRel σ m u a) (hb : VRel σ m u' b)
    (ht : plainK P t = some ks) (ho : op = (bif neg then .neq else .eql)) : Does P σ m (do pure (.value (← (do eqGuard op t x y a b; binOp op t a b : Sem Value)))) v h h' w := by
  unfold eqAV at hs
  split at hs
  · rename_i l k
    obtain ⟨r, hr, rfl, rfl⟩ := okB_some hs
    simp only [VRel] at ha hb
    obtain ⟨xs, rfl, hx⟩ := ha
    obtain ⟨ys, rfl, hy⟩ := hb
    obtain ⟨h1, h2, h3⟩ := eqAll_rel hr hx hy
    obtain ⟨fs, _, _, hg, _⟩ := plainK_some ht
    obtain ⟨q, hq, hqq⟩ := run_equalIn_plain ht h1 h2 9998 w
    have hrq : q = r := by rw [Bool.eq_iff_iff, hqq, h3]
    subst hrq
    have he : (Op.equal t (.agg xs) (.agg ys)).run P w = .ok q w := hq
    refine .same (x := .bool (xor neg q)) hw ?_ (by simp only [litB, VRel])
    rw [Sem.run_bind, eqGuard_ne (fun _ _ _ _ => hg) (fun e => by cases e), Result.andThen_ok]
    subst ho
    cases neg
    · simp [binOp, he]
    · simp [binOp, he]
  · cases hs

theorem does_not {u v : V} {x : Value} (hs : notV u h = some (v, h')) (hw : WRel σ m h w) (ha : VRel σ m u x) : Does P σ m (do pure (.value (← Op.unary .not x))) v h h' w := by
  unfold notV at hs
  split at hs
  · have e := litV_rel ha; subst e
    cases hs
    exact .same (x := .bool _) hw rfl (by simp only [litB, VRel])
  · cases hs

theorem does_neg {u v : V} {x : Value} (hs : negV u h = some (v, h')) (hw : WRel σ m h w) (ha : VRel σ m u x) : Does P σ m (do pure (.value (← Op.unary .neg x))) v h h' w := by
  unfold negV at hs
  split at hs
  · have e := litV_rel ha; subst e
    cases hs
    exact .same (x := .int _ _) hw rfl (by simp only [litI, VRel, wrapK_eq]; rfl)
  · cases hs

theorem does_conv {k : IntKind} {s t : TypeId} {u v : V} {x : Value} (hs : convV k u h = some (v, h')) (hw : WRel σ m h w) (ha : VRel σ m u x) (h1 : ∃ k', kindP P s = some (.int k')) (h2 : kindP P t = some (.int k)) :
    Does P σ m (do pure (.value (← convert s t x))) v h h' w := by
  unfold convV at hs
  split at hs
  · rename_i k0 n
    have e := litV_rel ha; subst e
    cases hs
    obtain ⟨k', h1⟩ := h1
    obtain ⟨d, e1, e2⟩ := kindP_some h1; have := tk_int e2; subst this
    obtain ⟨d, f1, f2⟩ := kindP_some h2; have := tk_int f2; subst this
    exact .same (x := .int k (k.wrap n)) hw (by simp [convert, run_und e1, run_und f1, Conv.intToInt]) (by simp only [litI, VRel, wrapK_eq])
  · cases hs

theorem does_iface {t : TypeId} {u : V} {x : Value} {k : TK} (hw : WRel σ m h w) (ha : VRel σ m u x) (hk : kindP P t = some k) (hn : k ≠ .iface) :
    Does P σ m (do pure (.value (← Instr.makeInterface t x))) (.ifc t u) h h w := by
  obtain ⟨d, e1, e2⟩ := kindP_some hk
  refine .same (x := .iface t x) hw ?_ (by simp only [VRel]; exact ⟨x, rfl, ha⟩)
  simp only [Instr.makeInterface, Sem.run_bind, run_und e1, Result.andThen_ok]
  cases d <;> first | rfl | (subst e2; exact absurd rfl hn)

theorem does_assert {t xt : TypeId} {z : Value} {ok : Bool} {u v : V} {x : Value} {k : TK} (hs : assertV t (toV z) ok u h = some (v, h')) (hw : WRel σ m h w) (ha : VRel σ m u x) (hk : kindP P t = some k) (hn : k ≠ .iface)
    (hz : zeroP P t = some z) : Does P σ m (do pure (.value (← Instr.typeAssert x xt t ok))) v h h' w := by
  obtain ⟨d, e1, e2⟩ := kindP_some hk
  have hne : ∀ ms, d ≠ .interface ms := by rintro ms rfl; exact hn e2.symm
  unfold assertV at hs
  split at hs
  · rename_i t' u'
    simp only [VRel] at ha
    obtain ⟨y, rfl, hy⟩ := ha
    cases he : Nat.beq t' t with
    | true =>
      rw [he] at hs
      have hee := Nat.eq_of_beq_eq_true he; subst hee
      cases hs
      refine .same (x := if ok then .tuple #[y, .bool true] else y) hw ?_ ?_
      · simp only [Instr.typeAssert, Sem.run_bind, run_und e1, Result.andThen_ok]
        cases d <;> first | exact absurd rfl (hne _) | simp
      · cases ok
        · exact hy
        · simp only [cond_true, if_true, VRel]; exact ⟨_, rfl, LRel.cons hy (LRel.cons (by simp only [litB, VRel]) LRel.nil)⟩
    | false =>
      rw [he] at hs
      have hee : t' ≠ t := fun e => by subst e; simp at he
      cases ok with
      | false => cases hs
      | true =>
        cases hs
        refine .same (x := .tuple #[z, .bool false]) hw ?_ ?_
        · simp only [Instr.typeAssert, Sem.run_bind, run_und e1, Result.andThen_ok]
          cases d <;> first | exact absurd rfl (hne _) | simp [hee, zeroP_run hz]
        · simp only [VRel]; exact ⟨_, rfl, LRel.cons (toV_rel z) (LRel.cons (by simp only [litB, VRel]) LRel.nil)⟩
  · have e := litV_rel ha; subst e
    cases ok with
    | false => cases hs
    | true =>
      cases hs
      refine .same (x := .tuple #[z, .bool false]) hw ?_ ?_
      · simp only [Instr.typeAssert, Sem.run_bind, run_und e1, Result.andThen_ok]
        cases d <;> first | exact absurd rfl (hne _) | simp [zeroP_run hz]
      · simp only [VRel]; exact ⟨_, rfl, LRel.cons (toV_rel z) (LRel.cons (by simp only [litB, VRel]) LRel.nil)⟩
  · cases hs

theorem does_ext {u v : V} {x : Value} {i : Nat} (hs : extV u i h = some (v, h')) (hw : WRel σ m h w) (ha : VRel σ m u x) : Does P σ m (do pure (.value (← Instr.extract x i))) v h h' w := by
  unfold extV at hs
  split at hs
  · obtain ⟨h1, rfl⟩ := okV_some hs
    simp only [VRel] at ha
    obtain ⟨a, rfl, ha⟩ := ha
    rw [nthO_eq] at h1
    obtain ⟨y, hy, hyr⟩ := ha.get h1
    exact .same (x := y) hw (by simp [Instr.extract, show a[i]? = some y from by simpa using hy]) hyr
  · cases hs

theorem does_min {u u' v : V} {x y : Value} {ts : Array TypeId} {t : TypeId} (hs : minV u u' h = some (v, h')) (hw : WRel σ m h w) (ha : VRel σ m u x) (hb : VRel σ m u' y) :
    Does P σ m (do pure (.value (← Builtin.min_ ts t #[x, y]))) v h h' w := by
  unfold minV at hs
  split at hs
  · rename_i k a k' b
    have e := litV_rel ha; have e' := litV_rel hb; subst e; subst e'
    cases hs
    refine .same (x := .int k (if b < a then b else a)) hw (by simp [Builtin.min_, Builtin.min2]) ?_
    simp only [litI, VRel, ltI_eq]
    by_cases hc : b < a <;> simp [hc]
  · cases hs
theorem does_max {u u' v : V} {x y : Value} {ts : Array TypeId} {t : TypeId} (hs : maxV u u' h = some (v, h')) (hw : WRel σ m h w) (ha : VRel σ m u x) (hb : VRel σ m u' y) :
    Does P σ m (do pure (.value (← Builtin.max_ ts t #[x, y]))) v h h' w := by
  unfold maxV at hs
  split at hs
  · rename_i k a k' b
    have e := litV_rel ha; have e' := litV_rel hb; subst e; subst e'
    cases hs
    refine .same (x := .int k (if b > a then b else a)) hw (by simp [Builtin.max_, Builtin.max2]) ?_
    simp only [litI, VRel, ltI_eq]
    by_cases hc : a < b <;> simp [hc]
  · cases hs

end
end A
end Go.Proofs.YtcohlhplpogopaaGreat

namespace Go.Proofs.YtcohlhplpogopaaGreat
namespace A

section
variable {P : Program} {σ : Sg} {m w : World} {h h' : H}

theorem blt_lt {a b : Nat} (hs : Nat.blt a b = true) : a < b := Nat.le_of_ble_eq_true hs

theorem ptr_live {b off : Nat} {x : Value} {o : Obj} (hw : WRel σ m h w) (hp : VRel σ m (.ptr b off) x) (hg : h.get b = some o) :
    ∃ blk k size l, h.get b = some (.cells l) ∧ σ b = some (.at blk k size) ∧ x = .pointer (some ⟨blk, k + off, none⟩) ∧ Lies σ m w blk k size l := by
  simp only [VRel, PRel] at hp
  cases o with
  | cells l =>
    rcases hw.cells b l hg with hn | ⟨blk, k, size, hs, hl⟩
    · rw [hn] at hp; exact hp.elim
    · rw [hs] at hp; exact ⟨blk, k, size, l, hg, hs, hp, hl⟩
  | mp es =>
    rcases hw.maps b es hg with hn | ⟨blk, hs, hl⟩
    · rw [hn] at hp; exact hp.elim
    · rw [hs] at hp; exact hp.elim

theorem slc_live {b off len es : Nat} {cap : Option Nat} {x : Value} {o : Obj} (hw : WRel σ m h w) (hp : VRel σ m (.slc b off len es cap) x) (hg : h.get b = some o) :
    ∃ blk k size l c, h.get b = some (.cells l) ∧ σ b = some (.at blk k size) ∧ x = .slice (some ⟨blk, k + off, none⟩) len c ∧ len ≤ c ∧ k + off + c * es ≤ size ∧ (∀ j, cap = some j → c = j) ∧ Lies σ m w blk k size l := by
  simp only [VRel, SRel] at hp
  cases o with
  | cells l =>
    rcases hw.cells b l hg with hn | ⟨blk, k, size, hs, hl⟩
    · rw [hn] at hp; exact hp.elim
    · rw [hs] at hp
      obtain ⟨c, h1, h2, h3, h4⟩ := hp
      exact ⟨blk, k, size, l, c, hg, hs, h1, h2, h3, h4, hl⟩
  | mp es' =>
    rcases hw.maps b es' hg with hn | ⟨blk, hs, hl⟩
    · rw [hn] at hp; exact hp.elim
    · rw [hs] at hp; exact hp.elim

theorem map_live {b : Nat} {x : Value} {es : List (V × V)} (hw : WRel σ m h w) (hp : VRel σ m (.map b) x) (hg : h.get b = some (.mp es)) :
    ∃ blk, σ b = some (.mp blk) ∧ x = .map (some blk) ∧ LiesM σ m w blk es := by
  simp only [VRel] at hp
  obtain ⟨blk, hs, hx⟩ := hp
  rcases hw.maps b es hg with hn | ⟨blk', hs', hl⟩
  · rw [hn] at hs; cases hs
  · rw [hs] at hs'; cases hs'; exact ⟨blk, hs, hx, hl⟩

theorem ifHas_some {o : Option Obj} {v u : V} (hs : ifHas o v h = some (u, h')) : (∃ x, o = some x) ∧ u = v ∧ h' = h := by
  unfold ifHas at hs; split at hs <;> cases hs; exact ⟨⟨_, rfl⟩, rfl, rfl⟩

theorem cellsOf_some {o : Option Obj} {l : List V} (hs : cellsOf o = some l) : o = some (.cells l) := by
  unfold cellsOf at hs; split at hs <;> cases hs; rfl
theorem mapOf_some {o : Option Obj} {l : List (V × V)} (hs : mapOf o = some l) : o = some (.mp l) := by
  unfold mapOf at hs; split at hs <;> cases hs; rfl

theorem live_some {o : Option Obj} {b : Bool} (hs : live o = some b) : (∃ x, o = some x) ∧ b = false := by
  unfold live at hs; split at hs <;> cases hs; exact ⟨⟨_, rfl⟩, rfl⟩

/-- whether a value is nil, as the model's equality with a nil literal of its type says. -/
def nilA : Value → Bool
  | .pointer p => p.isNone
  | .slice a _ _ => a.isNone
  | .map r => r.isNone
  | .nilIface => true
  | .nilFunc => true
  | _ => false
def nilFit (d : TypeDesc) (a c : Value) : Prop :=
  (∃ e p, d = .pointer e ∧ a = .pointer p ∧ c = .pointer none) ∨ (∃ e p l k, d = .slice e ∧ a = .slice p l k ∧ c = .slice none 0 0) ∨ (∃ k e r, d = .map k e ∧ a = .map r ∧ c = .map none) ∨
    (∃ ms, d = .interface ms ∧ (a = .nilIface ∨ ∃ t x, a = .iface t x) ∧ c = .nilIface) ∨ (∃ p q r, d = .func p q r ∧ (a = .nilFunc ∨ ∃ f x y, a = .func f x y) ∧ c = .nilFunc)

theorem run_equal_nil {t : TypeId} {d : TypeDesc} {a c : Value} (hu : P.underlying t = some d) (hf : nilFit d a c) : (Op.equal t a c).run P w = .ok (nilA a) w := by
  show (Op.equalIn (9999 + 1) t a c).run P w = _
  rcases hf with ⟨e, p, rfl, rfl, rfl⟩ | ⟨e, p, l, k, rfl, rfl, rfl⟩ | ⟨k, e, r, rfl, rfl, rfl⟩ | ⟨ms, rfl, ha, rfl⟩ | ⟨p, q, r, rfl, ha, rfl⟩
  · unfold Op.equalIn
    simp only [Sem.run_bind, run_und hu, Result.andThen_ok]
    cases p <;> rfl
  · unfold Op.equalIn
    simp only [Sem.run_bind, run_und hu, Result.andThen_ok]
    cases p <;> rfl
  · unfold Op.equalIn
    simp only [Sem.run_bind, run_und hu, Result.andThen_ok]
    cases r <;> rfl
  · unfold Op.equalIn
    simp only [Sem.run_bind, run_und hu, Result.andThen_ok]
    rcases ha with rfl | ⟨t', x, rfl⟩ <;> rfl
  · unfold Op.equalIn
    simp only [Sem.run_bind, run_und hu, Result.andThen_ok]
    rcases ha with rfl | ⟨f, x, y, rfl⟩ <;> rfl

theorem ptr_shape {b off : Nat} {x : Value} (hp : VRel σ m (.ptr b off) x) : ∃ a, x = .pointer (some a) := by
  simp only [VRel, PRel] at hp
  split at hp
  · exact ⟨_, hp⟩
  · exact hp
  · exact hp.elim
theorem slc_shape {b off len es : Nat} {cap : Option Nat} {x : Value} (hp : VRel σ m (.slc b off len es cap) x) : ∃ a c, x = .slice (some a) len c := by
  simp only [VRel, SRel] at hp
  split at hp
  · obtain ⟨c, e, _⟩ := hp; exact ⟨_, _, e⟩
  · exact hp
  · exact hp.elim

/-- what a value that is asked for nil is. -/
theorem isNil_rel {u : V} {b : Bool} {a : Value} (hs : isNil h u = some b) (hw : WRel σ m h w) (ha : VRel σ m u a) :
    nilA a = b ∧ ((∃ p, a = .pointer p) ∨ (∃ p l k, a = .slice p l k) ∨ (∃ r, a = .map r) ∨ (a = .nilIface ∨ ∃ t x, a = .iface t x) ∨ (a = .nilFunc ∨ ∃ f x y, a = .func f x y)) := by
  unfold isNil at hs
  split at hs
  · have e := litV_rel ha; subst e; cases hs; exact ⟨rfl, .inl ⟨_, rfl⟩⟩
  · have e := litV_rel ha; subst e; cases hs; exact ⟨rfl, .inr (.inl ⟨_, _, _, rfl⟩)⟩
  · have e := litV_rel ha; subst e; cases hs; exact ⟨rfl, .inr (.inr (.inr (.inl (.inl rfl))))⟩
  · have e := litV_rel ha; subst e; cases hs; exact ⟨rfl, .inr (.inr (.inr (.inr (.inl rfl))))⟩
  · have e := litV_rel ha; subst e; cases hs; exact ⟨rfl, .inr (.inr (.inl ⟨_, rfl⟩))⟩
  · cases hs
    obtain ⟨_, rfl⟩ := ptr_shape ha
    exact ⟨rfl, .inl ⟨_, rfl⟩⟩
  · cases hs
    obtain ⟨_, _, rfl⟩ := slc_shape ha
    exact ⟨rfl, .inr (.inl ⟨_, _, _, rfl⟩)⟩
  · cases hs; simp only [VRel] at ha; obtain ⟨_, _, _, _, rfl, _⟩ := ha; exact ⟨rfl, .inr (.inl ⟨_, _, _, rfl⟩)⟩
  · cases hs; simp only [VRel] at ha; obtain ⟨_, _, rfl, _⟩ := ha; exact ⟨rfl, .inl ⟨_, rfl⟩⟩
  · cases hs; simp only [VRel] at ha; obtain ⟨_, _, rfl⟩ := ha; exact ⟨rfl, .inr (.inr (.inl ⟨_, rfl⟩))⟩
  · cases hs; simp only [VRel] at ha; obtain ⟨_, _, rfl, _⟩ := ha; exact ⟨rfl, .inr (.inr (.inr (.inr (.inr ⟨_, _, _, rfl⟩))))⟩
  · cases hs; simp only [VRel] at ha; obtain ⟨_, rfl, _⟩ := ha; exact ⟨rfl, .inr (.inr (.inr (.inl (.inr ⟨_, _, rfl⟩))))⟩
  · cases hs

theorem does_load {t : TypeId} {n : Option Nat} {p v : V} {x : Value} (hs : loadV n p h = some (v, h')) (hw : WRel σ m h w) (ha : VRel σ m p x) (hn : aggN P t = some n) :
    Does P σ m (do pure (.value (← Instr.loadAt t x))) v h h' w := by
  obtain ⟨h1, h2⟩ := aggN_run hn w
  cases n with
  | none =>
    obtain ⟨h3, rfl⟩ := okV_some (show okV h (h.at1 p) = some (v, h') from hs)
    obtain ⟨blk, off, xs, rfl, hl, hr, hc⟩ := at_rel hw ha (at1_at h3)
    obtain ⟨y, r, rfl, hy, hr'⟩ : ∃ y r, xs = y :: r ∧ VRel σ m v y ∧ LRel σ m [] r := by simpa only [LRel] using hr
    have hcell := hc 0 y (by simp)
    refine .same (x := y) hw ?_ hy
    simp only [Instr.loadAt, Instr.sureAddr, pure_bind, loadVar, Sem.run_bind, h1, Result.andThen_ok]
    simp at hcell
    simp [hcell]
  | some k =>
    obtain ⟨l, h3, rfl, rfl⟩ := okAgg_some (show okAgg h (h.at p k) = some (v, h') from hs)
    obtain ⟨blk, off, xs, rfl, hl, hr, hc⟩ := at_rel hw ha h3
    refine .same (x := .agg xs.toArray) hw ?_ (by simp only [VRel]; exact ⟨_, rfl, hr⟩)
    have hlc := run_loadCells_list (P := P) w ⟨blk, off, none⟩ xs (fun j v hj => by rw [add_none]; exact hc j v hj)
    rw [hl] at hlc
    simp only [Instr.loadAt, Instr.sureAddr, pure_bind, loadVar, Sem.run_bind, h1, Result.andThen_ok, h2 k rfl, Option.isSome_some, if_true, hlc]
    rfl

theorem okH_some {o : Option H} {v : V} (hs : okH o = some (v, h')) : o = some h' ∧ v = undefV := by
  unfold okH at hs; split at hs <;> cases hs; exact ⟨rfl, rfl⟩

theorem wr_overlay : ∀ (l xs : List V), xs.length ≤ l.length → overlay l xs = xs ++ l.drop xs.length
  | [], [], _ => rfl
  | [], _ :: _, hl => by simp at hl
  | a :: l, [], _ => rfl
  | a :: l, x :: xs, hl => by
    show x :: overlay l xs = _
    rw [wr_overlay l xs (by simpa using hl)]; rfl
theorem wr_eq : ∀ (l : List V) (off : Nat) (xs : List V), off + xs.length ≤ l.length → wr l off xs = l.take off ++ xs ++ l.drop (off + xs.length)
  | [], off, xs, hl => by
    have hl' : off + xs.length ≤ 0 := hl
    have h1 : off = 0 := by omega
    have h2 : xs = [] := List.eq_nil_of_length_eq_zero (by omega)
    subst h1; subst h2; rfl
  | a :: l, 0, xs, hl => by
    show overlay (a :: l) xs = _
    rw [wr_overlay _ _ (by simpa using hl)]; simp
  | a :: l, off + 1, xs, hl => by
    show a :: wr l off xs = _
    rw [wr_eq l off xs (by simp at hl; omega), show off + 1 + xs.length = (off + xs.length) + 1 from by omega]; rfl
theorem wr_length (l : List V) (off : Nat) (xs : List V) (hl : off + xs.length ≤ l.length) : (wr l off xs).length = l.length := by
  rw [wr_eq l off xs hl]; simp; omega
theorem wr_atoms {l xs : List V} {off : Nat} (hl : off + xs.length ≤ l.length) (h1 : allAtoms l = true) (h2 : allAtoms xs = true) : allAtoms (wr l off xs) = true := by
  rw [wr_eq l off xs hl]
  exact allAtoms_append (allAtoms_append (allAtoms_sub h1 fun v hv => List.mem_of_mem_take hv) h2) (allAtoms_sub h1 fun v hv => List.mem_of_mem_drop hv)

/-- cells written into an object. -/
theorem allB_cons (v : V) (l : List V) : allB (v :: l) = (byteLike v && allB l) := by
  show cond (byteLike v) (allB l) false = _
  cases byteLike v <;> rfl
theorem allB_iff {l : List V} : allB l = true ↔ ∀ v, v ∈ l → byteLike v = true := by
  induction l with
  | nil => simp [allB]
  | cons v l ih => rw [allB_cons, Bool.and_eq_true, ih]; simp
theorem keepB_allB {l xs : List V} (h : keepB l xs = true) (hl : allB l = true) : allB xs = true := by
  unfold keepB at h; rw [hl] at h; exact h
theorem allB_append {l k : List V} (h1 : allB l = true) (h2 : allB k = true) : allB (l ++ k) = true := by
  rw [allB_iff] at *
  intro v hv
  rcases List.mem_append.1 hv with hv | hv
  · exact h1 v hv
  · exact h2 v hv
theorem wr_allB {l xs : List V} {off : Nat} (hl : off + xs.length ≤ l.length) (h1 : allB l = true) (h2 : allB xs = true) : allB (wr l off xs) = true := by
  rw [wr_eq _ _ _ hl]
  refine allB_append (allB_append ?_ h2) ?_
  · rw [allB_iff] at *; exact fun v hv => h1 v (List.mem_of_mem_take hv)
  · rw [allB_iff] at *; exact fun v hv => h1 v (List.mem_of_mem_drop hv)

theorem put_rel {b blk k size off : Nat} {l xs : List V} {ys : List Value} (hw : WRel σ m h w) (hg : h.get b = some (.cells l)) (hσ : σ b = some (.at blk k size)) (hlies : Lies σ m w blk k size l)
    (hle : off + xs.length ≤ l.length) (ha : allAtoms xs = true) (hk : keepB l xs = true) (hr : LRel σ m xs ys) :
    ∃ w', (storeCells ⟨blk, k + off, none⟩ ys).run P w = .ok () w' ∧ WRel σ m (h.set b (some (.cells (wr l off xs)))) w' ∧ Good σ σ h (h.set b (some (.cells (wr l off xs)))) w w' := by
  obtain ⟨c, e, fr, hb, hsz, hkl, hfr, hlr, hat⟩ := hlies
  have hyl := hr.length
  have hrun := run_storeCells (P := P) ys 0 w c e fr hb (off := k + off) (by omega) (by rw [hsz]; exact hfr) (atoms_rel hr ha)
  simp only [Nat.add_zero] at hrun
  refine ⟨_, hrun, ?_⟩
  have hcl : c.toList.length = size := by simpa using hsz
  refine hw.poke hg hσ hb (by simp; omega) (by rw [wr_length _ _ _ hle]; omega) ?_ (wr_atoms hle hat.1 ha) (fun hh => wr_allB hle (hat.2 hh) (keepB_allB hk (hat.2 hh)))
  rw [wr_length _ _ _ hle, wr_eq _ _ _ hle]
  have e1 : ((c.toList.take (k + off) ++ ys ++ c.toList.drop (k + off + ys.length)).drop k).take l.length = ((c.toList.drop k).take l.length).take off ++ ys ++ ((c.toList.drop k).take l.length).drop (off + xs.length) := by
    apply List.ext_getElem?
    intro i
    simp only [List.getElem?_take, List.getElem?_drop, List.getElem?_append, List.length_append, List.length_take, List.length_drop, hcl]
    have m1 : min (k + off) size = k + off := by omega
    have m2 : min off (min l.length (size - k)) = off := by omega
    rw [m1, m2]
    by_cases i1 : i < l.length
    · by_cases i2 : i < off
      · simp only [i1, i2, show k + i < k + off + ys.length from by omega, show k + i < k + off from by omega, show i < off + ys.length from by omega, if_true]
      · by_cases i3 : i < off + ys.length
        · simp only [i1, i2, i3, show k + i < k + off + ys.length from by omega, show ¬ k + i < k + off from by omega, if_true, if_false]
          rw [show k + i - (k + off) = i - off from by omega]
        · simp only [i1, i3, show ¬ k + i < k + off + ys.length from by omega, if_true, if_false]
          rw [if_pos (by omega), show k + off + ys.length + (k + i - (k + off + ys.length)) = k + i from by omega, show k + (off + xs.length + (i - (off + ys.length))) = k + i from by omega]
    · rw [if_neg i1]
      by_cases i3 : i < off + ys.length
      · omega
      · rw [if_neg i3, if_neg (by omega)]
  rw [e1]
  exact LRel.append (LRel.append (LRel.take _ hlr) hr) (LRel.drop _ hlr)

theorem putL_some {b off : Nat} {xs : List V} {o : Option (List V)} (hs : putL h b off xs o = some h') :
    ∃ l, o = some l ∧ off + xs.length ≤ l.length ∧ allAtoms xs = true ∧ keepB l xs = true ∧ h' = h.set b (some (.cells (wr l off xs))) := by
  unfold putL at hs
  split at hs
  · rename_i l
    cases hc : (Nat.ble (Nat.add off (lenL xs)) (lenL l) && (allAtoms xs && keepB l xs)) with
    | false => rw [hc] at hs; cases hs
    | true =>
      rw [hc] at hs
      rw [Bool.and_eq_true, Bool.and_eq_true] at hc
      cases hs
      have := Nat.le_of_ble_eq_true hc.1
      rw [lenL_eq, lenL_eq] at this
      exact ⟨l, rfl, this, hc.2.1, hc.2.2, rfl⟩
  · cases hs

theorem put_run {p : V} {x : Value} {xs : List V} {ys : List Value} (hs : h.put p xs = some h') (hw : WRel σ m h w) (hp : VRel σ m p x) (hr : allAtoms xs = true → LRel σ m xs ys) :
    ∃ a w', x = .pointer (some a) ∧ (storeCells a ys).run P w = .ok () w' ∧ WRel σ m h' w' ∧ Good σ σ h h' w w' := by
  cases p with
  | ptr b off =>
    obtain ⟨l, h1, h2, h3, h4, rfl⟩ := putL_some (show putL h b off xs (h.cells b) = some h' from hs)
    have hg := cellsOf_some (show cellsOf (h.get b) = some l from h1)
    obtain ⟨blk, k, size, l', hg', hσ, rfl, hl⟩ := ptr_live hw hp hg
    rw [hg] at hg'; cases hg'
    obtain ⟨w', e1, e2, e3⟩ := put_rel (P := P) hw hg hσ hl h2 h3 h4 (hr h3)
    exact ⟨_, w', rfl, e1, e2, e3⟩
  | _ => cases hs

theorem does_store {t : TypeId} {n : Nat} {p u v : V} {x y : Value} (hs : storeL n p u.cells h = some (v, h')) (hw : WRel σ m h w) (hp : VRel σ m p x) (hu : VRel σ m u y) (hn : sizeP P t = some n) :
    Does P σ m (do Instr.storeAt t x y; pure .skip) v h h' w := by
  unfold storeL at hs
  cases hc : Nat.beq (lenL u.cells) n with
  | false => rw [hc] at hs; cases hs
  | true =>
    rw [hc] at hs
    obtain ⟨h1, rfl⟩ := okH_some hs
    have hlen := Nat.eq_of_beq_eq_true hc
    rw [lenL_eq] at hlen
    have hat : allAtoms u.cells = true := by
      cases p with
      | ptr b off => obtain ⟨l, _, _, h3, _⟩ := putL_some (show putL h b off u.cells (h.cells b) = some h' from h1); exact h3
      | _ => cases h1
    have hcr := cells_atoms hu hat
    obtain ⟨a, w', rfl, hrun, hw', hg⟩ := put_run (P := P) h1 hw hp (fun _ => hcr)
    refine ⟨undef, w', σ, .inr ⟨?_, rfl⟩, undef_rel, hw', hg⟩
    have hsz : y.cells.size = n := by rw [← hlen, ← hcr.length]; simp
    simp [Instr.storeAt, Instr.sureAddr, storeVar, sizeP_run hn, hsz, hrun]

theorem does_chk {u v : V} {x : Value} (hs : chkV u h = some (v, h')) (hw : WRel σ m h w) (ha : VRel σ m u x) {o : Oper} {y : Operand} {ρ : Operand → Value} (ho : o.op = .nilCheck y) (hy : ρ y = x) :
    Does P σ m (execOp ρ o) v h h' w := by
  unfold chkV at hs
  split at hs
  · rename_i b off
    obtain ⟨⟨ob, hob⟩, rfl, rfl⟩ := ifHas_some hs
    obtain ⟨blk, k, size, l, hg, hσ, rfl, hl⟩ := ptr_live hw ha hob
    exact ⟨_, w, σ, .inl (by simp only [execOp, ho, hy]; rfl), ha, hw, Good.refl _ _ _⟩
  · cases hs
    have ha' := ha
    simp only [VRel] at ha
    obtain ⟨blk, k, rfl, _⟩ := ha
    exact ⟨_, w, σ, .inl (by simp only [execOp, ho, hy]; rfl), ha', hw, Good.refl _ _ _⟩
  · cases hs
    have ha' := ha
    simp only [VRel] at ha
    obtain ⟨p, q, rfl, _, _⟩ := ha
    exact ⟨_, w, σ, .inl (by simp only [execOp, ho, hy]; rfl), ha', hw, Good.refl _ _ _⟩
  · cases hs

theorem compFld_some {fs : List Field} {i off n : Nat} (hc : compFld P fs i = some (off, n)) : ∃ f, fs[i]? = some f ∧ f.offset = off ∧ sizeP P f.type = some n := by
  unfold compFld at hc
  split at hc
  · rename_i f hf
    split at hc
    · rename_i k hk; cases hc; exact ⟨f, hf, rfl, hk⟩
    · cases hc
  · cases hc

theorem does_fieldA {s : TypeId} {fs : List Field} {i off n : Nat} {u v : V} {x : Value} (hs : fieldAV off u h = some (v, h')) (hw : WRel σ m h w) (ha : VRel σ m u x) (hk : kindP P s = some (.struct fs))
    (hf : compFld P fs i = some (off, n)) (hn : n ≠ 0) : Does P σ m (do pure (.value (← Instr.fieldAt s x i))) v h h' w := by
  obtain ⟨f, hf1, hf2, hf3⟩ := compFld_some hf
  have hu := und_struct hk
  have key : ∀ a : Addr, a.spot = none → (Instr.fieldAt s (.pointer (some a)) i).run P w = .ok (.pointer (some (a.add off))) w := by
    intro a hsp
    simp only [Instr.fieldAt, Sem.run_bind, run_und hu, Result.andThen_ok]
    have : (fs.toArray)[i]? = some f := by simpa using hf1
    simp [this, Instr.sureAddr, fieldPlace, sizeP_run hf3, hn, hf2]
  unfold fieldAV at hs
  split at hs
  · rename_i b o
    obtain ⟨⟨ob, hob⟩, rfl, rfl⟩ := ifHas_some hs
    obtain ⟨blk, k, size, l, hg, hσ, rfl, hl⟩ := ptr_live hw ha hob
    refine .same hw (key _ rfl) ?_
    rw [add_none]
    simp only [VRel, PRel, hσ, Nat.add_eq]
    rw [Nat.add_assoc]
  · cases hs
    simp only [VRel] at ha
    obtain ⟨blk, k, rfl, hc⟩ := ha
    refine .same hw (key _ rfl) ?_
    rw [add_none, dropL_eq]
    simp only [VRel]
    exact ⟨blk, k + off, rfl, hc.drop off⟩
  · cases hs

theorem does_part {t : TypeId} {off : Nat} {n : Option Nat} {l : List V} {v : V} {cs : Array Value} (hs : partV off n l h = some (v, h')) (hr : LRel σ m l cs.toList) (hn : aggN P t = some n) :
    h' = h ∧ ∃ x, (part t cs off).run P w = .ok x w ∧ VRel σ m v x := by
  obtain ⟨h1, h2⟩ := aggN_run hn w
  cases n with
  | none =>
    obtain ⟨h3, rfl⟩ := okV_some (show okV h (nthO l off) = some (v, h') from hs)
    rw [nthO_eq] at h3
    obtain ⟨y, hy, hyr⟩ := hr.get h3
    exact ⟨rfl, y, by simp [part, h1, show cs[off]? = some y from by simpa using hy], hyr⟩
  | some k =>
    obtain ⟨r, h3, rfl, rfl⟩ := okAgg_some (show okAgg h (cut l off k) = some (v, h') from hs)
    obtain ⟨h4, h5⟩ := cut_some h3
    refine ⟨rfl, .agg (cs.extract off (off + k)), by simp [part, h1, h2 k rfl], ?_⟩
    simp only [VRel]
    refine ⟨_, rfl, ?_⟩
    rw [h4]
    have : (cs.extract off (off + k)).toList = (cs.toList.drop off).take k := by
      rw [Array.toList_extract]
      simp [List.extract]
    rw [this]
    exact LRel.take _ (LRel.drop _ hr)

theorem does_field {s : TypeId} {fs : List Field} {i : Nat} {f : Field} {n : Option Nat} {u v : V} {x : Value} (hs : fieldV f.offset n u h = some (v, h')) (hw : WRel σ m h w) (ha : VRel σ m u x) (hk : kindP P s = some (.struct fs))
    (hf : fs[i]? = some f) (hn : aggN P f.type = some n) : Does P σ m (do pure (.value (← Instr.field s x i))) v h h' w := by
  have hu := und_struct hk
  unfold fieldV at hs
  split at hs
  · simp only [VRel] at ha
    obtain ⟨cs, rfl, hr⟩ := ha
    obtain ⟨rfl, y, hy, hyr⟩ := does_part (P := P) (w := w) hs hr hn
    refine .same (x := y) hw ?_ hyr
    simp only [Instr.field, Sem.run_bind, run_und hu, Result.andThen_ok]
    have : (fs.toArray)[i]? = some f := by simpa using hf
    simp [this, asAgg, hy]
  · cases hs

theorem natOf_some {u : V} {n : Nat} {x : Value} (hs : natOf u = some n) (ha : VRel σ m u x) : ∃ k, x = .int k (n : Int) := by
  unfold natOf at hs
  split at hs
  · cases hs; exact ⟨_, litV_rel ha⟩
  · cases hs

theorem does_idxA {t e : TypeId} {n : Nat} {u i v : V} {x y : Value} (hs : idxAV n u (natOf i) h = some (v, h')) (hw : WRel σ m h w) (ha : VRel σ m u x) (hi : VRel σ m i y) (hk : kindP P t = some (.slice e))
    (hn : sizeP P e = some n) : Does P σ m (do pure (.value (← Instr.indexAt t x y))) v h h' w := by
  obtain ⟨d, e1, e2⟩ := kindP_some hk; have := tk_slice e2; subst this
  unfold idxAV at hs
  split at hs
  · rename_i j hj
    obtain ⟨k, rfl⟩ := natOf_some hj hi
    have key : ∀ (a : Addr) (len c : Nat), j < len → (Instr.indexAt t (.slice (some a) len c) (.int k j)).run P w = .ok (.pointer (some (a.add (j * n)))) w := by
      intro a len c hlt
      have h1 : (0 : Int) ≤ (j : Int) ∧ (j : Int) < (len : Int) := ⟨by omega, by omega⟩
      simp [Instr.indexAt, asIntOf, run_und e1, h1.2, sizeP_run hn, Nat.not_le.2 hlt]
    unfold idxAN at hs
    split at hs
    · rename_i b off len es' cap
      cases hc : (Nat.blt j len && Nat.beq n es') with
      | false => rw [hc] at hs; cases hs
      | true =>
        rw [hc] at hs
        rw [Bool.and_eq_true] at hc
        have hlt : j < len := blt_lt hc.1
        obtain ⟨⟨ob, hob⟩, rfl, rfl⟩ := ifHas_some hs
        obtain ⟨blk, q, size, l, c, hg, hσ, rfl, h1, h2, h3, hl⟩ := slc_live hw ha hob
        refine .same hw (key _ _ _ hlt) ?_
        rw [add_none]
        simp only [VRel, PRel, hσ, Nat.add_eq, Nat.mul_eq]
        rw [Nat.add_assoc]
    · rename_i l len
      cases hc : Nat.blt j len with
      | false => rw [hc] at hs; cases hs
      | true =>
        rw [hc] at hs
        have hlt : j < len := blt_lt hc
        cases hs
        simp only [VRel] at ha
        obtain ⟨blk, q, sp, c, rfl, _, hcr, hsp⟩ := ha
        obtain rfl : sp = none := hsp.resolve_right (by omega)
        refine .same hw (key _ _ _ hlt) ?_
        rw [add_none, dropL_eq]
        simp only [VRel, Nat.mul_eq]
        exact ⟨blk, q + j * n, rfl, hcr.drop _⟩
    · cases hs
  · cases hs

theorem does_idxS {t : TypeId} {u i v : V} {x y : Value} (hs : idxSV u (natOf i) h = some (v, h')) (hw : WRel σ m h w) (ha : VRel σ m u x) (hi : VRel σ m i y) (hk : kindP P t = some .string) :
    Does P σ m (do pure (.value (← Instr.index t x y))) v h h' w := by
  obtain ⟨d, e1, e2⟩ := kindP_some hk; have := tk_string e2; subst this
  unfold idxSV at hs
  split at hs
  · rename_i s j hj
    obtain ⟨k, rfl⟩ := natOf_some hj hi
    have e := litV_rel ha; subst e
    unfold byteO at hs
    split at hs
    · rename_i b hb
      cases hs
      have hsb : s[j]? = some b := by
        rcases s with ⟨⟨l⟩⟩
        have hlt := (List.getElem?_eq_some_iff.1 hb).1
        have : j < (⟨⟨l⟩⟩ : ByteArray).size := hlt
        rw [getElem?_pos (⟨⟨l⟩⟩ : ByteArray) j this]
        have h2 := (List.getElem?_eq_some_iff.1 hb).2
        simp only at h2
        rw [← h2]; rfl
      refine .same (x := .int .u8 b.toNat) hw ?_ (by simp only [byteV, VRel]; rfl)
      simp [Instr.index, asIntOf, run_und e1, hsb]
    · cases hs
  · cases hs

theorem does_idxV {t e : TypeId} {len n : Nat} {a : Option Nat} {u i v : V} {x y : Value} (hs : idxVV len n a u (natOf i) h = some (v, h')) (hw : WRel σ m h w) (ha : VRel σ m u x) (hi : VRel σ m i y)
    (hk : kindP P t = some (.array len e)) (hn : sizeP P e = some n) (hag : aggN P e = some a) : Does P σ m (do pure (.value (← Instr.index t x y))) v h h' w := by
  obtain ⟨d, e1, e2⟩ := kindP_some hk; have := tk_array e2; subst this
  unfold idxVV at hs
  split at hs
  · rename_i l j hj
    obtain ⟨k, rfl⟩ := natOf_some hj hi
    simp only [VRel] at ha
    obtain ⟨cs, rfl, hr⟩ := ha
    cases hc : Nat.blt j len with
    | false => rw [hc] at hs; cases hs
    | true =>
      rw [hc] at hs
      have hlt : j < len := blt_lt hc
      obtain ⟨rfl, z, hz, hzr⟩ := does_part (P := P) (w := w) hs hr hag
      refine .same (x := z) hw ?_ hzr
      have h1 : (j : Int) < (len : Int) := by omega
      simp only [Nat.mul_eq] at hz
      simp [Instr.index, asIntOf, run_und e1, h1, sizeP_run hn, hz, Nat.not_le.2 hlt]
  · cases hs

end
end A
end Go.Proofs.YtcohlhplpogopaaGreat

