/-
  values, heaps, the abstract machine and how it stands for the model. (No statement of the seat is proved here.)
-/
import Derived.Recover
import Derived.Orders
import Derived.Laws.Cells
set_option linter.unusedSimpArgs false
set_option linter.unusedVariables false
namespace Go.Proofs.YtcohlhplpogopaaGreat
namespace A
noncomputable section

/-- abstract values: 'lit' holds a value without an address in the abstract heap. -/
inductive V where
  | lit (v : Value)
  | ptr (b off : Nat)
  | slc (b off len es : Nat) (cap : Option Nat)
  | rs (cells : List V) (len : Nat)
  | rp (cells : List V)
  | map (b : Nat)
  | fn (f : Fn) (first captured : List V)
  | ifc (t : TypeId) (v : V)
  | agg (l : List V)
  | tup (l : List V)
  | any
  deriving Inhabited

inductive Obj where
  | cells (l : List V)
  | mp (es : List (V × V))
  deriving Inhabited

/-- a heap: a binary tree by numbers. -/
inductive T (α : Type) where
  | leaf
  | node (o : Option α) (l r : T α)
  deriving Inhabited

section
variable {α : Type}
noncomputable def T.get : T α → Nat → Option α :=
  @T.rec α (fun _ => Nat → Option α) (fun _ => none) (fun o _ _ gl gr i => Nat.casesOn i o fun j => cond (Nat.beq (Nat.mod j 2) 0) (gl (Nat.div j 2)) (gr (Nat.div j 2)))

def T.setLeaf (ih : T α → Nat → Option α → T α) (x : Option α) (i : Nat) : T α :=
  Nat.casesOn i (.node x .leaf .leaf) fun j => cond (Nat.beq (Nat.mod j 2) 0) (.node none (ih .leaf (Nat.div j 2) x) .leaf) (.node none .leaf (ih .leaf (Nat.div j 2) x))
def T.setNode (ih : T α → Nat → Option α → T α) (o : Option α) (l r : T α) (x : Option α) (i : Nat) : T α :=
  Nat.casesOn i (.node x l r) fun j => cond (Nat.beq (Nat.mod j 2) 0) (.node o (ih l (Nat.div j 2) x) r) (.node o l (ih r (Nat.div j 2) x))
def T.setS (ih : T α → Nat → Option α → T α) (t : T α) (i : Nat) (x : Option α) : T α :=
  T.casesOn t (T.setLeaf ih x i) fun o l r => T.setNode ih o l r x i
noncomputable def T.setF : Nat → T α → Nat → Option α → T α := @Nat.rec (fun _ => T α → Nat → Option α → T α) (fun t _ _ => t) fun _ ih => T.setS ih

noncomputable def T.set (t : T α) (i : Nat) (x : Option α) : T α := T.setF (Nat.succ i) t i x

theorem T.get_leaf0 (i : Nat) : T.get (.leaf : T α) i = none := rfl
theorem T.get_zero (o : Option α) (l r : T α) : T.get (.node o l r) 0 = o := rfl
theorem T.get_succ (o : Option α) (l r : T α) (j : Nat) : T.get (.node o l r) (j + 1) = if j % 2 = 0 then l.get (j / 2) else r.get (j / 2) := by
  show cond (Nat.beq (j % 2) 0) (l.get (j / 2)) (r.get (j / 2)) = _
  by_cases h : j % 2 = 0
  · rw [if_pos h, h]; rfl
  · rw [if_neg h, show Nat.beq (j % 2) 0 = false from by rw [show j % 2 = 1 from by omega]; rfl]; rfl
theorem T.setF_zero (t : T α) (i : Nat) (x : Option α) : T.setF 0 t i x = t := rfl
theorem T.setF_leaf0 (f : Nat) (x : Option α) : T.setF (f + 1) .leaf 0 x = .node x .leaf .leaf := rfl
theorem T.setF_node0 (f : Nat) (o : Option α) (l r : T α) (x : Option α) : T.setF (f + 1) (.node o l r) 0 x = .node x l r := rfl
theorem T.setF_leaf (f j : Nat) (x : Option α) : T.setF (f + 1) .leaf (j + 1) x =
    if j % 2 = 0 then .node none (T.setF f .leaf (j / 2) x) .leaf else .node none .leaf (T.setF f .leaf (j / 2) x) := by
  show cond (Nat.beq (j % 2) 0) _ _ = _
  by_cases h : j % 2 = 0
  · rw [if_pos h, h]; rfl
  · rw [if_neg h, show Nat.beq (j % 2) 0 = false from by rw [show j % 2 = 1 from by omega]; rfl]; rfl
theorem T.setF_node (f j : Nat) (o : Option α) (l r : T α) (x : Option α) : T.setF (f + 1) (.node o l r) (j + 1) x =
    if j % 2 = 0 then .node o (T.setF f l (j / 2) x) r else .node o l (T.setF f r (j / 2) x) := by
  show cond (Nat.beq (j % 2) 0) _ _ = _
  by_cases h : j % 2 = 0
  · rw [if_pos h, h]; rfl
  · rw [if_neg h, show Nat.beq (j % 2) 0 = false from by rw [show j % 2 = 1 from by omega]; rfl]; rfl

theorem T.get_setF : ∀ (f : Nat) (t : T α) (i j : Nat) (x : Option α), i < f → (T.setF f t i x).get j = if j = i then x else t.get j := by
  intro f
  induction f with
  | zero => intro t i j x h; omega
  | succ f ih =>
    intro t i j x h
    cases t with
    | leaf =>
      cases i with
      | zero => cases j <;> simp [T.setF_leaf0, T.get_zero, T.get_succ, T.get_leaf0]
      | succ i =>
        rw [T.setF_leaf]
        by_cases h2 : i % 2 = 0
        · rw [if_pos h2]
          cases j with
          | zero => simp [T.get_zero, T.get_leaf0]
          | succ j =>
            rw [T.get_succ]
            by_cases hj : j % 2 = 0
            · rw [if_pos hj, ih .leaf (i / 2) (j / 2) x (by omega), T.get_leaf0, T.get_leaf0]
              by_cases e : j / 2 = i / 2
              · rw [if_pos e, if_pos (by omega)]
              · rw [if_neg e, if_neg (by omega)]
            · rw [if_neg hj, if_neg (by omega), T.get_leaf0, T.get_leaf0]
        · rw [if_neg h2]
          cases j with
          | zero => simp [T.get_zero, T.get_leaf0]
          | succ j =>
            rw [T.get_succ]
            by_cases hj : j % 2 = 0
            · rw [if_pos hj, if_neg (by omega), T.get_leaf0, T.get_leaf0]
            · rw [if_neg hj, ih .leaf (i / 2) (j / 2) x (by omega), T.get_leaf0, T.get_leaf0]
              by_cases e : j / 2 = i / 2
              · rw [if_pos e, if_pos (by omega)]
              · rw [if_neg e, if_neg (by omega)]
    | node o l r =>
      cases i with
      | zero => cases j <;> simp [T.setF_node0, T.get_zero, T.get_succ]
      | succ i =>
        rw [T.setF_node]
        by_cases h2 : i % 2 = 0
        · rw [if_pos h2]
          cases j with
          | zero => simp [T.get_zero]
          | succ j =>
            rw [T.get_succ, T.get_succ]
            by_cases hj : j % 2 = 0
            · rw [if_pos hj, if_pos hj, ih l (i / 2) (j / 2) x (by omega)]
              by_cases e : j / 2 = i / 2
              · rw [if_pos e, if_pos (by omega)]
              · rw [if_neg e, if_neg (by omega)]
            · rw [if_neg hj, if_neg hj, if_neg (by omega)]
        · rw [if_neg h2]
          cases j with
          | zero => simp [T.get_zero]
          | succ j =>
            rw [T.get_succ, T.get_succ]
            by_cases hj : j % 2 = 0
            · rw [if_pos hj, if_pos hj, if_neg (by omega)]
            · rw [if_neg hj, if_neg hj, ih r (i / 2) (j / 2) x (by omega)]
              by_cases e : j / 2 = i / 2
              · rw [if_pos e, if_pos (by omega)]
              · rw [if_neg e, if_neg (by omega)]

theorem T.get_set (t : T α) (i j : Nat) (x : Option α) : (t.set i x).get j = if j = i then x else t.get j :=
  T.get_setF (i + 1) t i j x (by omega)
end

structure H where
  next : Nat
  t : T Obj
  deriving Inhabited

noncomputable def H.get (h : H) (b : Nat) : Option Obj := h.t.get b
noncomputable def H.set (h : H) (b : Nat) (x : Option Obj) : H := { h with t := h.t.set b x }
/-- a new object: its number, and the heap. -/
noncomputable def H.new (h : H) (x : Obj) : H := { next := Nat.succ h.next, t := h.t.set h.next (some x) }


inductive X where
  | t (n : Nat)
  | c (v : V)
  deriving Inhabited

/-- kinds of scalars, and of keys. -/
inductive SK where
  | bool
  | int (k : IntKind)
  | string
inductive KK where
  | one (s : SK)
  | many (l : List SK)
/-- kinds of values that have a length or may be nil. -/
inductive NK where
  | ptr | slc | map | ifc | fn | str

/-- the operations. -/
inductive O where
  | mov (x : X)
  | pick (c a b : X)
  | ar (op : BinOp) (x y : X)
  | eqB (neg : Bool) (x y : X)
  | eqA (neg : Bool) (ks : List SK) (x y : X)
  | eqNil (neg : Bool) (k : NK) (x : X)
  | not (x : X)
  | neg (x : X)
  | conv (k : IntKind) (x : X)
  | bstr (x : X)
  | strb (x : X)
  | alloc (zero : List V)
  | box (x : X)
  | build (zero : List V) (parts : List (Nat × Nat × X))
  | lits (es len : Nat) (zero : List V) (parts : List (Nat × Nat × X))
  | load (n : Option Nat) (x : X)
  | store (n : Nat) (a x : X)
  | chk (x : X)
  | fieldA (off : Nat) (x : X)
  | field (off : Nat) (n : Option Nat) (x : X)
  | idxA (es : Nat) (x i : X)
  | idxS (x i : X)
  | idxV (len es : Nat) (n : Option Nat) (x i : X)
  | len (k : NK) (x : X)
  | app (es bytes : Nat) (x y : X)
  | copy (es : Nat) (x y : X)
  | slice (es : Nat) (x : X) (lo hi : Option X)
  | sliceS (x : X) (lo hi : Option X)
  | makeS (es bytes : Nat) (zero : List V) (l c : X)
  | makeM
  | look (ks : KK) (zero : V) (ok : Bool) (m k : X)
  | upd (ks : KK) (m k v : X)
  | iface (t : TypeId) (x : X)
  | assert (t : TypeId) (zero : V) (ok : Bool) (x : X)
  | func (f : Fn) (first captured : List X)
  | ext (x : X) (i : Nat)
  | min (x y : X)
  | max (x y : X)
  | call (f : X) (args : List X)
  | inv (tab : List (TypeId × FuncId)) (x : X) (args : List X)
  | defer (f : X) (args : List X)
  | panic (x : X)
  deriving Inhabited

structure CO where
  d : Option Nat
  o : O
  g : Option (Nat × Bool) := none
  deriving Inhabited

/-- an operation's part in a region whose order is drawn: silent; reads what the loud ones among those numbered from lo to hi leave; makes memory; loud (last: all that come later are behind it; hide: the temporaries of the objects that need not be there yet). -/
inductive Part where
  | pure
  | read (lo hi : Nat)
  | made
  | loud (last : Bool) (hide : List Nat)
  deriving Inhabited, DecidableEq

inductive C where
  | skip
  | reg (l : List CO)
  | regD (l : List (Part × CO))
  | seq (a b : C)
  | cond (x : X) (a b : C)
  | block (id : Nat) (c : C)
  | loop (c : C)
  | exit (id : Nat)
  | ret
  deriving Inhabited

inductive R where
  | tmp (t : Nat)
  | cell (t : Nat) (n : Option Nat)
  deriving Inhabited

structure F where
  nt : Nat
  res : List R
  pre : Option (Nat × Nat) := none
  body : C
  deriving Inhabited

structure D where
  f : V
  args : List V
  deriving Inhabited

/-- the temporaries. -/
abbrev TM := T V

structure St where
  tm : TM
  df : List D
  h : H
  deriving Inhabited

inductive E where
  | nor
  | ex (id : Nat)
  | ret
  | pan (v : V)
  deriving Inhabited

inductive Ret where
  | ok (v : V)
  | pan (v : V)
  deriving Inhabited


end
end A
end Go.Proofs.YtcohlhplpogopaaGreat

namespace Go.Proofs.YtcohlhplpogopaaGreat
namespace A
noncomputable section

def undefV : V := .lit (.tuple #[])

/- lists, by their recursor -/
def lenL : List V → Nat := @List.rec V (fun _ => Nat) 0 fun _ _ ih => Nat.succ ih
def appL : List V → List V → List V := @List.rec V (fun _ => List V → List V) (fun m => m) fun a _ ih m => a :: ih m
def consO (a : V) (r : Option (List V)) : Option (List V) := @Option.casesOn (List V) (fun _ => Option (List V)) r none fun l => some (a :: l)
def takeO : List V → Nat → Option (List V) :=
  @List.rec V (fun _ => Nat → Option (List V)) (fun n => @Nat.casesOn (fun _ => Option (List V)) n (some []) fun _ => none)
    fun a _ ih n => @Nat.casesOn (fun _ => Option (List V)) n (some []) fun m => consO a (ih m)
def dropL : List V → Nat → List V := @List.rec V (fun _ => Nat → List V) (fun _ => []) fun a l ih n => @Nat.casesOn (fun _ => List V) n (a :: l) ih
def cut (l : List V) (off n : Nat) : Option (List V) := takeO (dropL l off) n
def nthO : List V → Nat → Option V := @List.rec V (fun _ => Nat → Option V) (fun _ => none) fun a _ ih n => @Nat.casesOn (fun _ => Option V) n (some a) ih
def overlay : List V → List V → List V :=
  @List.rec V (fun _ => List V → List V) (fun _ => []) fun a l ih xs => @List.casesOn V (fun _ => List V) xs (a :: l) fun x xs' => x :: ih xs'
def wr : List V → Nat → List V → List V :=
  @List.rec V (fun _ => Nat → List V → List V) (fun _ _ => []) fun a l ih off xs => @Nat.casesOn (fun _ => List V) off (overlay (a :: l) xs) fun m => a :: ih m xs
def rep (zero : List V) : Nat → List V := @Nat.rec (fun _ => List V) [] fun _ ih => appL zero ih

def orU (o : Option V) : V := @Option.casesOn V (fun _ => V) o undefV fun v => v
def T.nth (tm : TM) (n : Nat) : V := orU (tm.get n)
def T.put (tm : TM) (n : Nat) (v : V) : TM := T.set tm n (some v)
def X.ev (tm : TM) (x : X) : V := @X.casesOn (fun _ => V) x tm.nth fun v => v
def evs : List X → TM → List V := @List.rec X (fun _ => TM → List V) (fun _ => []) fun x _ ih tm => X.ev tm x :: ih tm

def V.cells : V → List V
  | .agg l => l
  | v => [v]

def _root_.Go.Value.atom : Value → Bool
  | .agg _ => false
  | .tuple _ => false
  | _ => true

def V.atom : V → Bool
  | .agg _ => false
  | .tup _ => false
  | .any => false
  | .lit v => v.atom
  | _ => true

def allAtoms : List V → Bool := @List.rec V (fun _ => Bool) true fun a _ ih => cond a.atom ih false
def byteLike (v : V) : Bool :=
  match v with
  | .lit (.int .u8 _) => true
  | _ => false
def allB : List V → Bool := @List.rec V (fun _ => Bool) true fun a _ ih => cond (byteLike a) ih false
/-- cells of bytes stay bytes. -/
def keepB (l xs : List V) : Bool := cond (allB l) (allB xs) true

/- integers -/
def ltI : Int → Int → Bool
  | .ofNat a, .ofNat b => Nat.blt a b
  | .negSucc _, .ofNat _ => true
  | .ofNat _, .negSucc _ => false
  | .negSucc a, .negSucc b => Nat.blt b a
def eqI : Int → Int → Bool
  | .ofNat a, .ofNat b => Nat.beq a b
  | .negSucc a, .negSucc b => Nat.beq a b
  | _, _ => false
def inK1 (m : Nat) : Int → Bool
  | .ofNat a => Nat.ble a m
  | .negSucc _ => false
def inK2 : Int → Bool
  | .ofNat a => Nat.ble a 9223372036854775807
  | .negSucc a => Nat.ble a 9223372036854775807
/-- whether a number stays as it is in a kind (a quick test; 'false' says nothing). -/
def inK : IntKind → Int → Bool
  | .i64 => inK2
  | .u8 => inK1 255
  | .u16 => inK1 65535
  | .u32 => inK1 4294967295
  | .u64 => inK1 18446744073709551615
  | _ => fun _ => false
def wrapK (k : IntKind) (n : Int) : Int := cond (inK k n) n (k.wrap n)
def toU (k : IntKind) (n : Int) : Nat := (n % (2 ^ k.bits : Int)).toNat
def litI (k : IntKind) (n : Int) : V := .lit (.int k n)
def litB (b : Bool) : V := .lit (.bool b)
def beqK : IntKind → IntKind → Bool
  | .i8, .i8 | .i16, .i16 | .i32, .i32 | .i64, .i64 | .u8, .u8 | .u16, .u16 | .u32, .u32 | .u64, .u64 => true
  | _, _ => false

def arAdd (k : IntKind) (a b : Int) : Option V := some (litI k (wrapK k (Int.add a b)))
def arSub (k : IntKind) (a b : Int) : Option V := some (litI k (wrapK k (Int.sub a b)))
def arMul (k : IntKind) (a b : Int) : Option V := some (litI k (wrapK k (Int.mul a b)))
def arQuo (k : IntKind) (a b : Int) : Option V := cond (eqI b 0) none (some (litI k (wrapK k (a.tdiv b))))
def arRem (k : IntKind) (a b : Int) : Option V := cond (eqI b 0) none (some (litI k (a.tmod b)))
def arAnd (k : IntKind) (a b : Int) : Option V := some (litI k (wrapK k (Int.ofNat (Nat.land (toU k a) (toU k b)))))
def arOr (k : IntKind) (a b : Int) : Option V := some (litI k (wrapK k (Int.ofNat (Nat.lor (toU k a) (toU k b)))))
def arXor (k : IntKind) (a b : Int) : Option V := some (litI k (wrapK k (Int.ofNat (Nat.xor (toU k a) (toU k b)))))
def arEql (_ : IntKind) (a b : Int) : Option V := some (litB (eqI a b))
def arNeq (_ : IntKind) (a b : Int) : Option V := some (litB (not (eqI a b)))
def arLss (_ : IntKind) (a b : Int) : Option V := some (litB (ltI a b))
def arLeq (_ : IntKind) (a b : Int) : Option V := some (litB (not (ltI b a)))
def arGtr (_ : IntKind) (a b : Int) : Option V := some (litB (ltI b a))
def arGeq (_ : IntKind) (a b : Int) : Option V := some (litB (not (ltI a b)))
def arNo (_ : IntKind) (_ _ : Int) : Option V := none
def arInt : BinOp → IntKind → Int → Int → Option V
  | .add => arAdd
  | .sub => arSub
  | .mul => arMul
  | .quo => arQuo
  | .rem => arRem
  | .and => arAnd
  | .or => arOr
  | .xor => arXor
  | .eql => arEql
  | .neq => arNeq
  | .lss => arLss
  | .leq => arLeq
  | .gtr => arGtr
  | .geq => arGeq
  | .shl => arNo
  | .shr => arNo
  | .andNot => arNo

def arShl (k : IntKind) (a b : Int) : Option V := cond (ltI b 0) none (some (litI k (wrapK k (Int.mul a (2 ^ (Nat.min b.toNat k.bits))))))
def arShr (k : IntKind) (a b : Int) : Option V := cond (ltI b 0) none (some (litI k (a.fdiv (2 ^ (Nat.min b.toNat k.bits)))))
def arShift : BinOp → Option (IntKind → Int → Int → Option V)
  | .shl => some arShl
  | .shr => some arShr
  | _ => none

def eqBytes : List UInt8 → List UInt8 → Bool :=
  @List.rec UInt8 (fun _ => List UInt8 → Bool) (fun m => @List.casesOn UInt8 (fun _ => Bool) m true fun _ _ => false)
    fun a _ ih m => @List.casesOn UInt8 (fun _ => Bool) m false fun b m' => cond (Nat.beq a.toNat b.toNat) (ih m') false
def ltBytes : List UInt8 → List UInt8 → Bool :=
  @List.rec UInt8 (fun _ => List UInt8 → Bool) (fun m => @List.casesOn UInt8 (fun _ => Bool) m false fun _ _ => true)
    fun a _ ih m => @List.casesOn UInt8 (fun _ => Bool) m false fun b m' => cond (Nat.blt a.toNat b.toNat) true (cond (Nat.beq a.toNat b.toNat) (ih m') false)

def arStr : BinOp → List UInt8 → List UInt8 → Option V
  | .eql => fun x y => some (litB (eqBytes x y))
  | .neq => fun x y => some (litB (not (eqBytes x y)))
  | .lss => fun x y => some (litB (ltBytes x y))
  | .leq => fun x y => some (litB (not (ltBytes y x)))
  | _ => fun _ _ => none

def arII (op : BinOp) (k k' : IntKind) (a b : Int) : Option V :=
  match arShift op with
  | some g => g k a b
  | none => cond (beqK k k') (arInt op k a b) none

def ar (op : BinOp) (x y : V) : Option V :=
  match x, y with
  | .lit (.int k a), .lit (.int k' b) => arII op k k' a b
  | .lit (.string a), .lit (.string b) => arStr op a.data.toList b.data.toList
  | _, _ => none

/-- whether two scalars of a kind are equal. -/
def eqSK (s : SK) (x y : V) : Option Bool :=
  match s, x, y with
  | .int k, .lit (.int k1 a), .lit (.int k2 b) => cond (and (beqK k k1) (beqK k k2)) (some (eqI a b)) none
  | .bool, .lit (.bool a), .lit (.bool b) => some (not (xor a b))
  | .string, .lit (.string a), .lit (.string b) => some (eqBytes a.data.toList b.data.toList)
  | _, _, _ => none

def bothO (x y : Option Bool) : Option Bool :=
  match x, y with
  | some a, some b => some (and a b)
  | _, _ => none
def two (a b : List V) (f : V → V → List V → List V → Option Bool) : Option Bool :=
  @List.casesOn V (fun _ => Option Bool) a none fun x l => @List.casesOn V (fun _ => Option Bool) b none fun y m => f x y l m
def eqAll : List SK → List V → List V → Option Bool :=
  @List.rec SK (fun _ => List V → List V → Option Bool) (fun a b => @List.casesOn V (fun _ => Option Bool) a (@List.casesOn V (fun _ => Option Bool) b (some true) fun _ _ => none) fun _ _ => none)
    fun s _ ih a b => two a b fun x y l m => bothO (eqSK s x y) (ih l m)

def eqKey (ks : KK) (x y : V) : Option Bool :=
  match ks, x, y with
  | .one s, x, y => eqSK s x y
  | .many l, .agg a, .agg b => eqAll l a b
  | .many _, _, _ => none

/- memory -/
def cellsOf (o : Option Obj) : Option (List V) :=
  match o with
  | some (.cells l) => some l
  | _ => none
def H.cells (h : H) (b : Nat) : Option (List V) := cellsOf (h.get b)
def mapOf (o : Option Obj) : Option (List (V × V)) :=
  match o with
  | some (.mp l) => some l
  | _ => none

def cutO (o : Option (List V)) (off n : Nat) : Option (List V) :=
  match o with
  | some l => cut l off n
  | none => none
def nthOO (o : Option (List V)) (off : Nat) : Option V :=
  match o with
  | some l => nthO l off
  | none => none

/-- n cells from a place on; one cell. -/
def H.at (h : H) (p : V) (n : Nat) : Option (List V) :=
  match p with
  | .ptr b off => cutO (h.cells b) off n
  | .rp l => cut l 0 n
  | _ => none
def H.at1 (h : H) (p : V) : Option V :=
  match p with
  | .ptr b off => nthOO (h.cells b) off
  | .rp l => nthO l 0
  | _ => none

def putL (h : H) (b off : Nat) (xs : List V) (o : Option (List V)) : Option H :=
  match o with
  | some l => cond (and (Nat.ble (Nat.add off (lenL xs)) (lenL l)) (and (allAtoms xs) (keepB l xs))) (some (h.set b (some (.cells (wr l off xs))))) none
  | none => none
def H.put (h : H) (p : V) (xs : List V) : Option H :=
  match p with
  | .ptr b off => putL h b off xs (h.cells b)
  | _ => none

def withLen (len : Nat) (o : Option (List V)) : Option (List V × Nat) :=
  match o with
  | some l => some (l, len)
  | none => none
def byteV (b : UInt8) : V := .lit (.int .u8 (Int.ofNat b.toNat))
/-- the cells of a slice, so many elements of a size. -/
def H.row (h : H) (es : Nat) (p : V) : Option (List V × Nat) :=
  match p with
  | .slc b off len es' _ => cond (Nat.beq es es') (withLen len (cutO (h.cells b) off (Nat.mul len es))) none
  | .rs l len => withLen len (cut l 0 (Nat.mul len es))
  | .lit (.slice none 0 0) => some ([], 0)
  | .lit (.string s) => cond (Nat.beq es 1) (some (s.data.toList.map byteV, s.data.toList.length)) none
  | _ => none

def natOf : V → Option Nat
  | .lit (.int _ (.ofNat n)) => some n
  | _ => none

def consB (a : V) (r : Option (List UInt8)) : Option (List UInt8) :=
  match a, r with
  | .lit (.int .u8 (.ofNat n)), some l => some (UInt8.ofNat n :: l)
  | _, _ => none
def bytesOf : List V → Option (List UInt8) := @List.rec V (fun _ => Option (List UInt8)) (some []) fun a _ ih => consB a ih

def fillP (off size : Nat) (xs l : List V) (r : List V → Option (List V)) : Option (List V) :=
  cond (and (Nat.beq (lenL xs) size) (and (Nat.ble (Nat.add off size) (lenL l)) (allAtoms xs))) (r (wr l off xs)) none
def fillV : List (Nat × Nat × X) → TM → List V → Option (List V) :=
  @List.rec (Nat × Nat × X) (fun _ => TM → List V → Option (List V)) (fun _ l => some l) fun p _ ih tm l => fillP p.1 p.2.1 (p.2.2.ev tm).cells l (ih tm)

def found (e : Option Bool) (v : V) (r : Option (Option V)) : Option (Option V) :=
  match e with
  | some true => some (some v)
  | some false => r
  | none => none
def findV (ks : KK) (k : V) : List (V × V) → Option (Option V) := @List.rec (V × V) (fun _ => Option (Option V)) (some none) fun p _ ih => found (eqKey ks k p.1) p.2 ih

def placed (k v : V) (p : V × V) (l : List (V × V)) (e : Option Bool) (r : Option (List (V × V))) : Option (List (V × V)) :=
  match e, r with
  | some true, _ => some ((k, v) :: l)
  | some false, some r => some (p :: r)
  | _, _ => none
def setV (ks : KK) (k v : V) : List (V × V) → Option (List (V × V)) := @List.rec (V × V) (fun _ => Option (List (V × V))) (some [(k, v)]) fun p l ih => placed k v p l (eqKey ks k p.1) ih

def bound (tm : TM) (x : Option X) (dflt : Nat) : Option Nat :=
  match x with
  | none => some dflt
  | some x => natOf (x.ev tm)

/- appending -/
def appFresh (h : H) (n es : Nat) (l : List V) : Option (V × H) := some (.slc h.next 0 n es none, h.new (.cells l))
def appKill (h : H) (b n es : Nat) (l : List V) : Option (V × H) := some (.slc h.next 0 n es none, (h.set b none).new (.cells l))
def appCap0 (h : H) (b off len es n : Nat) (l old ys : List V) (cap : Option Nat) : Option (V × H) :=
  match cap with
  | none => appKill h b (Nat.add len n) es (appL old ys)
  | some c =>
    cond (Nat.ble (Nat.add len n) c)
      (cond (Nat.ble (Nat.add off (Nat.mul (Nat.add len n) es)) (lenL l)) (some (.slc b off (Nat.add len n) es cap, h.set b (some (.cells (wr l (Nat.add off (Nat.mul len es)) ys))))) none)
      (appFresh h (Nat.add len n) es (appL old ys))
/-- a capacity that is known, and too small. -/
def appGrows (len n : Nat) (cap : Option Nat) : Bool :=
  match cap with
  | some c => not (Nat.ble (Nat.add len n) c)
  | none => false
def appCap (h : H) (b off len es n : Nat) (l old ys : List V) (cap : Option Nat) : Option (V × H) := cond (or (keepB l ys) (appGrows len n cap)) (appCap0 h b off len es n l old ys cap) none
def appOld (h : H) (b off len es n : Nat) (l ys : List V) (cap : Option Nat) (old : Option (List V)) : Option (V × H) :=
  match old with
  | some old => appCap h b off len es n l old ys cap
  | none => none
def appSlc (h : H) (b off len es n : Nat) (ys : List V) (cap : Option Nat) (o : Option (List V)) : Option (V × H) :=
  match o with
  | some l => cond (Nat.beq n 0) (some (.slc b off len es cap, h)) (appOld h b off len es n l ys cap (cut l off (Nat.mul len es)))
  | none => none
def appMost (n bytes : Nat) : Bool := Nat.ble (Nat.mul n bytes) 17592186044416
def appTo (es bytes : Nat) (x : V) (h : H) (ys : List V) (n : Nat) : Option (V × H) :=
  match x with
  | .lit (.slice none 0 0) => cond (Nat.beq n 0) (some (x, h)) (cond (appMost n bytes) (appFresh h n es ys) none)
  | .rs _ _ => cond (Nat.beq n 0) (some (x, h)) none
  | .slc b off len es' cap => cond (and (Nat.beq es es') (appMost (Nat.add len n) bytes)) (appSlc h b off len es n ys cap (h.cells b)) none
  | _ => none
def appendV (es bytes : Nat) (x y : V) (h : H) : Option (V × H) :=
  match h.row es y with
  | some (ys, n) => cond (allAtoms ys) (appTo es bytes x h ys n) none
  | none => none

/- slicing -/
def sliceCap (b off len es l h : Nat) (cap : Option Nat) : Option V :=
  match cap with
  | some c => cond (Nat.beq l c) (some (.slc b off 0 es (some 0))) (some (.slc b (Nat.add off (Nat.mul l es)) (Nat.sub h l) es (some (Nat.sub c l))))
  | none => cond (Nat.blt l len) (some (.slc b (Nat.add off (Nat.mul l es)) (Nat.sub h l) es none)) (some (.rs [] 0))
def sliceSlc (b off len es : Nat) (cap : Option Nat) (l h : Nat) : Option V :=
  cond (and (Nat.ble l h) (Nat.ble h (cap.getD len))) (cond (Nat.beq l 0) (some (.slc b off h es cap)) (sliceCap b off len es l h cap)) none
def sliceRs (cells : List V) (len es l h : Nat) : Option V :=
  cond (and (Nat.ble l h) (Nat.ble h len))
    (cond (Nat.beq l 0) (some (.rs (cells.take (Nat.mul h es)) h)) (cond (Nat.blt l len) (some (.rs ((cells.drop (Nat.mul l es)).take (Nat.mul (Nat.sub h l) es)) (Nat.sub h l))) (some (.rs [] 0)))) none
def ifLive (o : Option Obj) (r : Option V) : Option V :=
  match o with
  | some _ => r
  | none => none
def sliceV (h : H) (es : Nat) (x : V) (l : Nat) (hi : Option Nat) : Option V :=
  match x with
  | .slc b off len es' cap => cond (Nat.beq es es') (ifLive (h.get b) (sliceSlc b off len es cap l (hi.getD len))) none
  | .rs cells len => sliceRs cells len es l (hi.getD len)
  | .lit (.slice none 0 0) => cond (and (Nat.beq (hi.getD 0) 0) (Nat.beq l 0)) (some x) none
  | _ => none

def live (o : Option Obj) : Option Bool :=
  match o with
  | some _ => some false
  | none => none
def isNil (_ : H) (v : V) : Option Bool :=
  match v with
  | .lit (.pointer none) | .lit (.slice none _ _) | .lit .nilIface | .lit .nilFunc | .lit (.map none) => some true
  | .ptr _ _ | .slc _ _ _ _ _ => some false
  | .rs _ _ | .rp _ | .map _ | .fn _ _ _ | .ifc _ _ => some false
  | _ => none

def isNK (k : NK) (v : V) : Bool :=
  match v with
  | .lit (.pointer none) | .ptr _ _ | .rp _ => match k with | .ptr => true | _ => false
  | .lit (.slice none _ _) | .slc _ _ _ _ _ | .rs _ _ => match k with | .slc => true | _ => false
  | .lit (.map none) | .map _ => match k with | .map => true | _ => false
  | .lit .nilIface | .ifc _ _ => match k with | .ifc => true | _ => false
  | .lit .nilFunc | .fn _ _ _ => match k with | .fn => true | _ => false
  | .lit (.string _) => match k with | .str => true | _ => false
  | _ => false

/- the operations that call nothing -/
abbrev Step := TM → H → Option (V × H)
def okV (h : H) (o : Option V) : Option (V × H) :=
  match o with
  | some v => some (v, h)
  | none => none
def okB (h : H) (neg : Bool) (o : Option Bool) : Option (V × H) :=
  match o with
  | some b => some (litB (xor neg b), h)
  | none => none
def okAgg (h : H) (o : Option (List V)) : Option (V × H) :=
  match o with
  | some l => some (.agg l, h)
  | none => none
def okH (o : Option H) : Option (V × H) :=
  match o with
  | some h => some (undefV, h)
  | none => none
def pickV (c a b : V) (h : H) : Option (V × H) :=
  match c with
  | .lit (.bool t) => some (cond t a b, h)
  | _ => none
def eqBV (neg : Bool) (x y : V) (h : H) : Option (V × H) :=
  match x, y with
  | .lit (.bool a), .lit (.bool b) => some (litB (xor neg (not (xor a b))), h)
  | _, _ => none
def eqAV (neg : Bool) (ks : List SK) (x y : V) (h : H) : Option (V × H) :=
  match x, y with
  | .agg l, .agg m => okB h neg (eqAll ks l m)
  | _, _ => none
def notV (x : V) (h : H) : Option (V × H) :=
  match x with
  | .lit (.bool a) => some (litB (not a), h)
  | _ => none
def negV (x : V) (h : H) : Option (V × H) :=
  match x with
  | .lit (.int k n) => some (litI k (wrapK k (Int.sub 0 n)), h)
  | _ => none
def convV (k : IntKind) (x : V) (h : H) : Option (V × H) :=
  match x with
  | .lit (.int _ n) => some (litI k (wrapK k n), h)
  | _ => none
def okStr (h : H) (o : Option (List UInt8)) : Option (V × H) :=
  match o with
  | some r => some (.lit (.string ⟨r.toArray⟩), h)
  | none => none
def bstrR (o : Option (List V × Nat)) (h : H) : Option (V × H) :=
  match o with
  | some (l, _) => okStr h (bytesOf l)
  | none => none
def bstrV (x : V) (h : H) : Option (V × H) :=
  match x with
  | .lit (.string _) => none
  | x => bstrR (h.row 1 x) h
def strbV (x : V) (h : H) : Option (V × H) :=
  match x with
  | .lit (.string s) => some (.slc h.next 0 s.data.toList.length 1 none, h.new (.cells (s.data.toList.map byteV)))
  | _ => none
def boxL (l : List V) (h : H) : Option (V × H) := cond (allAtoms l) (some (.ptr h.next 0, h.new (.cells l))) none
def litsL (es len : Nat) (o : Option (List V)) (h : H) : Option (V × H) :=
  match o with
  | some l => cond (allAtoms l) (some (.slc h.next 0 len es (some len), h.new (.cells l))) none
  | none => none
def loadV (n : Option Nat) (p : V) (h : H) : Option (V × H) :=
  match n with
  | none => okV h (h.at1 p)
  | some n => okAgg h (h.at p n)
def storeL (n : Nat) (p : V) (xs : List V) (h : H) : Option (V × H) := cond (Nat.beq (lenL xs) n) (okH (h.put p xs)) none
def ifHas (o : Option Obj) (v : V) (h : H) : Option (V × H) :=
  match o with
  | some _ => some (v, h)
  | none => none
def chkV (x : V) (h : H) : Option (V × H) :=
  match x with
  | .ptr b off => ifHas (h.get b) (.ptr b off) h
  | .rp l => some (.rp l, h)
  | .fn (.func f) a b => some (.fn (.func f) a b, h)
  | _ => none
def fieldAV (off : Nat) (x : V) (h : H) : Option (V × H) :=
  match x with
  | .ptr b o => ifHas (h.get b) (.ptr b (Nat.add o off)) h
  | .rp l => some (.rp (dropL l off), h)
  | _ => none
def partV (off : Nat) (n : Option Nat) (l : List V) (h : H) : Option (V × H) :=
  match n with
  | none => okV h (nthO l off)
  | some n => okAgg h (cut l off n)
def fieldV (off : Nat) (n : Option Nat) (x : V) (h : H) : Option (V × H) :=
  match x with
  | .agg l => partV off n l h
  | _ => none
def idxAN (es : Nat) (x : V) (i : Nat) (h : H) : Option (V × H) :=
  match x with
  | .slc b off len es' _ => cond (and (Nat.blt i len) (Nat.beq es es')) (ifHas (h.get b) (.ptr b (Nat.add off (Nat.mul i es))) h) none
  | .rs l len => cond (Nat.blt i len) (some (.rp (dropL l (Nat.mul i es)), h)) none
  | _ => none
def idxAV (es : Nat) (x : V) (i : Option Nat) (h : H) : Option (V × H) :=
  match i with
  | some i => idxAN es x i h
  | none => none
def byteO (o : Option UInt8) (h : H) : Option (V × H) :=
  match o with
  | some b => some (byteV b, h)
  | none => none
def idxSV (x : V) (i : Option Nat) (h : H) : Option (V × H) :=
  match x, i with
  | .lit (.string s), some i => byteO (s.data.toList[i]?) h
  | _, _ => none
def idxVV (len es : Nat) (n : Option Nat) (x : V) (i : Option Nat) (h : H) : Option (V × H) :=
  match x, i with
  | .agg l, some i => cond (Nat.blt i len) (partV (Nat.mul i es) n l h) none
  | _, _ => none
def lenM (o : Option (List (V × V))) (h : H) : Option (V × H) :=
  match o with
  | some es => some (litI .i64 (Int.ofNat es.length), h)
  | none => none
def lenV (x : V) (h : H) : Option (V × H) :=
  match x with
  | .lit (.string s) => some (litI .i64 (Int.ofNat s.data.toList.length), h)
  | .lit (.slice none 0 0) => some (litI .i64 0, h)
  | .slc _ _ len _ _ => some (litI .i64 (Int.ofNat len), h)
  | .rs _ len => some (litI .i64 (Int.ofNat len), h)
  | .map b => lenM (mapOf (h.get b)) h
  | _ => none
def okLen (n : Nat) (o : Option H) : Option (V × H) :=
  match o with
  | some h => some (litI .i64 (Int.ofNat n), h)
  | none => none
def copyTo (es : Nat) (x : V) (ys : List V) (n : Nat) (h : H) : Option (V × H) :=
  match x with
  | .slc b off len es' _ => cond (Nat.beq es es') (okLen (Nat.min n len) (h.put (.ptr b off) (ys.take (Nat.mul (Nat.min n len) es)))) none
  | .lit (.slice none 0 0) => some (litI .i64 0, h)
  | _ => none
def copyV (es : Nat) (x y : V) (h : H) : Option (V × H) :=
  match h.row es y with
  | some (ys, n) => copyTo es x ys n h
  | none => none
def sliceXV (es : Nat) (x : V) (l : Option Nat) (hi : Option (Option Nat)) (h : H) : Option (V × H) :=
  match l, hi with
  | some l, none => okV h (sliceV h es x l none)
  | some l, some (some hi) => okV h (sliceV h es x l (some hi))
  | _, _ => none
def sliceSN (s : List UInt8) (l hi : Option Nat) (h : H) : Option (V × H) :=
  match l, hi with
  | some l, some hi => cond (and (Nat.ble l hi) (Nat.ble hi s.length)) (some (.lit (.string ⟨((s.drop l).take (Nat.sub hi l)).toArray⟩), h)) none
  | _, _ => none
def hiOf (tm : TM) (x : Option X) : Option (Option Nat) :=
  match x with
  | none => none
  | some x => some (natOf (x.ev tm))
def sliceSV (x : V) (tm : TM) (lo hi : Option X) (h : H) : Option (V × H) :=
  match x with
  | .lit (.string s) => sliceSN s.data.toList (bound tm lo 0) (bound tm hi s.data.toList.length) h
  | _ => none
def makeSN (es bytes : Nat) (zero : List V) (l c : Option Nat) (h : H) : Option (V × H) :=
  match l, c with
  | some l, some c => cond (and (Nat.ble l c) (and (Nat.ble (Nat.mul bytes c) 281474976710656) (Nat.ble c 281474976710656))) (some (.slc h.next 0 l es (some c), h.new (.cells (rep zero c)))) none
  | _, _ => none
def lookR (zero : V) (ok : Bool) (o : Option (Option V)) (h : H) : Option (V × H) :=
  match o with
  | some (some v) => some (cond ok (.tup [v, litB true]) v, h)
  | some none => some (cond ok (.tup [zero, litB false]) zero, h)
  | none => none
def lookE (ks : KK) (zero : V) (ok : Bool) (k : V) (o : Option (List (V × V))) (h : H) : Option (V × H) :=
  match o, eqKey ks k k with
  | some es, some _ => lookR zero ok (findV ks k es) h
  | _, _ => none
def lookV (ks : KK) (zero : V) (ok : Bool) (m k : V) (h : H) : Option (V × H) :=
  match m with
  | .map b => lookE ks zero ok k (mapOf (h.get b)) h
  | _ => none
def updR (b : Nat) (o : Option (List (V × V))) (h : H) : Option (V × H) :=
  match o with
  | some es => some (undefV, h.set b (some (.mp es)))
  | none => none
def updE (ks : KK) (b : Nat) (k v : V) (o : Option (List (V × V))) (h : H) : Option (V × H) :=
  match o, eqKey ks k k with
  | some es, some _ => updR b (setV ks k v es) h
  | _, _ => none
def updV (ks : KK) (m k v : V) (h : H) : Option (V × H) :=
  match m with
  | .map b => updE ks b k v (mapOf (h.get b)) h
  | _ => none
def assertV (t : TypeId) (zero : V) (ok : Bool) (x : V) (h : H) : Option (V × H) :=
  match x with
  | .ifc t' v => cond (Nat.beq t' t) (some (cond ok (.tup [v, litB true]) v, h)) (cond ok (some (.tup [zero, litB false], h)) none)
  | .lit .nilIface => cond ok (some (.tup [zero, litB false], h)) none
  | _ => none
def extV (x : V) (i : Nat) (h : H) : Option (V × H) :=
  match x with
  | .tup l => okV h (nthO l i)
  | _ => none
def minV (x y : V) (h : H) : Option (V × H) :=
  match x, y with
  | .lit (.int k a), .lit (.int _ b) => some (litI k (cond (ltI b a) b a), h)
  | _, _ => none
def maxV (x y : V) (h : H) : Option (V × H) :=
  match x, y with
  | .lit (.int k a), .lit (.int _ b) => some (litI k (cond (ltI a b) b a), h)
  | _, _ => none

def stMov (x : X) : Step := fun tm h => some (x.ev tm, h)
def stPick (c a b : X) : Step := fun tm h => pickV (c.ev tm) (a.ev tm) (b.ev tm) h
def stAr (op : BinOp) (x y : X) : Step := fun tm h => okV h (ar op (x.ev tm) (y.ev tm))
def stEqB (neg : Bool) (x y : X) : Step := fun tm h => eqBV neg (x.ev tm) (y.ev tm) h
def stEqA (neg : Bool) (ks : List SK) (x y : X) : Step := fun tm h => eqAV neg ks (x.ev tm) (y.ev tm) h
def stEqNil (neg : Bool) (k : NK) (x : X) : Step := fun tm h => cond (isNK k (x.ev tm)) (okB h neg (isNil h (x.ev tm))) none
def stNot (x : X) : Step := fun tm h => notV (x.ev tm) h
def stNeg (x : X) : Step := fun tm h => negV (x.ev tm) h
def stConv (k : IntKind) (x : X) : Step := fun tm h => convV k (x.ev tm) h
def stBstr (x : X) : Step := fun tm h => bstrV (x.ev tm) h
def stStrb (x : X) : Step := fun tm h => strbV (x.ev tm) h
def stAlloc (zero : List V) : Step := fun _ h => some (.ptr h.next 0, h.new (.cells zero))
def stBox (x : X) : Step := fun tm h => boxL (x.ev tm).cells h
def stBuild (zero : List V) (parts : List (Nat × Nat × X)) : Step := fun tm h => okAgg h (fillV parts tm zero)
def stLits (es len : Nat) (zero : List V) (parts : List (Nat × Nat × X)) : Step := fun tm h => litsL es len (fillV parts tm zero) h
def stLoad (n : Option Nat) (x : X) : Step := fun tm h => loadV n (x.ev tm) h
def stStore (n : Nat) (a x : X) : Step := fun tm h => storeL n (a.ev tm) (x.ev tm).cells h
def stChk (x : X) : Step := fun tm h => chkV (x.ev tm) h
def stFieldA (off : Nat) (x : X) : Step := fun tm h => fieldAV off (x.ev tm) h
def stField (off : Nat) (n : Option Nat) (x : X) : Step := fun tm h => fieldV off n (x.ev tm) h
def stIdxA (es : Nat) (x i : X) : Step := fun tm h => idxAV es (x.ev tm) (natOf (i.ev tm)) h
def stIdxS (x i : X) : Step := fun tm h => idxSV (x.ev tm) (natOf (i.ev tm)) h
def stIdxV (len es : Nat) (n : Option Nat) (x i : X) : Step := fun tm h => idxVV len es n (x.ev tm) (natOf (i.ev tm)) h
def stLen (k : NK) (x : X) : Step := fun tm h => cond (isNK k (x.ev tm)) (lenV (x.ev tm) h) none
def stApp (es bytes : Nat) (x y : X) : Step := fun tm h => appendV es bytes (x.ev tm) (y.ev tm) h
def stCopy (es : Nat) (x y : X) : Step := fun tm h => copyV es (x.ev tm) (y.ev tm) h
def stSlice (es : Nat) (x : X) (lo hi : Option X) : Step := fun tm h => sliceXV es (x.ev tm) (bound tm lo 0) (hiOf tm hi) h
def stSliceS (x : X) (lo hi : Option X) : Step := fun tm h => sliceSV (x.ev tm) tm lo hi h
def stMakeS (es bytes : Nat) (zero : List V) (l c : X) : Step := fun tm h => makeSN es bytes zero (natOf (l.ev tm)) (natOf (c.ev tm)) h
def stMakeM : Step := fun _ h => some (.map h.next, h.new (.mp []))
def stLook (ks : KK) (zero : V) (ok : Bool) (m k : X) : Step := fun tm h => lookV ks zero ok (m.ev tm) (k.ev tm) h
def stUpd (ks : KK) (m k v : X) : Step := fun tm h => updV ks (m.ev tm) (k.ev tm) (v.ev tm) h
def stIface (t : TypeId) (x : X) : Step := fun tm h => some (.ifc t (x.ev tm), h)
def stAssert (t : TypeId) (zero : V) (ok : Bool) (x : X) : Step := fun tm h => assertV t zero ok (x.ev tm) h
def stFunc (f : Fn) (first captured : List X) : Step := fun tm h => some (.fn f (evs first tm) (evs captured tm), h)
def stExt (x : X) (i : Nat) : Step := fun tm h => extV (x.ev tm) i h
def stMin (x y : X) : Step := fun tm h => minV (x.ev tm) (y.ev tm) h
def stMax (x y : X) : Step := fun tm h => maxV (x.ev tm) (y.ev tm) h
def stNo : Step := fun _ _ => none

/-- one operation that calls nothing. -/
def stepO : O → Step := @O.rec (fun _ => Step) stMov stPick stAr stEqB stEqA stEqNil stNot stNeg stConv stBstr stStrb stAlloc stBox stBuild stLits stLoad stStore stChk stFieldA stField stIdxA stIdxS stIdxV
  stLen stApp stCopy stSlice stSliceS stMakeS stMakeM stLook stUpd stIface stAssert stFunc stExt stMin stMax (fun _ _ => stNo) (fun _ _ _ => stNo) (fun _ _ => stNo) (fun _ => stNo)

abbrev Callee := FuncId → List V → H → Option (Ret × H)

def setD (d : Option Nat) (v : V) (tm : TM) : TM :=
  match d with
  | some d => tm.put d v
  | none => tm

def wantV (v : V) (w : Bool) : Option Bool :=
  match v with
  | .lit (.bool b) => some (not (xor b w))
  | .lit (.tuple _) => some false
  | _ => none
def wanted (g : Option (Nat × Bool)) (tm : TM) : Option Bool :=
  match g with
  | none => some true
  | some (t, w) => wantV (tm.nth t) w

/-- the number and the arguments of a call of a function value. -/
def target (f : V) (args : List V) : Option (FuncId × List V) :=
  match f with
  | .fn (.func id) first captured => some (id, appL (appL first args) captured)
  | _ => none

def assoc (t : TypeId) : List (TypeId × FuncId) → Option FuncId := @List.rec (TypeId × FuncId) (fun _ => Option FuncId) none fun p _ ih => cond (Nat.beq p.1 t) (some p.2) ih

/-- what one operation comes to: the state behind it, or a panic. -/
inductive Out where
  | go (st : St)
  | pan (v : V) (st : St)

def outV (d : Option Nat) (st : St) (o : Option (V × H)) : Option Out :=
  match o with
  | some (v, h) => some (.go ⟨setD d v st.tm, st.df, h⟩)
  | none => none
def outR (d : Option Nat) (st : St) (o : Option (Ret × H)) : Option Out :=
  match o with
  | some (.ok v, h) => some (.go ⟨setD d v st.tm, st.df, h⟩)
  | some (.pan v, h) => some (.pan v ⟨st.tm, st.df, h⟩)
  | none => none
def callT (call : Callee) (d : Option Nat) (st : St) (t : Option (FuncId × List V)) : Option Out :=
  match t with
  | some (id, vs) => outR d st (call id vs st.h)
  | none => none
def callM (call : Callee) (d : Option Nat) (st : St) (v : V) (args : List V) (t : Option FuncId) : Option Out :=
  match t with
  | some id => outR d st (call id (v :: args) st.h)
  | none => none
def invV (tab : List (TypeId × FuncId)) (call : Callee) (d : Option Nat) (st : St) (x : V) (args : List V) : Option Out :=
  match x with
  | .ifc t v => callM call d st v args (assoc t tab)
  | _ => none
def deferV (d : Option Nat) (st : St) (f : V) (args : List V) : Option Out :=
  match f with
  | .fn (.func id) first captured => some (.go ⟨setD d undefV st.tm, ⟨.fn (.func id) [] captured, appL first args⟩ :: st.df, st.h⟩)
  | _ => none
def panicV (st : St) (x : V) : Option Out :=
  match x with
  | .ifc t v => some (.pan (.ifc t v) st)
  | _ => none

abbrev Act := Callee → Option Nat → St → Option Out
def actS (s : Step) : Act := fun _ d st => outV d st (s st.tm st.h)
def actCall (f : X) (args : List X) : Act := fun call d st => callT call d st (target (f.ev st.tm) (evs args st.tm))
def actInv (tab : List (TypeId × FuncId)) (x : X) (args : List X) : Act := fun call d st => invV tab call d st (x.ev st.tm) (evs args st.tm)
def actDefer (f : X) (args : List X) : Act := fun _ d st => deferV d st (f.ev st.tm) (evs args st.tm)
def actPanic (x : X) : Act := fun _ _ st => panicV st (x.ev st.tm)
def act : O → Act := @O.rec (fun _ => Act) (fun x => actS (stMov x)) (fun c a b => actS (stPick c a b)) (fun op x y => actS (stAr op x y)) (fun n x y => actS (stEqB n x y)) (fun n s x y => actS (stEqA n s x y))
  (fun n k x => actS (stEqNil n k x)) (fun x => actS (stNot x)) (fun x => actS (stNeg x)) (fun k x => actS (stConv k x)) (fun x => actS (stBstr x)) (fun x => actS (stStrb x)) (fun z => actS (stAlloc z))
  (fun x => actS (stBox x)) (fun z p => actS (stBuild z p)) (fun e l z p => actS (stLits e l z p)) (fun n x => actS (stLoad n x)) (fun n a x => actS (stStore n a x)) (fun x => actS (stChk x))
  (fun o x => actS (stFieldA o x)) (fun o n x => actS (stField o n x)) (fun e x i => actS (stIdxA e x i)) (fun x i => actS (stIdxS x i)) (fun l e n x i => actS (stIdxV l e n x i))
  (fun k x => actS (stLen k x)) (fun e b x y => actS (stApp e b x y)) (fun e x y => actS (stCopy e x y)) (fun e x l h => actS (stSlice e x l h)) (fun x l h => actS (stSliceS x l h))
  (fun e b z l c => actS (stMakeS e b z l c)) (actS stMakeM) (fun s z o m k => actS (stLook s z o m k)) (fun s m k v => actS (stUpd s m k v)) (fun t x => actS (stIface t x)) (fun t z o x => actS (stAssert t z o x))
  (fun f a b => actS (stFunc f a b)) (fun x i => actS (stExt x i)) (fun x y => actS (stMin x y)) (fun x y => actS (stMax x y)) actCall actInv actDefer actPanic

def stepW (call : Callee) (o : CO) (st : St) (w : Option Bool) : Option Out :=
  match w with
  | some true => act o.o call o.d st
  | some false => some (.go ⟨setD o.d undefV st.tm, st.df, st.h⟩)
  | none => none
/-- one operation, with calls. -/
def stepC (call : Callee) (o : CO) (st : St) : Option Out := stepW call o st (wanted o.g st.tm)

def nextOps (ih : Callee → St → Option (E × St)) (call : Callee) (o : Option Out) : Option (E × St) :=
  match o with
  | some (.go st) => ih call st
  | some (.pan v st) => some (.pan v, st)
  | none => none
def runOps : List CO → Callee → St → Option (E × St) :=
  @List.rec CO (fun _ => Callee → St → Option (E × St)) (fun _ st => some (.nor, st)) fun o _ ih call st => nextOps ih call (stepC call o st)

/-- a read in a region whose order is drawn: it must give the same between which loud operations it may stand. -/
structure Rec where
  tm : TM
  lo : Nat
  hi : Nat
  o : O
  v : V

/-- what asks whether reads give the same: the heaps between the loud operations (the last one first), and the reads. -/
abbrev Ck := List H → List Rec → Bool

inductive OutD where
  | go (st : St) (hs : List H) (rs : List Rec)
  | pan (v : V) (st : St) (hs : List H) (rs : List Rec)

/-- the number of an object. -/
def numV (v : V) : Option Nat :=
  match v with
  | .ptr b _ => some b
  | .slc b _ _ _ _ => some b
  | .map b => some b
  | _ => none
def consN (o : Option Nat) (l : List Nat) : List Nat :=
  match o with
  | some n => n :: l
  | none => l
def nums : List Nat → TM → List Nat := @List.rec Nat (fun _ => TM → List Nat) (fun _ => []) fun d _ ih tm => consN (numV (tm.nth d)) (ih tm)
def hideAll : List Nat → H → H := @List.rec Nat (fun _ => H → H) (fun h => h) fun n _ ih h => (ih h).set n none
def backAll : List Nat → H → H → H := @List.rec Nat (fun _ => H → H → H) (fun _ h => h) fun n _ ih h0 h => (ih h0 h).set n (h0.get n)
def backO (ns : List Nat) (h0 : H) (o : Option Out) : Option Out :=
  match o with
  | some (.go st) => some (.go ⟨st.tm, st.df, backAll ns h0 st.h⟩)
  | some (.pan v st) => some (.pan v st)
  | none => none
/-- a loud operation, done without some objects, which are there again behind it. -/
def stepHW (hide : List Nat) (call : Callee) (o : CO) (st : St) (w : Option Bool) : Option Out :=
  match w with
  | some true => backO (nums hide st.tm) st.h (act o.o call o.d ⟨st.tm, st.df, hideAll (nums hide st.tm) st.h⟩)
  | some false => some (.go ⟨setD o.d undefV st.tm, st.df, st.h⟩)
  | none => none

abbrev RunD := Callee → St → List H → List Rec → Option OutD
def dLoud (last : Bool) (ih : RunD) (call : Callee) (h0 : H) (hs : List H) (rs : List Rec) (o : Option Out) : Option OutD :=
  match o with
  | some (.go st) => ih call st (h0 :: hs) rs
  | some (.pan v st) => cond last (some (.pan v st (h0 :: hs) rs)) none
  | none => none
def dSilent (ih : RunD) (call : Callee) (hs : List H) (rs : List Rec) (o : Option Out) : Option OutD :=
  match o with
  | some (.go st) => ih call st hs rs
  | _ => none
def dReadV (ih : RunD) (call : Callee) (lo hi : Nat) (o : CO) (st : St) (hs : List H) (rs : List Rec) (r : Option (V × H)) : Option OutD :=
  match r with
  | some (v, _) => ih call ⟨setD o.d v st.tm, st.df, st.h⟩ hs (⟨st.tm, lo, hi, o.o, v⟩ :: rs)
  | none => none
def dRead (ih : RunD) (call : Callee) (lo hi : Nat) (o : CO) (st : St) (hs : List H) (rs : List Rec) (w : Option Bool) : Option OutD :=
  match w with
  | some false => ih call ⟨setD o.d undefV st.tm, st.df, st.h⟩ hs rs
  | some true => dReadV ih call lo hi o st hs rs (stepO o.o st.tm st.h)
  | none => none
def dOne (p : Part) (o : CO) (ih : RunD) (call : Callee) (st : St) (hs : List H) (rs : List Rec) : Option OutD :=
  match p with
  | .loud last hide => dLoud last ih call st.h hs rs (stepHW hide call o st (wanted o.g st.tm))
  | .made => dSilent ih call hs rs (stepC call o st)
  | .pure => dSilent ih call hs rs (stepC call o st)
  | .read lo hi => dRead ih call lo hi o st hs rs (wanted o.g st.tm)
def runD : List (Part × CO) → RunD :=
  @List.rec (Part × CO) (fun _ => RunD) (fun _ st hs rs => some (.go st (st.h :: hs) rs)) fun p _ ih => dOne p.1 p.2 ih

/-- the temporaries behind a panic amid such a region: whatever it writes is not known. -/
def forget : List (Part × CO) → TM → TM := @List.rec (Part × CO) (fun _ => TM → TM) (fun tm => tm) fun p _ ih tm => ih (setD p.2.d .any tm)

def iterN (f : St → Option (E × St)) (ih : (St → Option (E × St)) → St → Option (E × St)) (r : Option (E × St)) : Option (E × St) :=
  match r with
  | some (.nor, st) => ih f st
  | r => r
def iter : Nat → (St → Option (E × St)) → St → Option (E × St) :=
  @Nat.rec (fun _ => (St → Option (E × St)) → St → Option (E × St)) (fun _ _ => none) fun _ ih f st => iterN f ih (f st)

abbrev Ev := Ck → Callee → Nat → St → Option (E × St)
def cSkip : Ev := fun _ _ _ st => some (.nor, st)
def cReg (l : List CO) : Ev := fun _ call _ st => runOps l call st
def regR (ck : Ck) (l : List (Part × CO)) (tm : TM) (o : Option OutD) : Option (E × St) :=
  match o with
  | some (.go st hs rs) => cond (ck hs rs) (some (.nor, st)) none
  | some (.pan v st hs rs) => cond (ck hs rs) (some (.pan v, ⟨forget l tm, st.df, st.h⟩)) none
  | none => none
def cRegD (l : List (Part × CO)) : Ev := fun ck call _ st => regR ck l st.tm (runD l call st [] [])
def seqR (ck : Ck) (call : Callee) (n : Nat) (b : Ev) (o : Option (E × St)) : Option (E × St) :=
  match o with
  | some (.nor, st) => b ck call n st
  | r => r
def cSeq (_ _ : C) (a b : Ev) : Ev := fun ck call n st => seqR ck call n b (a ck call n st)
def condR (a b : Ev) (ck : Ck) (call : Callee) (n : Nat) (st : St) (v : V) : Option (E × St) :=
  match v with
  | .lit (.bool t) => cond t (a ck call n st) (b ck call n st)
  | _ => none
def cCond (x : X) (_ _ : C) (a b : Ev) : Ev := fun ck call n st => condR a b ck call n st (x.ev st.tm)
def blockR (id : Nat) (o : Option (E × St)) : Option (E × St) :=
  match o with
  | some (.ex id', st) => cond (Nat.beq id' id) (some (.nor, st)) (some (.ex id', st))
  | r => r
def cBlock (id : Nat) (_ : C) (c : Ev) : Ev := fun ck call n st => blockR id (c ck call n st)
def cLoop (_ : C) (c : Ev) : Ev := fun ck call n st => iter n (c ck call n) st
def cExit (id : Nat) : Ev := fun _ _ _ st => some (.ex id, st)
def cRet : Ev := fun _ _ _ st => some (.ret, st)
def evC : C → Ev := @C.rec (fun _ => Ev) cSkip cReg cRegD cSeq cCond cBlock cLoop cExit cRet

def padL : List V → Nat → TM → TM := @List.rec V (fun _ => Nat → TM → TM) (fun _ t => t) fun v _ ih n t => ih (Nat.succ n) (t.put n v)
def pad (args : List V) : TM := padL args 0 .leaf

def consV (v : Option V) (r : Option (List V)) : Option (List V) :=
  match v, r with
  | some v, some l => some (v :: l)
  | _, _ => none
def aggO (o : Option (List V)) : Option V :=
  match o with
  | some l => some (.agg l)
  | none => none
def resAt (tm : TM) (h : H) (r : R) : Option V :=
  match r with
  | .tmp t => some (tm.nth t)
  | .cell a none => h.at1 (tm.nth a)
  | .cell a (some n) => aggO (h.at (tm.nth a) n)
def resV : List R → TM → H → Option (List V) := @List.rec R (fun _ => TM → H → Option (List V)) (fun _ _ => some []) fun r _ ih tm h => consV (resAt tm h r) (ih tm h)

def oneOf : List V → V
  | [v] => v
  | l => .tup l

/-- how a call leaves: it returns, or panics. -/
inductive M where
  | ret
  | pan (v : V)

def recV : M → V
  | .ret => .lit .nilIface
  | .pan v => v
def dRec (r : List R) (o : Option (E × St)) : Option (M × H) :=
  match r, o with
  | [], some (.nor, ⟨_, [], h⟩) => some (.ret, h)
  | [], some (.ret, ⟨_, [], h⟩) => some (.ret, h)
  | _, _ => none
abbrev Fs := FuncId → Option F
def dBody (ck : Ck) (call : Callee) (n : Nat) (f : F) (args : List V) (m : M) (h : H) (p : Option (Nat × Nat)) : Option (M × H) :=
  match p with
  | none => none
  | some (t, u) => dRec f.res (evC f.body ck call n ⟨((pad args).put t (recV m)).put u (recV m), [], h⟩)
def dFn (ck : Ck) (call : Callee) (n : Nat) (args : List V) (m : M) (h : H) (f : Option F) : Option (M × H) :=
  match f with
  | some f => dBody ck call n f args m h f.pre
  | none => none
/-- a deferred call: what the panic has become, and the heap. -/
def evD (ck : Ck) (call : Callee) (n : Nat) (fs : Fs) (d : D) (m : M) (h : H) : Option (M × H) :=
  match d.f with
  | .fn (.func id) _ captured => dFn ck call n (appL d.args captured) m h (fs id)
  | _ => none

abbrev Leave := Ck → Callee → Nat → Fs → M → H → Option (M × H)
def leaveN (ih : Leave) (ck : Ck) (call : Callee) (n : Nat) (fs : Fs) (o : Option (M × H)) : Option (M × H) :=
  match o with
  | some (m, h) => ih ck call n fs m h
  | none => none
def leave : List D → Leave := @List.rec D (fun _ => Leave) (fun _ _ _ _ m h => some (m, h)) fun d _ ih ck call n fs m h => leaveN ih ck call n fs (evD ck call n fs d m h)

def retL (h : H) (o : Option (List V)) : Option (Ret × H) :=
  match o with
  | some l => some (.ok (oneOf l), h)
  | none => none
def fEnd (f : F) (tm : TM) (o : Option (M × H)) : Option (Ret × H) :=
  match o with
  | some (.ret, h) => retL h (resV f.res tm h)
  | some (.pan v, h) => some (.pan v, h)
  | none => none
def fOut (ck : Ck) (call : Callee) (n : Nat) (fs : Fs) (f : F) (o : Option (E × St)) : Option (Ret × H) :=
  match o with
  | some (.nor, st) => fEnd f st.tm (leave st.df ck call n fs .ret st.h)
  | some (.ret, st) => fEnd f st.tm (leave st.df ck call n fs .ret st.h)
  | some (.pan v, st) => fEnd f st.tm (leave st.df ck call n fs (.pan v) st.h)
  | _ => none
def fBody (ck : Ck) (call : Callee) (n : Nat) (fs : Fs) (f : F) (args : List V) (h : H) (p : Option (Nat × Nat)) : Option (Ret × H) :=
  match p with
  | none => fOut ck call n fs f (evC f.body ck call n ⟨pad args, [], h⟩)
  | some _ => none
/-- functions whose contracts are proved apart. -/
abbrev Sp := FuncId → Option (List V → H → Option (Ret × H))
def fGo (ck : Ck) (call : Callee) (n : Nat) (fs : Fs) (args : List V) (h : H) (f : Option F) : Option (Ret × H) :=
  match f with
  | some f => fBody ck call n fs f args h f.pre
  | none => none
def fSp (ck : Ck) (call : Callee) (n : Nat) (fs : Fs) (id : FuncId) (args : List V) (h : H) (s : Option (List V → H → Option (Ret × H))) : Option (Ret × H) :=
  match s with
  | some g => g args h
  | none => fGo ck call n fs args h (fs id)
def evF (ck : Ck) (sp : Sp) (fs : Fs) : Nat → Callee :=
  @Nat.rec (fun _ => Callee) (fun _ _ _ => none) fun n ih id args h => fSp ck ih n fs id args h (sp id)

/-- 'slices.Insert' at a slice that the run itself made by appending. -/
def insTail (h : H) (es n m i : Nat) (ss vs : List V) (s : V) : Option (Ret × H) :=
  match s with
  | .slc b 0 _ _ none => some (.ok (.slc h.next 0 (Nat.add n m) es none), (h.set b none).new (.cells (appL (ss.take (Nat.mul i es)) (appL vs (ss.drop (Nat.mul i es))))))
  | _ => none
def insEnd (o : Option (V × H)) : Option (Ret × H) :=
  match o with
  | some (v, h) => some (.ok v, h)
  | none => none
def insN (es bytes : Nat) (s v : V) (h : H) (a : Option (List V × Nat)) (i : Option Nat) (b : Option (List V × Nat)) : Option (Ret × H) :=
  match a, i, b with
  | some (ss, n), some i, some (vs, m) => cond (or (not (Nat.ble i n)) (or (Nat.beq m 0) (not (allAtoms vs)))) none (cond (Nat.beq i n) (insEnd (appendV es bytes s v h)) (insTail h es n m i ss vs s))
  | _, _, _ => none
def insertV (es bytes : Nat) (args : List V) (h : H) : Option (Ret × H) :=
  match args with
  | [s, i, v] => insN es bytes s v h (h.row es s) (natOf i) (h.row es v)
  | _ => none

/- a check that can be computed -/
def beqVal : Value → Value → Bool
  | .bool a, .bool b => not (xor a b)
  | .int k a, .int k' b => and (beqK k k') (eqI a b)
  | .string a, .string b => eqBytes a.data.toList b.data.toList
  | .pointer none, .pointer none => true
  | .slice none a b, .slice none c d => and (Nat.beq a c) (Nat.beq b d)
  | .map none, .map none => true
  | .nilFunc, .nilFunc => true
  | .nilIface, .nilIface => true
  | _, _ => false

def beqON : Option Nat → Option Nat → Bool
  | none, none => true
  | some a, some b => Nat.beq a b
  | _, _ => false

mutual
def beqV : V → V → Bool
  | .lit a, .lit b => beqVal a b
  | .ptr a b, .ptr c d => and (Nat.beq a c) (Nat.beq b d)
  | .slc a b c d e, .slc a' b' c' d' e' => and (Nat.beq a a') (and (Nat.beq b b') (and (Nat.beq c c') (and (Nat.beq d d') (beqON e e'))))
  | .map a, .map b => Nat.beq a b
  | .fn (.func f) a b, .fn (.func g) c d => and (Nat.beq f g) (and (beqL a c) (beqL b d))
  | .ifc t v, .ifc u w => and (Nat.beq t u) (beqV v w)
  | .agg l, .agg m => beqL l m
  | .tup l, .tup m => beqL l m
  | .rs l n, .rs m k => and (Nat.beq n k) (beqL l m)
  | .rp l, .rp m => beqL l m
  | _, _ => false
def beqL : List V → List V → Bool
  | [], [] => true
  | a :: l, b :: m => and (beqV a b) (beqL l m)
  | _, _ => false
end

def recEq (v : V) (o : Option (V × H)) : Bool :=
  match o with
  | some (w, _) => beqV w v
  | none => false
/-- the heaps come the last one first. -/
def ckRec (r : Rec) : List H → Bool :=
  @List.rec H (fun _ => Bool) true fun h l ih => and (cond (and (Nat.ble r.lo l.length) (Nat.ble l.length r.hi)) (recEq r.v (stepO r.o r.tm h)) true) ih
def ckAll : Ck := fun hs rs => rs.all fun r => ckRec r hs

end
end A
end Go.Proofs.YtcohlhplpogopaaGreat

namespace Go.Proofs.YtcohlhplpogopaaGreat
namespace A

/-- what an abstract object is in memory: gone, cells of a block from a place on, a map. -/
inductive Tgt where
  | dead
  | at (blk off size : Nat)
  | mp (blk : Nat)

abbrev Sg := Nat → Option Tgt

def Tg (σ : Sg) (b blk : Nat) : Prop := (∃ o s, σ b = some (.at blk o s)) ∨ σ b = some (.mp blk)

def PRel (σ : Sg) (b off : Nat) (x : Value) : Prop :=
  match σ b with
  | some (.at blk o _) => x = .pointer (some ⟨blk, o + off, none⟩)
  | some .dead => ∃ a, x = .pointer (some a)
  | _ => False

def SRel (σ : Sg) (b off len es : Nat) (cap : Option Nat) (x : Value) : Prop :=
  match σ b with
  | some (.at blk o size) => ∃ c, x = .slice (some ⟨blk, o + off, none⟩) len c ∧ len ≤ c ∧ o + off + c * es ≤ size ∧ (∀ k, cap = some k → c = k)
  | some .dead => ∃ a c, x = .slice (some a) len c
  | _ => False

mutual
def VRel (σ : Sg) (m : World) : V → Value → Prop
  | .lit v, x => x = v
  | .ptr b off, x => PRel σ b off x
  | .slc b off len es cap, x => SRel σ b off len es cap x
  | .rs cells len, x => ∃ blk o sp c, x = .slice (some ⟨blk, o, sp⟩) len c ∧ len ≤ c ∧ CRel σ m blk o cells ∧ (sp = none ∨ len = 0)
  | .rp cells, x => ∃ blk o, x = .pointer (some ⟨blk, o, none⟩) ∧ CRel σ m blk o cells
  | .map b, x => ∃ blk, σ b = some (.mp blk) ∧ x = .map (some blk)
  | .fn f fs cs, x => ∃ a b, x = .func f a b ∧ LRel σ m fs a.toList ∧ LRel σ m cs b.toList
  | .ifc t v, x => ∃ y, x = .iface t y ∧ VRel σ m v y
  | .agg l, x => ∃ a, x = .agg a ∧ LRel σ m l a.toList
  | .tup l, x => ∃ a, x = .tuple a ∧ LRel σ m l a.toList
  | .any, _ => True
def LRel (σ : Sg) (m : World) : List V → List Value → Prop
  | [], xs => xs = []
  | v :: l, xs => ∃ x r, xs = x :: r ∧ VRel σ m v x ∧ LRel σ m l r
def CRel (σ : Sg) (m : World) (blk off : Nat) : List V → Prop
  | [] => True
  | v :: l => (∃ x, m.cell? ⟨blk, off, none⟩ = some x ∧ VRel σ m v x) ∧ CRel σ m blk (off + 1) l
end

/-- σ' says all that σ says, but that some cells are gone; what it says besides is of numbers from lo to below hi. -/
def Ext (σ σ' : Sg) (lo hi : Nat) : Prop :=
  ∀ b, (∀ t, σ b = some t → σ' b = some t ∨ (σ' b = some .dead ∧ ∃ blk o s, t = .at blk o s)) ∧ (σ b = none → (b < lo ∨ hi ≤ b) → σ' b = none)

theorem Ext.refl (σ : Sg) (lo hi : Nat) : Ext σ σ lo hi := fun _ => ⟨fun _ h => .inl h, fun h _ => h⟩

theorem Ext.trans {σ σ' σ'' : Sg} {lo mid hi : Nat} (h : Ext σ σ' lo mid) (h' : Ext σ' σ'' mid hi) (h1 : lo ≤ mid) (h2 : mid ≤ hi) : Ext σ σ'' lo hi := by
  intro b
  refine ⟨fun t ht => ?_, fun hn hb => ?_⟩
  · rcases (h b).1 t ht with e | ⟨e, hd⟩
    · exact (h' b).1 t e
    · rcases (h' b).1 _ e with e' | ⟨e', _, _, _, hd'⟩
      · exact .inr ⟨e', hd⟩
      · cases hd'
  · have := (h b).2 hn (by omega)
    exact (h' b).2 this (by omega)

theorem Ext.mono {σ σ' : Sg} {lo hi lo' hi' : Nat} (h : Ext σ σ' lo hi) (h1 : lo' ≤ lo) (h2 : hi ≤ hi') : Ext σ σ' lo' hi' :=
  fun b => ⟨(h b).1, fun hn hb => (h b).2 hn (by omega)⟩

theorem PRel.ext {σ σ' : Sg} {lo hi b off : Nat} {x : Value} (h : PRel σ b off x) (he : Ext σ σ' lo hi) : PRel σ' b off x := by
  unfold PRel at *
  cases hs : σ b with
  | none => rw [hs] at h; exact h.elim
  | some t =>
    rw [hs] at h
    rcases (he b).1 t hs with e | ⟨e, hd⟩
    · rw [e]; exact h
    · rw [e]
      obtain ⟨blk, o, s, rfl⟩ := hd
      simp only at h
      subst h; exact ⟨_, rfl⟩

theorem SRel.ext {σ σ' : Sg} {lo hi b off len es : Nat} {cap : Option Nat} {x : Value} (h : SRel σ b off len es cap x) (he : Ext σ σ' lo hi) : SRel σ' b off len es cap x := by
  unfold SRel at *
  cases hs : σ b with
  | none => rw [hs] at h; exact h.elim
  | some t =>
    rw [hs] at h
    rcases (he b).1 t hs with e | ⟨e, hd⟩
    · rw [e]; exact h
    · rw [e]
      obtain ⟨blk, o, s, rfl⟩ := hd
      obtain ⟨c, rfl, _⟩ := h
      exact ⟨_, _, rfl⟩

mutual
theorem VRel.ext {σ σ' : Sg} {m : World} {lo hi : Nat} (he : Ext σ σ' lo hi) : ∀ (v : V) (x : Value), VRel σ m v x → VRel σ' m v x
  | .lit _, _, h => by simpa only [VRel] using h
  | .ptr _ _, _, h => by simp only [VRel] at h ⊢; exact h.ext he
  | .slc _ _ _ _ _, _, h => by simp only [VRel] at h ⊢; exact h.ext he
  | .rs cells _, _, h => by
    simp only [VRel] at h ⊢
    obtain ⟨blk, o, sp, c, h1, h2, h3, h4⟩ := h
    exact ⟨blk, o, sp, c, h1, h2, CRel.ext he blk cells o h3, h4⟩
  | .rp cells, _, h => by
    simp only [VRel] at h ⊢
    obtain ⟨blk, o, h1, h3⟩ := h
    exact ⟨blk, o, h1, CRel.ext he blk cells o h3⟩
  | .map b, _, h => by
    simp only [VRel] at h ⊢
    obtain ⟨blk, h1, h2⟩ := h
    rcases (he b).1 _ h1 with e | ⟨_, _, _, _, hd⟩
    · exact ⟨blk, e, h2⟩
    · cases hd
  | .fn _ fs cs, _, h => by
    simp only [VRel] at h ⊢
    obtain ⟨a, b, h1, h2, h3⟩ := h
    exact ⟨a, b, h1, LRel.ext he fs _ h2, LRel.ext he cs _ h3⟩
  | .ifc _ v, _, h => by
    simp only [VRel] at h ⊢
    obtain ⟨y, h1, h2⟩ := h
    exact ⟨y, h1, VRel.ext he v _ h2⟩
  | .agg l, _, h => by
    simp only [VRel] at h ⊢
    obtain ⟨a, h1, h2⟩ := h
    exact ⟨a, h1, LRel.ext he l _ h2⟩
  | .tup l, _, h => by
    simp only [VRel] at h ⊢
    obtain ⟨a, h1, h2⟩ := h
    exact ⟨a, h1, LRel.ext he l _ h2⟩
  | .any, _, _ => by simp only [VRel]
theorem LRel.ext {σ σ' : Sg} {m : World} {lo hi : Nat} (he : Ext σ σ' lo hi) : ∀ (l : List V) (xs : List Value), LRel σ m l xs → LRel σ' m l xs
  | [], _, h => by simpa only [LRel] using h
  | v :: l, _, h => by
    simp only [LRel] at h ⊢
    obtain ⟨x, r, h1, h2, h3⟩ := h
    exact ⟨x, r, h1, VRel.ext he v _ h2, LRel.ext he l _ h3⟩
theorem CRel.ext {σ σ' : Sg} {m : World} {lo hi : Nat} (he : Ext σ σ' lo hi) (blk : Nat) : ∀ (l : List V) (off : Nat), CRel σ m blk off l → CRel σ' m blk off l
  | [], _, _ => by simp only [CRel]
  | v :: l, off, h => by
    simp only [CRel] at h ⊢
    obtain ⟨⟨x, h1, h2⟩, h3⟩ := h
    exact ⟨⟨x, h1, VRel.ext he v _ h2⟩, CRel.ext he blk l _ h3⟩
end

theorem LRel.nil {σ : Sg} {m : World} : LRel σ m [] [] := by simp only [LRel]
theorem LRel.cons {σ : Sg} {m : World} {v : V} {l : List V} {x : Value} {r : List Value} (h : VRel σ m v x) (h' : LRel σ m l r) : LRel σ m (v :: l) (x :: r) := by
  simp only [LRel]; exact ⟨x, r, rfl, h, h'⟩
theorem LRel.cons_iff {σ : Sg} {m : World} {v : V} {l : List V} {x : Value} {r : List Value} : LRel σ m (v :: l) (x :: r) ↔ VRel σ m v x ∧ LRel σ m l r := by
  simp only [LRel]
  exact ⟨fun ⟨_, _, h, h1, h2⟩ => by cases h; exact ⟨h1, h2⟩, fun ⟨h1, h2⟩ => ⟨x, r, rfl, h1, h2⟩⟩
theorem LRel.nil_iff {σ : Sg} {m : World} {xs : List Value} : LRel σ m [] xs ↔ xs = [] := by simp only [LRel]

theorem LRel.length {σ : Sg} {m : World} : ∀ {l : List V} {xs : List Value}, LRel σ m l xs → xs.length = l.length
  | [], _, h => by simp only [LRel] at h; subst h; rfl
  | v :: l, xs, h => by
    simp only [LRel] at h
    obtain ⟨x, r, rfl, _, h2⟩ := h
    simp [LRel.length h2]

theorem LRel.append {σ : Sg} {m : World} : ∀ {l k : List V} {xs ys : List Value}, LRel σ m l xs → LRel σ m k ys → LRel σ m (l ++ k) (xs ++ ys)
  | [], _, _, _, h, h' => by simp only [LRel] at h; subst h; exact h'
  | v :: l, k, xs, ys, h, h' => by
    simp only [LRel] at h
    obtain ⟨x, r, rfl, h1, h2⟩ := h
    exact LRel.cons h1 (LRel.append h2 h')

theorem LRel.take {σ : Sg} {m : World} : ∀ {l : List V} {xs : List Value} (n : Nat), LRel σ m l xs → LRel σ m (l.take n) (xs.take n)
  | _, _, 0, _ => by simpa using LRel.nil
  | [], _, _ + 1, h => by simp only [LRel] at h; subst h; simpa using LRel.nil
  | v :: l, xs, n + 1, h => by
    simp only [LRel] at h
    obtain ⟨x, r, rfl, h1, h2⟩ := h
    simpa using LRel.cons h1 (LRel.take n h2)

theorem LRel.drop {σ : Sg} {m : World} : ∀ {l : List V} {xs : List Value} (n : Nat), LRel σ m l xs → LRel σ m (l.drop n) (xs.drop n)
  | _, _, 0, h => by simpa using h
  | [], _, _ + 1, h => by simp only [LRel] at h; subst h; simpa using LRel.nil
  | v :: l, xs, n + 1, h => by
    simp only [LRel] at h
    obtain ⟨x, r, rfl, _, h2⟩ := h
    simpa using LRel.drop n h2

theorem LRel.get {σ : Sg} {m : World} : ∀ {l : List V} {xs : List Value} {n : Nat} {v : V}, LRel σ m l xs → l[n]? = some v → ∃ x, xs[n]? = some x ∧ VRel σ m v x
  | [], _, _, _, _, h => by simp at h
  | u :: l, xs, n, v, h, hv => by
    simp only [LRel] at h
    obtain ⟨x, r, rfl, h1, h2⟩ := h
    cases n with
    | zero => simp at hv; subst hv; exact ⟨x, by simp, h1⟩
    | succ n => simpa using LRel.get h2 (by simpa using hv)

theorem LRel.split {σ : Sg} {m : World} : ∀ {l k : List V} {xs : List Value}, LRel σ m (l ++ k) xs → ∃ ys zs, xs = ys ++ zs ∧ LRel σ m l ys ∧ LRel σ m k zs
  | [], _, xs, h => ⟨[], xs, rfl, LRel.nil, h⟩
  | v :: l, k, xs, h => by
    rw [List.cons_append] at h
    simp only [LRel] at h
    obtain ⟨x, r, rfl, h1, h2⟩ := h
    obtain ⟨ys, zs, rfl, h3, h4⟩ := LRel.split h2
    exact ⟨x :: ys, zs, rfl, LRel.cons h1 h3, h4⟩

/-- pairs of a map -/
def ERel (σ : Sg) (m : World) : List (V × V) → List MapEntry → Prop
  | [], es => es = []
  | p :: l, es => ∃ e r, es = e :: r ∧ VRel σ m p.1 e.key ∧ VRel σ m p.2 e.val ∧ ERel σ m l r

theorem ERel.ext {σ σ' : Sg} {m : World} {lo hi : Nat} (he : Ext σ σ' lo hi) : ∀ (l : List (V × V)) (es : List MapEntry), ERel σ m l es → ERel σ' m l es
  | [], _, h => h
  | _ :: l, _, h => by
    obtain ⟨e, r, h1, h2, h3, h4⟩ := h
    exact ⟨e, r, h1, VRel.ext he _ _ h2, VRel.ext he _ _ h3, ERel.ext he l r h4⟩

theorem ERel.length {σ : Sg} {m : World} : ∀ {l : List (V × V)} {es : List MapEntry}, ERel σ m l es → es.length = l.length
  | [], _, h => by cases h; rfl
  | _ :: l, _, h => by
    obtain ⟨e, r, rfl, _, _, h4⟩ := h
    simp [ERel.length h4]

/-- the cells l of an object lie in block blk from off on. -/
def Lies (σ : Sg) (m w : World) (blk off size : Nat) (l : List V) : Prop :=
  ∃ c e fr, w.heap[blk]? = some (.cells c e fr) ∧ c.size = size ∧ off + l.length ≤ size ∧ (∀ i, i < size → ¬ (fr.1 ≤ i ∧ i < fr.2)) ∧
    LRel σ m l ((c.toList.drop off).take l.length) ∧ allAtoms l = true ∧ (fr.1 ≤ size ∧ size < fr.2 → allB l = true)

def LiesM (σ : Sg) (m w : World) (blk : Nat) (es : List (V × V)) : Prop :=
  ∃ a clock, w.heap[blk]? = some (.map a clock) ∧ ERel σ m es a.toList

structure WRel (σ : Sg) (m : World) (h : H) (w : World) : Prop where
  size : m.heap.size ≤ w.heap.size
  old : ∀ i, i < m.heap.size → w.heap[i]? = m.heap[i]?
  cells : ∀ b l, h.get b = some (.cells l) → σ b = none ∨ ∃ blk off size, σ b = some (.at blk off size) ∧ Lies σ m w blk off size l
  maps : ∀ b es, h.get b = some (.mp es) → σ b = none ∨ ∃ blk, σ b = some (.mp blk) ∧ LiesM σ m w blk es
  inj : ∀ b b' blk, Tg σ b blk → Tg σ b' blk → b = b'
  bound : ∀ b blk, Tg σ b blk → m.heap.size ≤ blk ∧ blk < w.heap.size
  fresh : ∀ b, h.next ≤ b → h.get b = none

def Owned (σ : Sg) (h : H) (blk : Nat) : Prop := ∃ b, Tg σ b blk ∧ h.get b ≠ none

/-- what a run leaves as it was. -/
structure Good (σ σ' : Sg) (h h' : H) (w w' : World) : Prop where
  le : h.next ≤ h'.next
  ext : Ext σ σ' h.next h'.next
  size : w.heap.size ≤ w'.heap.size
  frame : ∀ blk, blk < w.heap.size → ¬ Owned σ h blk → w'.heap[blk]? = w.heap[blk]?
  new : ∀ b blk, σ b = none → Tg σ' b blk → w.heap.size ≤ blk ∨ Owned σ h blk
  gone : ∀ b, h.get b = none → (b < h.next ∨ h'.next ≤ b) → h'.get b = none
  rest : w'.os = w.os ∧ w'.output = w.output ∧ w'.tape = w.tape
  keep : ∀ b t, h.get b = none → σ b = some t → σ' b = some t

theorem Good.refl (σ : Sg) (h : H) (w : World) : Good σ σ h h w w :=
  ⟨Nat.le_refl _, Ext.refl _ _ _, Nat.le_refl _, fun _ _ _ => rfl, fun b blk hn ht => by rcases ht with ⟨o, s, e⟩ | e <;> simp [hn] at e, fun _ hn _ => hn, ⟨rfl, rfl, rfl⟩, fun _ _ _ h => h⟩

theorem Tg.old {σ σ' : Sg} {lo hi b blk : Nat} (he : Ext σ σ' lo hi) (h : Tg σ' b blk) : σ b = none ∨ Tg σ b blk := by
  cases hs : σ b with
  | none => exact .inl rfl
  | some t =>
    right
    rcases (he b).1 t hs with e | ⟨e, _⟩
    · rcases h with ⟨o, s, h⟩ | h
      · rw [h] at e; exact .inl ⟨o, s, by rw [hs, ← e]⟩
      · rw [h] at e; exact .inr (by rw [hs, ← e])
    · rcases h with ⟨o, s, h⟩ | h <;> simp [e] at h

/-- the numbers from lo to below hi say nothing yet. -/
def Free (σ : Sg) (lo hi : Nat) : Prop := ∀ b, lo ≤ b → b < hi → σ b = none

theorem Free.after {σ σ' : Sg} {lo mid hi : Nat} (h : Free σ lo hi) (he : Ext σ σ' lo mid) (h1 : lo ≤ mid) : Free σ' mid hi :=
  fun b h2 h3 => (he b).2 (h b (by omega) h3) (.inr h2)

theorem Free.mono {σ : Sg} {lo hi hi' : Nat} (h : Free σ lo hi) (h1 : hi' ≤ hi) : Free σ lo hi' := fun b h2 h3 => h b h2 (by omega)

theorem Good.trans {σ σ' σ'' : Sg} {h h' h'' : H} {w w' w'' : World} (hf : Free σ h.next h'.next) (g : Good σ σ' h h' w w') (g' : Good σ' σ'' h' h'' w' w'') :
    Good σ σ'' h h'' w w'' := by
  have owned : ∀ blk, blk < w.heap.size → ¬ Owned σ h blk → ¬ Owned σ' h' blk := by
    rintro blk hlt hno ⟨b, ht, hg⟩
    rcases ht.old g.ext with hn | ht'
    · rcases g.new b blk hn ht with hb | ho
      · omega
      · exact hno ho
    · by_cases hb : h.get b = none
      · refine hg (g.gone b hb ?_)
        rcases Nat.lt_or_ge b h.next with h1 | h1
        · exact .inl h1
        · rcases Nat.lt_or_ge b h'.next with h2 | h2
          · have := hf b h1 h2
            rcases ht' with ⟨o, s, e⟩ | e <;> simp [this] at e
          · exact .inr h2
      · exact hno ⟨b, ht', hb⟩
  refine ⟨Nat.le_trans g.le g'.le, g.ext.trans g'.ext g.le g'.le, Nat.le_trans g.size g'.size, ?_, ?_, ?_, ?_, ?_⟩
  · intro blk hlt hno
    rw [g'.frame blk (Nat.lt_of_lt_of_le hlt g.size) (owned blk hlt hno), g.frame blk hlt hno]
  · intro b blk hn ht
    cases hs : σ' b with
    | none =>
      rcases g'.new b blk hs ht with h1 | ⟨b0, ht0, hg0⟩
      · exact .inl (Nat.le_trans g.size h1)
      · rcases Nat.lt_or_ge blk w.heap.size with hlt | hge
        · right
          by_cases hno : Owned σ h blk
          · exact hno
          · exact absurd ⟨b0, ht0, hg0⟩ (owned blk hlt hno)
        · exact .inl hge
    | some t =>
      refine g.new b blk hn ?_
      rcases ht.old g'.ext with e | e
      · rw [hs] at e; cases e
      · exact e
  · intro b hb h1
    have hle := g.le; have hle' := g'.le
    exact g'.gone b (g.gone b hb (by omega)) (by omega)
  · exact ⟨g'.rest.1.trans g.rest.1, g'.rest.2.1.trans g.rest.2.1, g'.rest.2.2.trans g.rest.2.2⟩
  · intro b t hb ht
    refine g'.keep b t (g.gone b hb ?_) (g.keep b t hb ht)
    rcases Nat.lt_or_ge b h.next with h1 | h1
    · exact .inl h1
    · rcases Nat.lt_or_ge b h'.next with h2 | h2
      · have := hf b h1 h2; rw [this] at ht; cases ht
      · exact .inr h2

/-- temporaries -/
def TRel (σ : Sg) (m : World) (tm : TM) (tmps : Array Value) : Prop := ∀ n, VRel σ m (tm.nth n) (tmps.getD n undef)

theorem TRel.ext {σ σ' : Sg} {m : World} {lo hi : Nat} {tm : TM} {tmps : Array Value} (h : TRel σ m tm tmps) (he : Ext σ σ' lo hi) : TRel σ' m tm tmps :=
  fun n => VRel.ext he _ _ (h n)

theorem T.nth_put (tm : TM) (i j : Nat) (v : V) : (tm.put i v).nth j = if j = i then v else tm.nth j := by
  unfold T.nth T.put
  rw [T.get_set]
  by_cases h : j = i <;> simp [h, orU]

theorem TRel.put {σ : Sg} {m : World} {tm : TM} {tmps : Array Value} {d : Nat} {v : V} {x : Value} (h : TRel σ m tm tmps) (hd : d < tmps.size) (hv : VRel σ m v x) :
    TRel σ m (tm.put d v) (tmps.setIfInBounds d x) := by
  intro n
  rw [T.nth_put]
  by_cases e : n = d
  · subst e; simpa [hd] using hv
  · rw [if_neg e]
    have := h n
    simp only [Array.getD_eq_getD_getElem?] at this ⊢
    rwa [Array.getElem?_setIfInBounds_ne (Ne.symm e)]

theorem undef_rel {σ : Sg} {m : World} : VRel σ m undefV undef := by simp only [undefV, VRel, undef]

end A
end Go.Proofs.YtcohlhplpogopaaGreat

namespace Go.Proofs.YtcohlhplpogopaaGreat
namespace A

theorem lenL_eq : ∀ l : List V, lenL l = l.length
  | [] => rfl
  | _ :: l => congrArg Nat.succ (lenL_eq l)
theorem appL_eq : ∀ l m : List V, appL l m = l ++ m
  | [], _ => rfl
  | a :: l, m => congrArg (a :: ·) (appL_eq l m)
theorem dropL_eq : ∀ (l : List V) (n : Nat), dropL l n = l.drop n
  | [], n => by simp [dropL]
  | _ :: _, 0 => rfl
  | _ :: l, n + 1 => by
    show dropL l n = _
    rw [dropL_eq l n]; rfl
theorem nthO_eq : ∀ (l : List V) (n : Nat), nthO l n = l[n]?
  | [], n => by simp [nthO]
  | _ :: _, 0 => rfl
  | _ :: l, n + 1 => by
    show nthO l n = _
    rw [nthO_eq l n]; simp
theorem takeO_cons (a : V) (l : List V) (n : Nat) : takeO (a :: l) (n + 1) = consO a (takeO l n) := rfl
theorem takeO_some : ∀ {l : List V} {n : Nat} {r : List V}, takeO l n = some r → r = l.take n ∧ n ≤ l.length
  | [], 0, r, h => by cases h; simp
  | [], n + 1, r, h => by cases h
  | a :: l, 0, r, h => by cases h; simp
  | a :: l, n + 1, r, h => by
    rw [takeO_cons] at h
    cases hr : takeO l n with
    | none => rw [hr] at h; cases h
    | some q =>
      rw [hr] at h
      have : r = a :: q := by cases h; rfl
      obtain ⟨h1, h2⟩ := takeO_some hr
      subst h1; subst this
      simp; omega
theorem takeO_of : ∀ (l : List V) (n : Nat), n ≤ l.length → takeO l n = some (l.take n)
  | [], 0, _ => rfl
  | [], n + 1, h => by simp at h
  | a :: l, 0, _ => rfl
  | a :: l, n + 1, h => by rw [takeO_cons, takeO_of l n (by simpa using h)]; rfl
theorem cut_some {l : List V} {off n : Nat} {r : List V} (h : cut l off n = some r) : r = (l.drop off).take n ∧ r.length = n := by
  unfold cut at h
  rw [dropL_eq] at h
  obtain ⟨h1, h2⟩ := takeO_some h
  subst h1
  exact ⟨rfl, by rw [List.length_take]; omega⟩
theorem cut_of (l : List V) (off n : Nat) (h : off + n ≤ l.length) : cut l off n = some ((l.drop off).take n) := by
  unfold cut
  rw [dropL_eq]
  exact takeO_of _ _ (by simp; omega)

theorem allAtoms_cons (a : V) (l : List V) : allAtoms (a :: l) = (a.atom && allAtoms l) := by
  show cond a.atom (allAtoms l) false = _
  cases a.atom <;> rfl
theorem allAtoms_iff : ∀ l : List V, allAtoms l = true ↔ ∀ v ∈ l, v.atom = true
  | [] => by simp [allAtoms]
  | a :: l => by rw [allAtoms_cons, Bool.and_eq_true, allAtoms_iff l]; simp
theorem allAtoms_append {l m : List V} (h : allAtoms l = true) (h' : allAtoms m = true) : allAtoms (l ++ m) = true := by
  rw [allAtoms_iff] at *
  intro v hv
  rcases List.mem_append.1 hv with h1 | h1
  · exact h v h1
  · exact h' v h1
theorem allAtoms_sub {l m : List V} (h : allAtoms l = true) (hs : ∀ v ∈ m, v ∈ l) : allAtoms m = true := by
  rw [allAtoms_iff] at *
  exact fun v hv => h v (hs v hv)

theorem atom_rel {σ : Sg} {m : World} {v : V} {x : Value} (h : VRel σ m v x) (ha : v.atom = true) : x.atom = true := by
  cases v with
  | lit v => simp only [VRel] at h; subst h; exact ha
  | ptr b off =>
    simp only [VRel, PRel] at h
    split at h
    · subst h; rfl
    · obtain ⟨_, rfl⟩ := h; rfl
    · exact h.elim
  | slc b off len es cap =>
    simp only [VRel, SRel] at h
    split at h
    · obtain ⟨c, rfl, _⟩ := h; rfl
    · obtain ⟨_, _, rfl⟩ := h; rfl
    · exact h.elim
  | rs => simp only [VRel] at h; obtain ⟨_, _, _, _, rfl, _⟩ := h; rfl
  | rp => simp only [VRel] at h; obtain ⟨_, _, rfl, _⟩ := h; rfl
  | map => simp only [VRel] at h; obtain ⟨_, _, rfl⟩ := h; rfl
  | fn => simp only [VRel] at h; obtain ⟨_, _, rfl, _⟩ := h; rfl
  | ifc => simp only [VRel] at h; obtain ⟨_, rfl, _⟩ := h; rfl
  | agg => cases ha
  | tup => cases ha
  | any => cases ha

theorem atoms_rel {σ : Sg} {m : World} : ∀ {l : List V} {xs : List Value}, LRel σ m l xs → allAtoms l = true → ∀ x ∈ xs, x.atom = true
  | [], _, h, _ => by rw [LRel.nil_iff] at h; subst h; simp
  | v :: l, xs, h, ha => by
    simp only [LRel] at h
    obtain ⟨x, r, rfl, h1, h2⟩ := h
    rw [allAtoms_cons, Bool.and_eq_true] at ha
    intro y hy
    rcases List.mem_cons.1 hy with e | hy
    · subst e; exact atom_rel h1 ha.1
    · exact atoms_rel h2 ha.2 y hy

theorem atom_oneCell (x : Value) (h : x.atom = true) : x.oneCell' = true := by cases x <;> first | rfl | cases h

theorem cells_rel {σ : Sg} {m : World} {v : V} {x : Value} (h : VRel σ m v x) (hn : ∀ w, v ≠ .lit (.agg w)) (ha : v ≠ .any) (hd : ∀ b off, v = .ptr b off → σ b ≠ some .dead)
    (hs : ∀ b o l e c, v = .slc b o l e c → σ b ≠ some .dead) : LRel σ m v.cells x.cells.toList := by
  have one : ∀ {y : Value}, y.cells = #[y] → VRel σ m v y → v.cells = [v] → LRel σ m v.cells y.cells.toList := by
    intro y h1 h2 h3
    rw [h1, h3]
    exact LRel.cons h2 LRel.nil
  cases v with
  | lit v =>
    have hx := h
    simp only [VRel] at h; subst h
    cases x with
    | agg w => exact absurd rfl (hn w)
    | _ => exact one rfl hx rfl
  | agg l => simp only [VRel] at h; obtain ⟨a, rfl, h⟩ := h; exact h
  | any => exact absurd rfl ha
  | ptr b off =>
    have hx := h
    have hdd := hd b off rfl
    simp only [VRel, PRel] at h
    split at h
    · subst h; exact one rfl hx rfl
    · rename_i e; exact absurd e hdd
    · exact h.elim
  | slc b off len es cap =>
    have hx := h
    have hdd := hs b off len es cap rfl
    simp only [VRel, SRel] at h
    split at h
    · obtain ⟨c, rfl, _⟩ := h; exact one rfl hx rfl
    · rename_i e; exact absurd e hdd
    · exact h.elim
  | rs => have hx := h; simp only [VRel] at h; obtain ⟨_, _, _, _, rfl, _⟩ := h; exact one rfl hx rfl
  | rp => have hx := h; simp only [VRel] at h; obtain ⟨_, _, rfl, _⟩ := h; exact one rfl hx rfl
  | map => have hx := h; simp only [VRel] at h; obtain ⟨_, _, rfl⟩ := h; exact one rfl hx rfl
  | fn => have hx := h; simp only [VRel] at h; obtain ⟨_, _, rfl, _⟩ := h; exact one rfl hx rfl
  | ifc => have hx := h; simp only [VRel] at h; obtain ⟨_, rfl, _⟩ := h; exact one rfl hx rfl
  | tup => have hx := h; simp only [VRel] at h; obtain ⟨_, rfl, _⟩ := h; exact one rfl hx rfl

/-- the same of cells that are atoms. -/
theorem cells_atoms {σ : Sg} {m : World} {v : V} {x : Value} (h : VRel σ m v x) (ha : allAtoms v.cells = true) : LRel σ m v.cells x.cells.toList := by
  cases v with
  | agg l => simp only [VRel] at h; obtain ⟨a, rfl, h⟩ := h; exact h
  | _ =>
    have hv := (allAtoms_iff _).1 ha _ (List.mem_singleton.2 rfl)
    have hx := atom_rel h hv
    have : x.cells = #[x] := by cases x <;> first | rfl | cases hx
    rw [this]
    exact LRel.cons h LRel.nil

/- memory -/
theorem add_none (blk off n : Nat) : (⟨blk, off, none⟩ : Addr).add n = ⟨blk, off + n, none⟩ := by
  unfold Addr.add
  split
  · next h => simp [h]
  · rfl

theorem CRel.get {σ : Sg} {m : World} {blk : Nat} : ∀ {l : List V} {off : Nat}, CRel σ m blk off l → ∃ xs : List Value, xs.length = l.length ∧ LRel σ m l xs ∧ ∀ j v, xs[j]? = some v → m.cell? ⟨blk, off + j, none⟩ = some v
  | [], _, _ => ⟨[], rfl, LRel.nil, by simp⟩
  | v :: l, off, h => by
    simp only [CRel] at h
    obtain ⟨⟨x, h1, h2⟩, h3⟩ := h
    obtain ⟨xs, hl, hr, hx⟩ := CRel.get h3
    refine ⟨x :: xs, by simp [hl], LRel.cons h2 hr, ?_⟩
    intro j u hj
    cases j with
    | zero => simp at hj; subst hj; exact h1
    | succ j => rw [show off + (j + 1) = off + 1 + j from by omega]; exact hx j u (by simpa using hj)

theorem CRel.drop {σ : Sg} {m : World} {blk : Nat} : ∀ {l : List V} {off : Nat} (n : Nat), CRel σ m blk off l → CRel σ m blk (off + n) (l.drop n)
  | _, _, 0, h => by simpa using h
  | [], _, n + 1, _ => by simp only [List.drop_nil, CRel]
  | v :: l, off, n + 1, h => by
    simp only [CRel] at h
    have := CRel.drop n h.2
    rw [show off + (n + 1) = off + 1 + n from by omega]
    simpa using this

theorem CRel.take {σ : Sg} {m : World} {blk : Nat} : ∀ {l : List V} {off : Nat} (n : Nat), CRel σ m blk off l → CRel σ m blk off (l.take n)
  | _, _, 0, _ => by simp only [List.take_zero, CRel]
  | [], _, n + 1, _ => by simp only [List.take_nil, CRel]
  | v :: l, off, n + 1, h => by
    simp only [CRel] at h
    simp only [List.take_succ_cons, CRel]
    exact ⟨h.1, CRel.take n h.2⟩

theorem WRel.cell_old {σ : Sg} {m w : World} {h : H} (hw : WRel σ m h w) {a : Addr} {v : Value} (hc : m.cell? a = some v) : w.cell? a = some v := by
  have hlt : a.block < m.heap.size := by
    rcases Nat.lt_or_ge a.block m.heap.size with h1 | h1
    · exact h1
    · simp [World.cell?, Array.getElem?_eq_none h1] at hc
  simpa [World.cell?, hw.old a.block hlt] using hc

theorem Lies.get {σ : Sg} {m w : World} {blk off size : Nat} {l : List V} (h : Lies σ m w blk off size l) :
    ∃ xs : List Value, xs.length = l.length ∧ LRel σ m l xs ∧ ∀ j v, xs[j]? = some v → w.cell? ⟨blk, off + j, none⟩ = some v := by
  obtain ⟨c, e, fr, hb, hs, hle, _, hr, _⟩ := h
  refine ⟨(c.toList.drop off).take l.length, hr.length, hr, ?_⟩
  intro j v hj
  rw [List.getElem?_take] at hj
  split at hj
  · rw [List.getElem?_drop] at hj
    simpa [World.cell?, hb] using hj
  · cases hj

/-- the cells that a pointer's abstract cells stand for. -/
theorem at_rel {σ : Sg} {m w : World} {h : H} (hw : WRel σ m h w) {p : V} {x : Value} {n : Nat} {r : List V} (hp : VRel σ m p x) (ha : h.at p n = some r) :
    ∃ blk off xs, x = .pointer (some ⟨blk, off, none⟩) ∧ xs.length = n ∧ LRel σ m r xs ∧ ∀ j v, xs[j]? = some v → w.cell? ⟨blk, off + j, none⟩ = some v := by
  cases p with
  | ptr b o =>
    have ha' : cutO (h.cells b) o n = some r := ha
    unfold cutO H.cells at ha'
    cases hg : h.get b with
    | none => simp [hg, cellsOf] at ha'
    | some ob =>
      cases ob with
      | mp es => simp [hg, cellsOf] at ha'
      | cells l =>
        simp only [hg, cellsOf] at ha'
        obtain ⟨hr, hl⟩ := cut_some ha'
        simp only [VRel, PRel] at hp
        rcases hw.cells b l hg with hn | ⟨blk, off, size, hs, hlies⟩
        · rw [hn] at hp; exact hp.elim
        · rw [hs] at hp
          obtain ⟨xs, hxl, hxr, hxc⟩ := hlies.get
          refine ⟨blk, off + o, (xs.drop o).take n, hp, ?_, ?_, ?_⟩
          · have := (LRel.take n (LRel.drop o hxr)).length
            rw [this, ← hr, hl]
          · subst hr; exact LRel.take n (LRel.drop o hxr)
          · intro j v hj
            rw [List.getElem?_take] at hj
            split at hj
            · rw [List.getElem?_drop] at hj
              rw [show off + o + j = off + (o + j) from by omega]
              exact hxc _ _ hj
            · cases hj
  | rp l =>
    have ha' : cut l 0 n = some r := ha
    obtain ⟨hr, hl⟩ := cut_some ha'
    simp only [VRel] at hp
    obtain ⟨blk, off, rfl, hc⟩ := hp
    obtain ⟨xs, hxl, hxr, hxc⟩ := hc.get
    refine ⟨blk, off, xs.take n, rfl, ?_, ?_, ?_⟩
    · have := (LRel.take n hxr).length
      rw [this]
      rw [hr] at hl
      simpa using hl
    · subst hr; exact LRel.take n hxr
    · intro j v hj
      rw [List.getElem?_take] at hj
      split at hj
      · exact hw.cell_old (hxc j v hj)
      · cases hj
  | _ => cases ha

theorem at1_at {h : H} {p : V} {v : V} (ha : h.at1 p = some v) : h.at p 1 = some [v] := by
  have key : ∀ {l : List V} {o : Nat}, nthO l o = some v → cut l o 1 = some [v] := by
    intro l o hv
    rw [nthO_eq] at hv
    have hlt : o < l.length := (List.getElem?_eq_some_iff.1 hv).1
    rw [cut_of l o 1 (by omega)]
    congr 1
    rw [List.take_one, List.head?_drop, hv]; rfl
  cases p with
  | ptr b o =>
    have ha' : nthOO (h.cells b) o = some v := ha
    show cutO (h.cells b) o 1 = _
    cases hg : h.cells b with
    | none => rw [hg] at ha'; cases ha'
    | some l => rw [hg] at ha'; exact key ha'
  | rp l =>
    have ha' : nthO l 0 = some v := ha
    exact key ha'
  | _ => cases ha

/-- a block's cells exchanged. -/
def setC (w : World) (blk : Nat) (c : Array Value) : World :=
  { w with heap := w.heap.modify blk fun | .cells _ e fr => .cells c e fr | o => o }

theorem setC_size (w : World) (blk : Nat) (c : Array Value) : (setC w blk c).heap.size = w.heap.size := by simp [setC]
theorem setC_get (w : World) (blk : Nat) (c : Array Value) (i : Nat) : (setC w blk c).heap[i]? = if i = blk then (w.heap[i]?).map (fun | .cells _ e fr => .cells c e fr | o => o) else w.heap[i]? := by
  simp only [setC, Array.getElem?_modify]
  by_cases h : blk = i
  · subst h; simp
  · rw [if_neg h, if_neg (fun e => h e.symm)]
theorem setC_self {w : World} {blk : Nat} {c : Array Value} {e : TypeId} {fr : Nat × Nat} (h : w.heap[blk]? = some (.cells c e fr)) : setC w blk c = w := by
  have : w.heap.modify blk (fun | .cells _ e fr => .cells c e fr | o => o) = w.heap := by
    apply Array.ext_getElem?
    intro i
    rw [Array.getElem?_modify]
    by_cases hi : blk = i
    · subst hi; simp [h]
    · simp [hi]
  simp [setC, this]
theorem setC_setC (w : World) (blk : Nat) (c d : Array Value) : setC (setC w blk c) blk d = setC w blk d := by
  have : (w.heap.modify blk (fun | .cells _ e fr => .cells c e fr | o => o)).modify blk (fun | .cells _ e fr => .cells d e fr | o => o) = w.heap.modify blk (fun | .cells _ e fr => .cells d e fr | o => o) := by
    apply Array.ext_getElem?
    intro i
    rw [Array.getElem?_modify, Array.getElem?_modify, Array.getElem?_modify]
    by_cases hi : blk = i
    · subst hi
      simp only [if_true]
      cases w.heap[blk]? with
      | none => rfl
      | some o => cases o <;> rfl
    · simp [hi]
  simp [setC, this]

theorem setCell_setC {w : World} {blk off : Nat} {c : Array Value} {e : TypeId} {fr : Nat × Nat} (h : w.heap[blk]? = some (.cells c e fr)) (v : Value) :
    w.setCell ⟨blk, off, none⟩ v = setC w blk (c.setIfInBounds off v) := by
  have : w.heap.modify blk (fun | .cells c e fr => .cells (c.setIfInBounds off v) e fr | o => o) = w.heap.modify blk (fun | .cells _ e fr => .cells (c.setIfInBounds off v) e fr | o => o) := by
    apply Array.ext_getElem?
    intro i
    rw [Array.getElem?_modify, Array.getElem?_modify]
    by_cases hi : blk = i
    · subst hi; simp [h]
    · simp [hi]
  simp only [World.setCell, setC, Option.isSome_none, Bool.false_eq_true, if_false]
  exact congrArg (fun hp => ({ heap := hp, tape := w.tape, drawn := w.drawn, os := w.os, output := w.output } : World)) this

theorem run_storeCells {P : Program} {blk off : Nat} : ∀ (xs : List Value) (i : Nat) (w : World) (c : Array Value) (e : TypeId) (fr : Nat × Nat), w.heap[blk]? = some (.cells c e fr) → off + i + xs.length ≤ c.size →
    (∀ j, j < c.size → ¬ (fr.1 ≤ j ∧ j < fr.2)) → (∀ x ∈ xs, x.atom = true) →
    (storeCells ⟨blk, off, none⟩ xs i).run P w = .ok () (setC w blk (c.toList.take (off + i) ++ xs ++ c.toList.drop (off + i + xs.length)).toArray)
  | [], i, w, c, e, fr, hb, _, _, _ => by
    simp only [storeCells, List.append_nil, List.length_nil, Nat.add_zero, List.take_append_drop, Array.toArray_toList]
    rw [setC_self hb]; rfl
  | x :: xs, i, w, c, e, fr, hb, hl, hf, ha => by
    simp only [List.length_cons] at hl
    have hlt : off + i < c.size := by omega
    have hcell : w.cell? ⟨blk, off + i, none⟩ = some c[off + i] := by simp [World.cell?, hb, hlt]
    have hfr : w.frozen? ⟨blk, off + i, none⟩ = false := by
      have := hf (off + i) hlt
      simp only [World.frozen?, hb, Bool.and_eq_false_iff, decide_eq_false_iff_not]
      by_cases h1 : fr.1 ≤ off + i
      · right; intro h2; exact this ⟨h1, h2⟩
      · left; exact h1
    have hst : (store ((⟨blk, off, none⟩ : Addr).add i) x).run P w = .ok () (setC w blk (c.setIfInBounds (off + i) x)) := by
      rw [add_none, run_store P w _ x _ (atom_oneCell x (ha x (by simp))), hcell, hfr, setCell_setC hb]
      rfl
    have hb' : (setC w blk (c.setIfInBounds (off + i) x)).heap[blk]? = some (.cells (c.setIfInBounds (off + i) x) e fr) := by
      rw [setC_get, if_pos rfl, hb]; rfl
    simp only [storeCells, Sem.run_bind, hst, Result.andThen_ok]
    rw [run_storeCells xs (i + 1) _ _ e fr hb' (by simp; omega) (by simpa using hf) (fun y hy => ha y (by simp [hy])), setC_setC]
    congr 2
    apply Array.ext'
    simp only [Array.toList_setIfInBounds]
    apply List.ext_getElem?
    intro j
    simp only [List.getElem?_append, List.length_append, List.length_take, List.length_set, List.getElem?_take, List.getElem?_drop, List.getElem?_set, List.length_cons, Array.length_toList, List.getElem?_cons]
    have hlt' : off + i < c.toList.length := by simpa using hlt
    have e1 : min (off + i) c.toList.length = off + i := by omega
    have e2 : min (off + (i + 1)) c.toList.length = off + i + 1 := by omega
    simp only [Array.length_toList] at e1 e2
    rw [e1, e2]
    by_cases h1 : j < off + i
    · simp only [show j < off + i + 1 + xs.length from by omega, show j < off + i + 1 from by omega, show j < off + (i + 1) from by omega, show ¬ off + i = j from by omega, h1, if_true, if_false,
        show j < off + i + (xs.length + 1) from by omega]
    · by_cases h2 : j = off + i
      · subst h2
        simp [hlt, show off + i < off + i + 1 + xs.length from by omega, show off + i < off + (i + 1) from by omega]
      · by_cases h3 : j < off + i + 1 + xs.length
        · simp only [h3, h1, show j < off + i + (xs.length + 1) from by omega, show ¬ j < off + i + 1 from by omega, if_true, if_false, show ¬ j - (off + i) = 0 from by omega]
          rw [show j - (off + i + 1) = j - (off + i) - 1 from by omega]
        · simp only [h3, h1, show ¬ j < off + i + (xs.length + 1) from by omega, if_false]
          rw [show off + (i + 1) + xs.length + (j - (off + i + 1 + xs.length)) = j from by omega, show off + i + (xs.length + 1) + (j - (off + i + (xs.length + 1))) = j from by omega]
          rw [if_neg (by omega)]

end A
end Go.Proofs.YtcohlhplpogopaaGreat

namespace Go.Proofs.YtcohlhplpogopaaGreat
namespace A

def upd (σ : Sg) (b : Nat) (t : Tgt) : Sg := fun b' => if b' = b then some t else σ b'

theorem H.get_set (h : H) (b c : Nat) (x : Option Obj) : (h.set b x).get c = if c = b then x else h.get c := T.get_set _ _ _ _
theorem H.get_new (h : H) (c : Nat) (x : Obj) : (h.new x).get c = if c = h.next then some x else h.get c := T.get_set _ _ _ _
theorem H.next_set (h : H) (b : Nat) (x : Option Obj) : (h.set b x).next = h.next := rfl
theorem H.next_new (h : H) (x : Obj) : (h.new x).next = h.next + 1 := rfl

theorem upd_ext {σ : Sg} {b lo hi : Nat} {t : Tgt} (hn : σ b = none) (h1 : lo ≤ b) (h2 : b < hi) : Ext σ (upd σ b t) lo hi := by
  intro c
  by_cases e : c = b
  · subst e
    exact ⟨fun u hu => (by rw [hn] at hu; cases hu), fun _ hc => (by omega)⟩
  · simp only [upd, if_neg e]
    exact ⟨fun _ hu => .inl hu, fun hu _ => hu⟩

theorem Tg.upd {σ : Sg} {b c blk : Nat} {t : Tgt} (h : Tg (A.upd σ b t) c blk) : (c = b ∧ ((∃ o s, t = .at blk o s) ∨ t = .mp blk)) ∨ (c ≠ b ∧ Tg σ c blk) := by
  unfold Tg A.upd at h
  by_cases e : c = b
  · left
    refine ⟨e, ?_⟩
    simp only [e, if_true] at h
    rcases h with ⟨o, s, h⟩ | h
    · exact .inl ⟨o, s, by cases h; rfl⟩
    · exact .inr (by cases h; rfl)
  · simp only [e, if_false] at h
    exact .inr ⟨e, h⟩

theorem Lies.ext {σ σ' : Sg} {m w w' : World} {blk off size lo hi : Nat} {l : List V} (h : Lies σ m w blk off size l) (he : Ext σ σ' lo hi) (hb : w'.heap[blk]? = w.heap[blk]?) :
    Lies σ' m w' blk off size l := by
  obtain ⟨c, e, fr, h1, h2, h3, h4, h5, h6⟩ := h
  exact ⟨c, e, fr, hb.trans h1, h2, h3, h4, LRel.ext he _ _ h5, h6⟩

theorem LiesM.ext {σ σ' : Sg} {m w w' : World} {blk lo hi : Nat} {es : List (V × V)} (h : LiesM σ m w blk es) (he : Ext σ σ' lo hi) (hb : w'.heap[blk]? = w.heap[blk]?) : LiesM σ' m w' blk es := by
  obtain ⟨a, k, h1, h2⟩ := h
  exact ⟨a, k, hb.trans h1, ERel.ext he _ _ h2⟩

def pushW (w : World) (o : Go.Obj) : World := { w with heap := w.heap.push o }

theorem pushW_get (w : World) (o : Go.Obj) (i : Nat) : (pushW w o).heap[i]? = if i = w.heap.size then some o else w.heap[i]? := by
  simp only [pushW, Array.getElem?_push]

/-- a new object. -/
theorem WRel.push {σ : Sg} {m w : World} {h : H} (hw : WRel σ m h w) (hσ : σ h.next = none) (x : Obj) (o : Go.Obj) (t : Tgt)
    (ht : (∃ l c e fr, x = .cells l ∧ o = .cells c e fr ∧ t = .at w.heap.size 0 c.size ∧ l.length ≤ c.size ∧ (∀ i, i < c.size → ¬ (fr.1 ≤ i ∧ i < fr.2)) ∧ LRel σ m l (c.toList.take l.length) ∧ allAtoms l = true ∧ (fr.1 ≤ c.size ∧ c.size < fr.2 → allB l = true)) ∨
      (∃ es a k, x = .mp es ∧ o = .map a k ∧ t = .mp w.heap.size ∧ ERel σ m es a.toList)) :
    WRel (upd σ h.next t) m (h.new x) (pushW w o) ∧ Good σ (upd σ h.next t) h (h.new x) w (pushW w o) := by
  have hext : Ext σ (upd σ h.next t) h.next (h.next + 1) := upd_ext hσ (Nat.le_refl _) (Nat.lt_succ_self _)
  have htg : (∃ o' s, t = .at w.heap.size o' s) ∨ t = .mp w.heap.size := by
    rcases ht with ⟨l, c, e, fr, _, _, h3, _⟩ | ⟨es, a, k, _, _, h3, _⟩
    · exact .inl ⟨_, _, h3⟩
    · exact .inr h3
  have htg' : ∀ blk, ((∃ o' s, t = .at blk o' s) ∨ t = .mp blk) → blk = w.heap.size := by
    intro blk hb
    rcases htg with ⟨o1, s1, e1⟩ | e1 <;> rcases hb with ⟨o2, s2, e2⟩ | e2 <;> rw [e1] at e2 <;> cases e2 <;> rfl
  have hkeep : ∀ blk, blk < w.heap.size → (pushW w o).heap[blk]? = w.heap[blk]? := by
    intro blk hb; rw [pushW_get, if_neg (by omega)]
  refine ⟨⟨?_, ?_, ?_, ?_, ?_, ?_, ?_⟩, ⟨?_, hext, ?_, ?_, ?_, ?_, ⟨rfl, rfl, rfl⟩, fun b' t' _ ht' => (by
    have hne : b' ≠ h.next := by rintro rfl; rw [hσ] at ht'; cases ht'
    simp [upd, hne, ht'])⟩⟩
  · simp [pushW]; have := hw.size; omega
  · intro i hi
    rw [hkeep i (Nat.lt_of_lt_of_le hi hw.size)]
    exact hw.old i hi
  · intro b l hg
    rw [H.get_new] at hg
    by_cases e : b = h.next
    · subst e
      rw [if_pos rfl] at hg
      right
      rcases ht with ⟨l', c, e, fr, hx, ho, h3, h4, h5, h6, h7⟩ | ⟨es, a, k, hx, _, _, _⟩
      · rw [hx] at hg; cases hg
        refine ⟨w.heap.size, 0, c.size, by simp [upd, h3], c, e, fr, by rw [pushW_get, if_pos rfl, ho], rfl, by omega, h5, ?_, h7⟩
        exact LRel.ext hext _ _ (by simpa using h6)
      · rw [hx] at hg; cases hg
    · rw [if_neg e] at hg
      rcases hw.cells b l hg with hn | ⟨blk, off, size, hs, hl⟩
      · exact .inl (by simp [upd, e, hn])
      · have hb := (hw.bound b blk (.inl ⟨_, _, hs⟩)).2
        exact .inr ⟨blk, off, size, by simp [upd, e, hs], hl.ext hext (hkeep blk hb)⟩
  · intro b es hg
    rw [H.get_new] at hg
    by_cases e : b = h.next
    · subst e
      rw [if_pos rfl] at hg
      right
      rcases ht with ⟨l', c, e, fr, hx, _⟩ | ⟨es', a, k, hx, ho, h3, h4⟩
      · rw [hx] at hg; cases hg
      · rw [hx] at hg; cases hg
        exact ⟨w.heap.size, by simp [upd, h3], a, k, by rw [pushW_get, if_pos rfl, ho], ERel.ext hext _ _ h4⟩
    · rw [if_neg e] at hg
      rcases hw.maps b es hg with hn | ⟨blk, hs, hl⟩
      · exact .inl (by simp [upd, e, hn])
      · have hb := (hw.bound b blk (.inr hs)).2
        exact .inr ⟨blk, by simp [upd, e, hs], hl.ext hext (hkeep blk hb)⟩
  · intro b b' blk h1 h2
    rcases h1.upd with ⟨e1, t1⟩ | ⟨e1, t1⟩ <;> rcases h2.upd with ⟨e2, t2⟩ | ⟨e2, t2⟩
    · rw [e1, e2]
    · have := htg' blk t1; have := (hw.bound b' blk t2).2; omega
    · have := htg' blk t2; have := (hw.bound b blk t1).2; omega
    · exact hw.inj b b' blk t1 t2
  · intro b blk hb
    have hsz : (pushW w o).heap.size = w.heap.size + 1 := by simp [pushW]
    rcases hb.upd with ⟨_, t1⟩ | ⟨_, t1⟩
    · have := htg' blk t1; have := hw.size; omega
    · have := hw.bound b blk t1; omega
  · intro b hb
    rw [H.next_new] at hb
    rw [H.get_new, if_neg (by omega)]
    exact hw.fresh b (by omega)
  · rw [H.next_new]; omega
  · simp [pushW]
  · intro blk hb _; exact hkeep blk hb
  · intro b blk hn hb
    rcases hb.upd with ⟨_, t1⟩ | ⟨_, t1⟩
    · left; have := htg' blk t1; omega
    · rcases t1 with ⟨o', s, e⟩ | e <;> simp [hn] at e
  · intro b hb h1
    rw [H.next_new] at h1
    rw [H.get_new, if_neg (by omega)]
    exact hb

theorem WRel.pushCells {σ : Sg} {m w : World} {h : H} (hw : WRel σ m h w) (hσ : σ h.next = none) {l : List V} {c : Array Value} {e : TypeId} {fr : Nat × Nat} (hl : l.length ≤ c.size)
    (hfr : ∀ i, i < c.size → ¬ (fr.1 ≤ i ∧ i < fr.2)) (hr : LRel σ m l (c.toList.take l.length)) (ha : allAtoms l = true) (hu : fr.1 ≤ c.size ∧ c.size < fr.2 → allB l = true) :
    WRel (upd σ h.next (.at w.heap.size 0 c.size)) m (h.new (.cells l)) (pushW w (.cells c e fr)) ∧ Good σ (upd σ h.next (.at w.heap.size 0 c.size)) h (h.new (.cells l)) w (pushW w (.cells c e fr)) :=
  hw.push hσ _ _ _ (.inl ⟨l, c, e, fr, rfl, rfl, rfl, hl, hfr, hr, ha, hu⟩)

theorem WRel.pushMap {σ : Sg} {m w : World} {h : H} (hw : WRel σ m h w) (hσ : σ h.next = none) :
    WRel (upd σ h.next (.mp w.heap.size)) m (h.new (.mp [])) (pushW w (.map #[] 0)) ∧ Good σ (upd σ h.next (.mp w.heap.size)) h (h.new (.mp [])) w (pushW w (.map #[] 0)) :=
  hw.push hσ _ _ _ (.inr ⟨[], #[], 0, rfl, rfl, rfl, rfl⟩)

/-- cells of an object change in place. -/
theorem WRel.poke {σ : Sg} {m w : World} {h : H} (hw : WRel σ m h w) {b blk off size : Nat} {l l' : List V} {c c' : Array Value} {e : TypeId} {fr : Nat × Nat} (hg : h.get b = some (.cells l))
    (hs : σ b = some (.at blk off size)) (hb : w.heap[blk]? = some (.cells c e fr)) (hc : c'.size = c.size) (hle : off + l'.length ≤ size) (hr : LRel σ m l' ((c'.toList.drop off).take l'.length))
    (ha : allAtoms l' = true) (hu : fr.1 ≤ size ∧ size < fr.2 → allB l' = true) : WRel σ m (h.set b (some (.cells l'))) (setC w blk c') ∧ Good σ σ h (h.set b (some (.cells l'))) w (setC w blk c') := by
  have hbd := hw.bound b blk (.inl ⟨_, _, hs⟩)
  have hkeep : ∀ i, i ≠ blk → (setC w blk c').heap[i]? = w.heap[i]? := by intro i hi; rw [setC_get, if_neg hi]
  refine ⟨⟨?_, ?_, ?_, ?_, hw.inj, ?_, ?_⟩, ⟨Nat.le_refl _, Ext.refl _ _ _, ?_, ?_, ?_, ?_, ⟨rfl, rfl, rfl⟩, fun _ _ _ ht' => ht'⟩⟩
  · rw [setC_size]; exact hw.size
  · intro i hi
    rw [hkeep i (by omega)]; exact hw.old i hi
  · intro b' k hg'
    rw [H.get_set] at hg'
    by_cases e1 : b' = b
    · subst e1
      rw [if_pos rfl] at hg'; cases hg'
      right
      rcases hw.cells b' l hg with hn | ⟨blk', off', size', hs', hl⟩
      · rw [hs] at hn; cases hn
      · rw [hs] at hs'; cases hs'
        obtain ⟨c0, e0, fr0, h1, h2, _, h4, _, _⟩ := hl
        rw [hb] at h1; cases h1
        exact ⟨blk, off, size, hs, c', e, fr, by rw [setC_get, if_pos rfl, hb]; rfl, hc.trans h2, hle, h4, hr, ha, hu⟩
    · rw [if_neg e1] at hg'
      rcases hw.cells b' k hg' with hn | ⟨blk', off', size', hs', hl⟩
      · exact .inl hn
      · refine .inr ⟨blk', off', size', hs', hl.ext (Ext.refl _ 0 0) (hkeep blk' ?_)⟩
        rintro rfl
        exact e1 (hw.inj b' b _ (.inl ⟨_, _, hs'⟩) (.inl ⟨_, _, hs⟩))
  · intro b' es hg'
    rw [H.get_set] at hg'
    by_cases e1 : b' = b
    · subst e1; rw [if_pos rfl] at hg'; cases hg'
    · rw [if_neg e1] at hg'
      rcases hw.maps b' es hg' with hn | ⟨blk', hs', hl⟩
      · exact .inl hn
      · refine .inr ⟨blk', hs', hl.ext (Ext.refl _ 0 0) (hkeep blk' ?_)⟩
        rintro rfl
        exact e1 (hw.inj b' b _ (.inr hs') (.inl ⟨_, _, hs⟩))
  · intro b' blk' ht; rw [setC_size]; exact hw.bound b' blk' ht
  · intro b' hb'
    rw [H.next_set] at hb'
    rw [H.get_set]
    by_cases e1 : b' = b
    · subst e1; have := hw.fresh b' hb'; rw [hg] at this; cases this
    · rw [if_neg e1]; exact hw.fresh b' hb'
  · rw [setC_size]; exact Nat.le_refl _
  · intro i _ hno
    refine hkeep i ?_
    rintro rfl
    exact hno ⟨b, .inl ⟨_, _, hs⟩, by rw [hg]; simp⟩
  · intro b' blk' hn ht
    rcases ht with ⟨o', s, e1⟩ | e1 <;> simp [hn] at e1
  · intro b' hb' _
    rw [H.get_set]
    by_cases e1 : b' = b
    · subst e1; rw [hg] at hb'; cases hb'
    · rw [if_neg e1]; exact hb'

/-- entries of a map change. -/
theorem WRel.pokeM {σ : Sg} {m w : World} {h : H} (hw : WRel σ m h w) {b blk : Nat} {es es' : List (V × V)} {a' : Array MapEntry} {k' : Nat} (hg : h.get b = some (.mp es))
    (hs : σ b = some (.mp blk)) (hr : ERel σ m es' a'.toList) :
    WRel σ m (h.set b (some (.mp es'))) { w with heap := w.heap.setIfInBounds blk (.map a' k') } ∧ Good σ σ h (h.set b (some (.mp es'))) w { w with heap := w.heap.setIfInBounds blk (.map a' k') } := by
  have hbd := hw.bound b blk (.inr hs)
  have hkeep : ∀ i, i ≠ blk → (w.heap.setIfInBounds blk (.map a' k'))[i]? = w.heap[i]? := by intro i hi; rw [Array.getElem?_setIfInBounds_ne (Ne.symm hi)]
  refine ⟨⟨?_, ?_, ?_, ?_, hw.inj, ?_, ?_⟩, ⟨Nat.le_refl _, Ext.refl _ _ _, ?_, ?_, ?_, ?_, ⟨rfl, rfl, rfl⟩, fun _ _ _ ht' => ht'⟩⟩
  · simpa using hw.size
  · intro i hi
    show (w.heap.setIfInBounds blk (.map a' k'))[i]? = _
    rw [hkeep i (by omega)]; exact hw.old i hi
  · intro b' k hg'
    rw [H.get_set] at hg'
    by_cases e1 : b' = b
    · subst e1; rw [if_pos rfl] at hg'; cases hg'
    · rw [if_neg e1] at hg'
      rcases hw.cells b' k hg' with hn | ⟨blk', off', size', hs', hl⟩
      · exact .inl hn
      · refine .inr ⟨blk', off', size', hs', hl.ext (Ext.refl _ 0 0) (hkeep blk' ?_)⟩
        rintro rfl
        exact e1 (hw.inj b' b _ (.inl ⟨_, _, hs'⟩) (.inr hs))
  · intro b' es0 hg'
    rw [H.get_set] at hg'
    by_cases e1 : b' = b
    · subst e1
      rw [if_pos rfl] at hg'; cases hg'
      exact .inr ⟨blk, hs, a', k', by simp [hbd.2], hr⟩
    · rw [if_neg e1] at hg'
      rcases hw.maps b' es0 hg' with hn | ⟨blk', hs', hl⟩
      · exact .inl hn
      · refine .inr ⟨blk', hs', hl.ext (Ext.refl _ 0 0) (hkeep blk' ?_)⟩
        rintro rfl
        exact e1 (hw.inj b' b _ (.inr hs') (.inr hs))
  · intro b' blk' ht; simpa using hw.bound b' blk' ht
  · intro b' hb'
    rw [H.next_set] at hb'
    rw [H.get_set]
    by_cases e1 : b' = b
    · subst e1; have := hw.fresh b' hb'; rw [hg] at this; cases this
    · rw [if_neg e1]; exact hw.fresh b' hb'
  · simp
  · intro i _ hno
    refine hkeep i ?_
    rintro rfl
    exact hno ⟨b, .inr hs, by rw [hg]; simp⟩
  · intro b' blk' hn ht
    rcases ht with ⟨o', s, e1⟩ | e1 <;> simp [hn] at e1
  · intro b' hb' _
    rw [H.get_set]
    by_cases e1 : b' = b
    · subst e1; rw [hg] at hb'; cases hb'
    · rw [if_neg e1]; exact hb'

/-- an object of cells is let go. -/
def kill (σ : Sg) (b : Nat) : Sg := fun b' => if b' = b then (match σ b with | some (.at _ _ _) => some .dead | t => t) else σ b'

theorem kill_ext (σ : Sg) (b lo hi : Nat) : Ext σ (kill σ b) lo hi := by
  intro c
  by_cases e : c = b
  · subst e
    simp only [kill, if_true]
    refine ⟨fun t ht => ?_, fun hn _ => by rw [hn]⟩
    rw [ht]
    cases t with
    | «at» blk o s => exact .inr ⟨rfl, _, _, _, rfl⟩
    | _ => exact .inl rfl
  · simp only [kill, if_neg e]
    exact ⟨fun _ hu => .inl hu, fun hu _ => hu⟩

theorem Tg.kill {σ : Sg} {b c blk : Nat} (h : Tg (A.kill σ b) c blk) : Tg σ c blk ∧ (c = b → σ b = some (.mp blk)) := by
  unfold Tg A.kill at h
  by_cases e : c = b
  · subst e
    simp only [if_true] at h
    cases hs : σ c with
    | none => simp [hs] at h
    | some t =>
      cases t with
      | dead => simp [hs] at h
      | «at» _ _ _ => simp [hs] at h
      | mp k =>
        simp only [hs] at h
        rcases h with ⟨_, _, h⟩ | h
        · cases h
        · cases h; exact ⟨.inr hs, fun _ => rfl⟩
  · simp only [if_neg e] at h
    exact ⟨h, fun e' => absurd e' e⟩

theorem WRel.killed {σ : Sg} {m w : World} {h : H} (hw : WRel σ m h w) (b : Nat) (hgb : h.get b ≠ none) :
    WRel (kill σ b) m (h.set b none) w ∧ Good σ (kill σ b) h (h.set b none) w w := by
  refine ⟨⟨hw.size, hw.old, ?_, ?_, ?_, ?_, ?_⟩, ⟨Nat.le_refl _, kill_ext _ _ _ _, Nat.le_refl _, fun _ _ _ => rfl, ?_, ?_, ⟨rfl, rfl, rfl⟩, fun b' t' hb' ht' => (by
    have hne : b' ≠ b := by rintro rfl; exact hgb hb'
    simp [kill, hne, ht'])⟩⟩
  · intro b' k hg'
    rw [H.get_set] at hg'
    by_cases e1 : b' = b
    · rw [if_pos e1] at hg'; cases hg'
    · rw [if_neg e1] at hg'
      rcases hw.cells b' k hg' with hn | ⟨blk', off', size', hs', hl⟩
      · exact .inl (by simp [kill, e1, hn])
      · exact .inr ⟨blk', off', size', by simp [kill, e1, hs'], hl.ext (kill_ext σ b 0 0) rfl⟩
  · intro b' es hg'
    rw [H.get_set] at hg'
    by_cases e1 : b' = b
    · rw [if_pos e1] at hg'; cases hg'
    · rw [if_neg e1] at hg'
      rcases hw.maps b' es hg' with hn | ⟨blk', hs', hl⟩
      · exact .inl (by simp [kill, e1, hn])
      · exact .inr ⟨blk', by simp [kill, e1, hs'], hl.ext (kill_ext σ b 0 0) rfl⟩
  · intro b1 b2 blk h1 h2; exact hw.inj b1 b2 blk h1.kill.1 h2.kill.1
  · intro b1 blk h1; exact hw.bound b1 blk h1.kill.1
  · intro b' hb'
    rw [H.next_set] at hb'
    rw [H.get_set]
    by_cases e1 : b' = b
    · rw [if_pos e1]
    · rw [if_neg e1]; exact hw.fresh b' hb'
  · intro b' blk hn ht
    have := ht.kill.1
    rcases this with ⟨o', s, e1⟩ | e1 <;> simp [hn] at e1
  · intro b' hb' _
    rw [H.get_set]
    by_cases e1 : b' = b
    · rw [if_pos e1]
    · rw [if_neg e1]; exact hb'

/-- its cells, or some of them, become another object's. -/
theorem WRel.taken {σ : Sg} {m w : World} {h : H} (hw : WRel σ m h w) {b blk off size off' : Nat} {l l' : List V} (hg : h.get b = some (.cells l)) (hs : σ b = some (.at blk off size))
    (hσ : σ h.next = none) (hl : Lies σ m w blk off' size l') :
    WRel (upd (kill σ b) h.next (.at blk off' size)) m ((h.set b none).new (.cells l')) w ∧
      Good σ (upd (kill σ b) h.next (.at blk off' size)) h ((h.set b none).new (.cells l')) w w := by
  have hbn : b ≠ h.next := by rintro rfl; rw [hs] at hσ; cases hσ
  have hk : kill σ b h.next = none := by simp [kill, Ne.symm hbn, hσ]
  have hext : Ext σ (upd (kill σ b) h.next (.at blk off' size)) h.next (h.next + 1) := by
    refine (kill_ext σ b h.next h.next).trans (upd_ext (lo := h.next) hk (Nat.le_refl _) (Nat.lt_succ_self _)) (Nat.le_refl _) (by omega)
  have htg : ∀ c blk', Tg (upd (kill σ b) h.next (.at blk off' size)) c blk' → (c = h.next ∧ blk' = blk) ∨ (c ≠ h.next ∧ c ≠ b ∧ Tg σ c blk') := by
    intro c blk' ht
    rcases ht.upd with ⟨e1, t1⟩ | ⟨e1, t1⟩
    · rcases t1 with ⟨_, _, t1⟩ | t1
      · cases t1; exact .inl ⟨e1, rfl⟩
      · cases t1
    · refine .inr ⟨e1, ?_, t1.kill.1⟩
      rintro rfl
      have := t1.kill.2 rfl
      rw [hs] at this; cases this
  refine ⟨⟨hw.size, hw.old, ?_, ?_, ?_, ?_, ?_⟩, ⟨?_, hext, Nat.le_refl _, fun _ _ _ => rfl, ?_, ?_, ⟨rfl, rfl, rfl⟩, fun b' t' hb' ht' => (by
    have hne : b' ≠ b := by rintro rfl; rw [hg] at hb'; cases hb'
    have hne' : b' ≠ h.next := by rintro rfl; rw [hσ] at ht'; cases ht'
    simp [upd, kill, hne, hne', ht'])⟩⟩
  · intro b' k hg'
    rw [H.get_new, H.next_set, H.get_set] at hg'
    by_cases e0 : b' = h.next
    · rw [if_pos e0] at hg'; cases hg'
      exact .inr ⟨blk, off', size, by simp [upd, e0], hl.ext hext rfl⟩
    · rw [if_neg e0] at hg'
      by_cases e1 : b' = b
      · rw [if_pos e1] at hg'; cases hg'
      · rw [if_neg e1] at hg'
        rcases hw.cells b' k hg' with hn | ⟨blk', o', size', hs', hl'⟩
        · exact .inl (by simp [upd, kill, e0, e1, hn])
        · exact .inr ⟨blk', o', size', by simp [upd, kill, e0, e1, hs'], hl'.ext hext rfl⟩
  · intro b' es hg'
    rw [H.get_new, H.next_set, H.get_set] at hg'
    by_cases e0 : b' = h.next
    · rw [if_pos e0] at hg'; cases hg'
    · rw [if_neg e0] at hg'
      by_cases e1 : b' = b
      · rw [if_pos e1] at hg'; cases hg'
      · rw [if_neg e1] at hg'
        rcases hw.maps b' es hg' with hn | ⟨blk', hs', hl'⟩
        · exact .inl (by simp [upd, kill, e0, e1, hn])
        · exact .inr ⟨blk', by simp [upd, kill, e0, e1, hs'], hl'.ext hext rfl⟩
  · intro b1 b2 blk' h1 h2
    rcases htg b1 blk' h1 with ⟨e1, t1⟩ | ⟨e1, n1, t1⟩ <;> rcases htg b2 blk' h2 with ⟨e2, t2⟩ | ⟨e2, n2, t2⟩
    · rw [e1, e2]
    · subst t1; exact absurd (hw.inj b2 b _ t2 (.inl ⟨_, _, hs⟩)) n2
    · subst t2; exact absurd (hw.inj b1 b _ t1 (.inl ⟨_, _, hs⟩)) n1
    · exact hw.inj b1 b2 blk' t1 t2
  · intro b1 blk' h1
    rcases htg b1 blk' h1 with ⟨_, t1⟩ | ⟨_, _, t1⟩
    · subst t1; exact hw.bound b _ (.inl ⟨_, _, hs⟩)
    · exact hw.bound b1 blk' t1
  · intro b' hb'
    rw [H.next_new, H.next_set] at hb'
    rw [H.get_new, H.next_set, H.get_set, if_neg (by omega)]
    by_cases e1 : b' = b
    · rw [if_pos e1]
    · rw [if_neg e1]; exact hw.fresh b' (by omega)
  · rw [H.next_new, H.next_set]; omega
  · intro b' blk' hn ht
    rcases htg b' blk' ht with ⟨_, t1⟩ | ⟨_, _, t1⟩
    · right; subst t1; exact ⟨b, .inl ⟨_, _, hs⟩, by rw [hg]; simp⟩
    · rcases t1 with ⟨o', s, e1⟩ | e1 <;> simp [hn] at e1
  · intro b' hb' h1
    rw [H.next_new, H.next_set] at h1
    rw [H.get_new, H.next_set, H.get_set, if_neg (by omega)]
    by_cases e1 : b' = b
    · rw [if_pos e1]
    · rw [if_neg e1]; exact hb'

end A
end Go.Proofs.YtcohlhplpogopaaGreat

