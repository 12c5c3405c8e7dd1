/-
  The engine's operations on abstract values and objects. Conditions: none.
-/
import Derived.Test.YtadmmpbojefdeaaGreatKn2
namespace Go.Kn
open Go
variable {R : Type}
noncomputable section

/-! Operations that leave the heap alone. -/
def qMove (E : En) (x : Operand) (κ : V → Option R) : Option R := opv E x κ

def qPick (E : En) (c a b : Operand) (κ : V → Option R) : Option R := opv E c fun v => (match v with
  | .bool true => opv E a κ
  | .bool false => opv E b κ
  | _ => none)

def qExtract (E : En) (x : Operand) (i : Nat) (κ : V → Option R) : Option R := opv E x fun v => (match v with
  | .tup vs => nthK κ vs i
  | _ => none)

def qBuild (B : Tb) (E : En) (t : Nat) (ps : List (Nat × Operand)) (κ : V → Option R) : Option R := match B.arr t with
  | some (_, es, _) => zerosK B t fun cs => partsA es E ps cs fun cs' => κ (.agg cs')
  | none => (match B.knd t with
    | some (.agg _) => zerosK B t fun cs => partsS B t E ps cs fun cs' => κ (.agg cs')
    | _ => none)

def qNilCheck (E : En) (x : Operand) (κ : V → Option R) : Option R := opv E x fun v => (match v with
  | .ptr t o => κ (.ptr t o)
  | .func f a b => κ (.func f a b)
  | .iface t v => κ (.iface t v)
  | _ => none)

def qConvert (B : Tb) (E : En) (h : Hp) (s d : Nat) (x : Operand) (κ : V → Option R) : Option R :=
  opv E x fun v => match B.knd s with
    | some (.int _) => (match B.knd d with
      | some (.int k) => (match v with
        | .int _ n => intFK (k.wrap n) fun n => κ (.int k n)
        | _ => none)
      | _ => none)
    | some .str => (match B.knd d with
      | some .str => (match v with
        | .bs l => κ (.bs l)
        | _ => none)
      | _ => none)
    | some .sl => (match B.knd d, B.sl s with
      | some .str, some (_, et, _) => (match B.knd et with
        | some (.int .u8) => bif isSlV v then vlen v fun n => cellsAt h n v fun cs => toB cs fun l => κ (.bs l) else none
        | _ => none)
      | _, _ => none)
    | _ => none

def qShl (E : En) (x y : Operand) (κ : V → Option R) : Option R :=
  opv E x fun a => opv E y fun b => (match a, b with
    | .int k a, .int _ (.ofNat n) => intFK (k.wrap (a * 2 ^ min n k.bits)) fun r => κ (.int k r)
    | _, _ => none)

def qShr (E : En) (x y : Operand) (κ : V → Option R) : Option R :=
  opv E x fun a => opv E y fun b => (match a, b with
    | .int k a, .int _ (.ofNat n) => intFK (a.fdiv (2 ^ min n k.bits)) fun r => κ (.int k r)
    | _, _ => none)

def qQuo (E : En) (x y : Operand) (κ : V → Option R) : Option R :=
  opv E x fun a => opv E y fun b => (match a, b with
    | .int k a, .int k' (.ofNat (n + 1)) => bif kEq k k' then intFK (k.wrap (a.tdiv (n + 1 : Nat))) fun r => κ (.int k r) else none
    | _, _ => none)

def qRem (E : En) (x y : Operand) (κ : V → Option R) : Option R :=
  opv E x fun a => opv E y fun b => (match a, b with
    | .int k a, .int k' (.ofNat (n + 1)) => bif kEq k k' then intFK (a.tmod (n + 1 : Nat)) fun r => κ (.int k r) else none
    | .raw (.int k a), .int k' (.ofNat (n + 1)) => bif kEq k k' then κ (.raw (.int k (a.tmod (n + 1 : Nat)))) else none
    | _, _ => none)

/-- Numbers that are not known: nothing is reckoned. -/
def rawK (op : BinOp) (k : IntKind) (x y : Int) (κ : V → Option R) : Option R :=
  match op with
  | .add => κ (.raw (.int k (k.wrap (x + y))))
  | .sub => κ (.raw (.int k (k.wrap (x - y))))
  | .mul => κ (.raw (.int k (k.wrap (x * y))))
  | _ => none

def intK (op : BinOp) (k : IntKind) (x y : Int) (κ : V → Option R) : Option R :=
  match op with
  | .add => intFK (k.wrap (x + y)) fun r => κ (.int k r)
  | .sub => intFK (k.wrap (x - y)) fun r => κ (.int k r)
  | .mul => intFK (k.wrap (x * y)) fun r => κ (.int k r)
  | .and => intFK (bits .and k x y) fun r => κ (.int k r)
  | .or => intFK (bits .or k x y) fun r => κ (.int k r)
  | .xor => intFK (bits .xor k x y) fun r => κ (.int k r)
  | .eql => boolK (iEq x y) κ
  | .neq => boolK (!iEq x y) κ
  | .lss => boolK (iLt x y) κ
  | .leq => boolK (!iLt y x) κ
  | .gtr => boolK (iLt y x) κ
  | .geq => boolK (!iLt x y) κ
  | _ => none

def strK (op : BinOp) (l m : List Nat) (κ : V → Option R) : Option R :=
  match op with
  | .add => lenK l (nat_lit 0) fun n => lenK m n fun s => bif Nat.ble s (nat_lit 1099511627776) then appK l m fun r => κ (.bs r) else none
  | .eql => boolK (eqL l m) κ
  | .neq => boolK (!eqL l m) κ
  | .lss => boolK (ltL l m) κ
  | .leq => boolK (ltL l m || eqL l m) κ
  | .gtr => boolK (!(ltL l m || eqL l m)) κ
  | .geq => boolK (!ltL l m) κ
  | _ => none

/-- An answer to a question whether two are the same one. -/
def ansK (op : BinOp) (b : Bool) (κ : V → Option R) : Option R :=
  match op with
  | .eql => boolK b κ
  | .neq => boolK (!b) κ
  | _ => none

def cellEq (k : Kd) (x y : V) : Option Bool :=
  match k with
  | .int _ => (match x, y with
    | .int k a, .int k' b => bif kEq k k' then some (iEq a b) else none
    | _, _ => none)
  | .bool => (match x, y with
    | .bool a, .bool b => some (a == b)
    | _, _ => none)
  | .str => (match x, y with
    | .bs a, .bs b => some (eqL a b)
    | _, _ => none)
  | _ => none

def aggEq : List Kd → List V → List V → (Bool → Option R) → Option R
  | [], [], [], κ => κ true
  | k :: ks, a :: l, b :: m, κ => (match cellEq k a b with
      | some true => aggEq ks l m κ
      | some false => κ false
      | none => none)
  | _, _, _, _ => none

def isNil (k : Kd) (v : V) : Option Bool :=
  match k with
  | .ptr => (match v with
    | .ptr _ _ => some false
    | .nptr => some true
    | _ => none)
  | .ifc => (match v with
    | .iface _ _ => some false
    | .niface => some true
    | _ => none)
  | .sl => (match v with
    | .nsl => some true
    | .sl _ _ _ _ => some false
    | .vec _ (_ + 1) => some false
    | _ => none)
  | .mp => (match v with
    | .map _ => some false
    | .nmap => some true
    | _ => none)
  | .fn => (match v with
    | .func _ _ _ => some false
    | .nfunc => some true
    | _ => none)
  | _ => none

def isNilOf (k : Kd) (v : V) : Bool :=
  match k with
  | .ptr => (match v with
    | .nptr => true
    | _ => false)
  | .ifc => (match v with
    | .niface => true
    | _ => false)
  | .sl => (match v with
    | .nsl => true
    | _ => false)
  | .mp => (match v with
    | .nmap => true
    | _ => false)
  | .fn => (match v with
    | .nfunc => true
    | _ => false)
  | _ => false

def isConst : Operand → Bool
  | .const _ => true
  | _ => false

def qBin (B : Tb) (E : En) (op : BinOp) (t : Nat) (x y : Operand) (κ : V → Option R) : Option R :=
  opv E x fun a => opv E y fun b => (match a with
    | .int k i => (match b with
      | .int k' j => bif kEq k k' then intK op k i j κ else none
      | _ => none)
    | .raw i => (match i, b with
      | .int k i, .int k' j => bif kEq k k' then rawK op k i j κ else none
      | _, _ => none)
    | .bs l => (match b with
      | .bs m => strK op l m κ
      | _ => none)
    | .bool p => (match b, B.knd t with
      | .bool q, some .bool => ansK op (p == q) κ
      | _, _ => none)
    | .agg l => (match b with
      | .agg m => (match B.flat t with
        | some ks => aggEq ks l m fun r => ansK op r κ
        | none => none)
      | _ => none)
    | .ptr p o => (match b, B.knd t with
      | .nptr, some .ptr => ansK op false κ
      | _, _ => none)
    | a => bif isConst y then (match B.knd t with
      | some k => bif isNilOf k b then (match isNil k a with
        | some r => ansK op r κ
        | none => none) else none
      | none => none) else none)

def qUn (E : En) (op : UnOp) (x : Operand) (κ : V → Option R) : Option R := match op with
  | .not => opv E x fun v => (match v with
    | .bool b => boolK (!b) κ
    | _ => none)
  | .neg => opv E x fun v => (match v with
    | .int k n => intFK (k.wrap (0 - n)) fun r => κ (.int k r)
    | _ => none)
  | .xor => opv E x fun v => (match v with
    | .int k n => intFK (bits .xor k (if k.signed then -1 else k.max) n) fun r => κ (.int k r)
    | _ => none)
  | _ => none

def qMkI (B : Tb) (E : En) (t : Nat) (x : Operand) (κ : V → Option R) : Option R := opv E x fun v => (match B.knd t with
  | some .ifc => none
  | some _ => κ (.iface t v)
  | none => none)

def qMkF (E : En) (fn : Fn) (first captured : List Operand) (κ : V → Option R) : Option R := match fn with
  | .func f => opvs E first fun a => opvs E captured fun b => κ (.func f a b)
  | _ => none

def qIndex (B : Tb) (E : En) (t : Nat) (x i : Operand) (κ : V → Option R) : Option R :=
  opv E x fun v => ix E i fun n => (match v with
    | .bs l => (match B.knd t with
      | some .str => nthN l n fun b => κ (.int .u8 (.ofNat b))
      | _ => none)
    | .agg cs => (match B.arr t with
      | some (len, es, et, ag) => bif Nat.blt n len then (match ag with
        | true => segK cs (Nat.mul n es) es fun vs => κ (.agg vs)
        | false => nthK κ cs (Nat.mul n es)) else none
      | none => none)
    | _ => none)

def qIndexAddr (B : Tb) (E : En) (t : Nat) (x i : Operand) (κ : V → Option R) : Option R :=
  opv E x fun v => ix E i fun n => (match v with
    | .sl k off len _ | .vw k off len => (match B.sl t with
      | some (es, _, _) => bif Nat.blt n len then natK (Nat.add off (Nat.mul n es)) fun o => κ (.ptr k o) else none
      | none => none)
    | .vec k len => (match B.sl t with
      | some (es, _, _) => bif Nat.blt n len then natK (Nat.mul n es) fun o => κ (.ptr k o) else none
      | none => none)
    | .ptr k off => (match B.arr t with
      | some (len, es, _, _) => bif Nat.blt n len then natK (Nat.add off (Nat.mul n es)) fun o => κ (.ptr k o) else none
      | none => none)
    | _ => none)

/-- A place that a part of an array begins at, and n, m: how many elements it has, may have. -/
def partK (off a es b c : Nat) (κ : Nat → Nat → Nat → Option R) : Option R :=
  natK (Nat.sub b a) fun n => natK (Nat.sub c a) fun m => natK (bif Nat.beq m (nat_lit 0) then off else Nat.add off (Nat.mul a es)) fun o => κ o n m

def qSlice (B : Tb) (E : En) (t : Nat) (x : Operand) (lo hi mx : Option Operand) (κ : V → Option R) : Option R :=
  opv E x fun v => (match v with
    | .bs l => (match B.knd t, mx with
      | some .str, none => lenK l (nat_lit 0) fun n => oix E lo (nat_lit 0) fun a => oix E hi n fun b => bif Nat.ble a b then segN l a (Nat.sub b a) fun r => κ (.bs r) else none
      | _, _ => none)
    | .sl k off len cap => (match B.sl t with
      | some (es, _, _) => oix E lo (nat_lit 0) fun a => oix E mx cap fun c => (match mx, hi with
        | some _, none => none
        | _, _ => oix E hi len fun b => bif Nat.ble a b && Nat.ble b c && Nat.ble c cap then partK off a es b c fun o n m => κ (.sl k o n m) else none)
      | none => none)
    | .vec k len => (match B.sl t with
      | some (es, _, _) => (match mx with
        | none => oix E lo (nat_lit 0) fun a => oix E hi len fun b => bif Nat.ble a b && Nat.ble b len then (bif Nat.beq a (nat_lit 0) then κ (.vec k b)
            else natK (Nat.sub b a) fun n => natK (Nat.mul a es) fun o => κ (.vw k o n)) else none
        | some _ => (match hi with
          | none => none
          | some _ => oix E lo (nat_lit 0) fun a => oix E hi len fun b => oix E mx len fun c => bif Nat.ble a b && Nat.ble b c && Nat.ble c len && Nat.blt (nat_lit 0) len then partK (nat_lit 0) a es b c fun o n m => κ (.sl k o n m) else none))
      | none => none)
    | .vw k off len => (match B.sl t, mx with
      | some (es, _, _), none => oix E lo (nat_lit 0) fun a => oix E hi len fun b => bif Nat.ble a b && Nat.ble b len then natK (Nat.sub b a) fun n => natK (Nat.add off (Nat.mul a es)) fun o => κ (.vw k o n) else none
      | _, _ => none)
    | .nsl => (match B.sl t with
      | some _ => oix E lo (nat_lit 0) fun a => oix E hi (nat_lit 0) fun b => oix E mx (nat_lit 0) fun c => (match mx, hi with
        | some _, none => none
        | _, _ => bif Nat.beq a (nat_lit 0) && Nat.beq b (nat_lit 0) && Nat.beq c (nat_lit 0) then κ .nsl else none)
      | none => none)
    | .ptr k off => (match B.arr t with
      | some (cap, es, _, _) => oix E lo (nat_lit 0) fun a => oix E mx cap fun c => (match mx, hi with
        | some _, none => none
        | _, _ => oix E hi cap fun b => bif Nat.ble a b && Nat.ble b c && Nat.ble c cap then partK off a es b c fun o n m => κ (.sl k o n m) else none)
      | none => none)
    | _ => none)

def qFieldAddr (B : Tb) (E : En) (s : Nat) (x : Operand) (f : Nat) (κ : V → Option R) : Option R :=
  opv E x fun v => asPtr v fun k o => (match B.fld s f with
      | some (fo, _, _) => natK (Nat.add o fo) fun o' => κ (.ptr k o')
      | none => none)

def qField (B : Tb) (E : En) (s : Nat) (x : Operand) (f : Nat) (κ : V → Option R) : Option R := opv E x fun v => (match v with
    | .agg cs => (match B.fld s f with
      | some (off, _, false) => nthK κ cs off
      | some (off, n, true) => segK cs off n fun vs => κ (.agg vs)
      | none => none)
    | _ => none)

def qLoad (B : Tb) (E : En) (h : Hp) (t : Nat) (x : Operand) (κ : V → Option R) : Option R :=
  opv E x fun v => asPtr v fun k off => asObj h k fun _ cs _ => ofK B t cs off κ

def asMap (h : Hp) (m : V) (κ : Nat → List (V × V × Nat) → Nat → Option R) : Option R := match m with
  | .map q => (match h.get q with
    | some (.mp es c) => κ q es c
    | _ => none)
  | _ => none

def qLookup (B : Tb) (E : En) (h : Hp) (t : Nat) (x i : Operand) (ok : Bool) (κ : V → Option R) : Option R :=
  opv E x fun m => opv E i fun k => (match B.mp t with
    | some (kt, et) => bif keyOk B kt k then asMap h m fun _ es _ => findM k es fun r => (match r with
        | some (v, _) => bif ok then κ (.tup [v, .bool true]) else κ v
        | none => zeroK B et fun z => bif ok then κ (.tup [z, .bool false]) else κ z) else none
    | none => none)

def qTA (B : Tb) (E : En) (x : Operand) (t : Nat) (ok : Bool) (κ : V → Option R) : Option R :=
  opv E x fun v => match B.knd t with
    | some .ifc => none
    | none => none
    | some _ => (match v with
      | .iface t' u => bif Nat.beq t' t then (bif ok then κ (.tup [u, .bool true]) else κ u) else bif ok then zeroK B t fun z => κ (.tup [z, .bool false]) else none
      | .niface => bif ok then zeroK B t fun z => κ (.tup [z, .bool false]) else none
      | _ => none)

def qLen (B : Tb) (E : En) (h : Hp) (x : Operand) (t : Nat) (κ : V → Option R) : Option R :=
  opv E x fun v => match B.knd t with
    | some .mp => (match v with
      | .nmap => κ (.int .i64 (.ofNat (nat_lit 0)))
      | v => asMap h v fun _ es _ => lenK es (nat_lit 0) fun n => κ (.int .i64 (.ofNat n)))
    | some .str => (match v with
      | .bs l => lenK l (nat_lit 0) fun n => κ (.int .i64 (.ofNat n))
      | _ => none)
    | some .sl => (match v with
      | .bs _ => none
      | v => vlen v fun n => κ (.int .i64 (.ofNat n)))
    | _ => none

def qCap (B : Tb) (E : En) (x : Operand) (t : Nat) (κ : V → Option R) : Option R :=
  opv E x fun v => match B.knd t with
    | some .sl => (match v with
      | .sl _ _ _ c => κ (.int .i64 (.ofNat c))
      | .nsl => κ (.int .i64 (.ofNat (nat_lit 0)))
      | _ => none)
    | _ => none

def qMin (E : En) (x y : Operand) (κ : V → Option R) : Option R :=
  opv E x fun a => opv E y fun b => (match a, b with
    | .int k a, .int _ b => bif iLt b a then κ (.int k b) else κ (.int k a)
    | _, _ => none)

def qMax (E : En) (x y : Operand) (κ : V → Option R) : Option R :=
  opv E x fun a => opv E y fun b => (match a, b with
    | .int k a, .int _ b => bif iLt a b then κ (.int k b) else κ (.int k a)
    | _, _ => none)

def natMem (n : Nat) : List Nat → Bool
  | [] => false
  | m :: l => Nat.beq m n || natMem n l

def qEntry (E : En) (h : Hp) (x : Operand) (κ : V → Option R) : Option R :=
  opv E x fun p => asPtr p fun k o => bif Nat.beq o (nat_lit 0) then (match h.get k with
      | some (.it q _ [s] stepped) => (match h.get q with
        | some (.mp [(a, b, n)] c) => bif Nat.beq n s && Nat.beq c stepped then κ (.tup [a, b]) else none
        | _ => none)
      | _ => none) else none

/-! Operations that make an object, and look at no other. -/
def aAlloc (B : Tb) (t : Nat) (nk : Nat) (κ : V → BO → Option R) : Option R := zerosK B t fun cs => κ (.ptr nk (nat_lit 0)) (.o none cs t)

def aBox (E : En) (t : Nat) (x : Operand) (nk : Nat) (κ : V → BO → Option R) : Option R := opv E x fun v => cellsK v fun cs => κ (.ptr nk (nat_lit 0)) (.o none cs t)

def aBuildSlice (B : Tb) (E : En) (t len : Nat) (ps : List (Nat × Operand)) (nk : Nat) (κ : V → BO → Option R) : Option R :=
  match B.sl t with
  | some (es, et, _) => bif Nat.ble (Nat.mul len es) (nat_lit 16777216) then zerosK B et fun zs => repK zs len fun cs => partsA es E ps cs fun cs' => κ (.sl nk (nat_lit 0) len len) (.o none cs' et) else none
  | none => none

def aMakeSlice (B : Tb) (E : En) (t : Nat) (l c : Operand) (nk : Nat) (κ : V → BO → Option R) : Option R :=
  ix E l fun n => ix E c fun m => (match B.sl t with
    | some (es, et, by_) => bif Nat.ble n m && Nat.ble (Nat.mul by_ m) (nat_lit 1099511627776) && Nat.ble m (nat_lit 1099511627776) then zerosK B et fun zs => repK zs m fun cs => κ (.sl nk (nat_lit 0) n m) (.o none cs et) else none
    | none => none)

def aMakeMap (B : Tb) (E : En) (t : Nat) (r : Option Operand) (nk : Nat) (κ : V → BO → Option R) : Option R := match r with
  | none => κ (.map nk) (.mp [] (nat_lit 0))
  | some x => opv E x fun v => (match v, B.mp t with
    | .int _ _, some _ => κ (.map nk) (.mp [] (nat_lit 0))
    | _, _ => none)

def aBytes (B : Tb) (E : En) (s d : Nat) (x : Operand) (nk : Nat) (κ : V → BO → Option R) : Option R :=
  opv E x fun v => match B.knd s, B.sl d with
    | some .str, some (_, et, _) => (match B.knd et, v with
      | some (.int .u8), .bs l => lenK l (nat_lit 0) fun n => bif Nat.ble n (nat_lit 1099511627776) then bsK l n fun cs => κ (.vec nk n) (.o (some (nat_lit 1)) cs et) else none
      | _, _ => none)
    | _, _ => none

/-! Operations that change the heap. -/
def newK (h : Hp) (nk : Nat) (o : BO) (κ : Hp → Nat → Option R) : Option R := Tr.setK (nat_lit 40) h nk o fun h' => natK (Nat.succ nk) fun nk' => κ h' nk'

def allOne : List V → Bool
  | [] => true
  | v :: l => oneV v && allOne l

def putO (h : Hp) (k : Nat) (off : Nat) (us : List V) (κ : Hp → Option R) : Option R :=
  bif allOne us then asObj h k fun a cs T => putsK cs off us fun cs' => Tr.setK (nat_lit 40) h k (.o a cs' T) κ else none

def sizeK (B : Tb) (t : Nat) (κ : Nat → Option R) : Option R := match B.knd t with
  | some (.agg n) => κ n
  | some _ => κ (nat_lit 1)
  | none => none

def hStore (B : Tb) (E : En) (h : Hp) (t : Nat) (x y : Operand) (κ : Hp → Option R) : Option R :=
  opv E x fun v => asPtr v fun k off => opv E y fun u => cellsK u fun vs => lenK vs (nat_lit 0) fun n => sizeK B t fun m => bif Nat.beq n m then putO h k off vs κ else none

def hMapUpdate (B : Tb) (E : En) (h : Hp) (t : Nat) (x i y : Operand) (κ : Hp → Option R) : Option R :=
  opv E x fun m => opv E i fun k => opv E y fun v => (match B.mp t with
    | some (kt, _) => bif keyOk B kt k then asMap h m fun q es c => setM k v c es fun es' n => natK (bif n then Nat.succ c else c) fun c' => Tr.setK (nat_lit 40) h q (.mp es' c') κ else none
    | none => none)

def hMapEntry (B : Tb) (E : En) (h : Hp) (t : Nat) (x i : Operand) (κ : V → Hp → Option R) : Option R :=
  opv E x fun m => opv E i fun k => (match B.mp t with
    | some (kt, et) => bif keyOk B kt k then asMap h m fun q es c => findM k es fun r => (match r with
        | some (v, b) => setM k v c es fun es' _ => Tr.setK (nat_lit 40) h q (.mp es' c) fun h' => κ (.tup [v, .int .i64 (.ofNat b)]) h'
        | none => zeroK B et fun z => setM k z c es fun es' _ => Tr.setK (nat_lit 40) h q (.mp es' (Nat.succ c)) fun h' => κ (.tup [z, .int .i64 (.ofNat c)]) h') else none
    | none => none)

def hEntryStore (E : En) (h : Hp) (x i y : Operand) (κ : Hp → Option R) : Option R :=
  opv E x fun m => opv E i fun b => opv E y fun v => asMap h m fun q es c => (match b with
    | .int _ (.ofNat n) => bornM v n es fun es' => Tr.setK (nat_lit 40) h q (.mp es' c) κ
    | _ => none)

def hRange (B : Tb) (E : En) (h : Hp) (nk : Nat) (t : Nat) (x : Operand) (κ : V → Hp → Nat → Option R) : Option R :=
  opv E x fun m => match B.mp t with
    | some _ => asMap h m fun q _ c => newK h nk (.it q c [] c) fun h' nk' => κ (.ptr nk (nat_lit 0)) h' nk'
    | none => none

def hNext (E : En) (h : Hp) (x : Operand) (κ : V → Hp → Option R) : Option R :=
  opv E x fun p => asPtr p fun k o => bif Nat.beq o (nat_lit 0) then (match h.get k with
      | some (.it q since seen stepped) => (match h.get q with
        | some (.mp [] _) => κ (.tup [.bool false]) h
        | some (.mp [(a, b, n)] c) => (match seen with
          | [] => bif Nat.blt n since then Tr.setK (nat_lit 40) h k (.it q since [n] c) fun h' => κ (.tup [.bool true, a, b]) h' else none
          | [s] => bif Nat.beq s n && Nat.blt n stepped then κ (.tup [.bool false]) h else none
          | _ => none)
        | _ => none)
      | _ => none) else none

def hDelete (B : Tb) (E : En) (h : Hp) (x y : Operand) (t : Nat) (κ : Hp → Option R) : Option R :=
  opv E x fun m => opv E y fun k => (match B.mp t with
    | some (kt, _) => bif keyOk B kt k then asMap h m fun q es c => delM k es fun es' => Tr.setK (nat_lit 40) h q (.mp es' c) κ else none
    | none => none)

def minK (n m : Nat) (κ : Nat → Option R) : Option R := bif Nat.ble n m then κ n else κ m

/-- Where a slice's first element lies. -/
def baseK (v : V) (κ : Nat → Nat → Option R) : Option R := match v with
  | .sl k off _ _ | .vw k off _ => κ k off
  | .vec k _ => κ k (nat_lit 0)
  | _ => none

def hCopy (B : Tb) (E : En) (h : Hp) (x y : Operand) (t : Nat) (κ : V → Hp → Option R) : Option R :=
  opv E x fun d => opv E y fun s => bif isSlV d then (match B.sl t with
    | some (es, _, _) => bif isSlV s || Nat.beq es (nat_lit 1) then vlen d fun n => vlen s fun m => minK m n fun c => natK (Nat.mul c es) fun q => cellsAt h q s fun cs => (bif Nat.beq q (nat_lit 0) then κ (.int .i64 (.ofNat c)) h
      else baseK d fun k off => putO h k off cs fun h' => κ (.int .i64 (.ofNat c)) h') else none
    | none => none) else none

def hClear (B : Tb) (E : En) (h : Hp) (x : Operand) (t : Nat) (κ : Hp → Option R) : Option R :=
  opv E x fun d => bif isSlV d then (match B.sl t with
    | some (es, et, _) => vlen d fun n => (bif Nat.beq n (nat_lit 0) then κ h else zerosK B et fun zs => repK zs n fun cs => baseK d fun k off => putO h k off cs κ)
    | none => none) else none

/-- What is appended is no number. -/
def second (B : Tb) (ts : List Nat) : Bool := match ts with
  | [] => true
  | t :: _ => match B.knd t with
    | some .sl | some .str => true
    | _ => false

def hAppend (B : Tb) (E : En) (h : Hp) (nk : Nat) (x y : Operand) (t : Nat) (ts : List Nat) (κ : V → Hp → Nat → Option R) : Option R :=
  opv E x fun s => opv E y fun p => bif isSlV s && second B ts then (match B.sl t with
    | some (es, et, by_) => bif isSlV p || Nat.beq es (nat_lit 1) then vlen p fun n => natK (Nat.mul n es) fun q => cellsAt h q p fun new => vlen s fun len => natK (Nat.add len n) fun tot =>
      bif Nat.ble (Nat.mul (Nat.add (Nat.mul (nat_lit 2) tot) (nat_lit 1024)) by_) (nat_lit 281474976710656) && Nat.ble tot (nat_lit 1099511627776) then (match s with
      | .nsl => bif Nat.beq n (nat_lit 0) then κ .nsl h nk else newK h nk (.o (some es) new et) fun h' nk' => κ (.vec nk n) h' nk'
      | .sl k off _ cap => bif Nat.ble tot cap then (bif Nat.beq n (nat_lit 0) then κ s h nk else putO h k (Nat.add off (Nat.mul len es)) new fun h' => κ (.sl k off tot cap) h' nk)
        else cellsAt h (Nat.mul len es) s fun old => appK old new fun cs => newK h nk (.o (some es) cs et) fun h' nk' => κ (.vec nk tot) h' nk'
      | .vec k _ => bif Nat.beq n (nat_lit 0) then κ s h nk else asObj h k fun a cs T => (match a with
        | some es' => bif Nat.beq es es' && Nat.beq et T && allOne new then lenK cs (nat_lit 0) fun lc => bif Nat.ble (Nat.mul tot es) lc then putO h k (Nat.mul len es) new fun h' => κ (.vec k tot) h' nk
            else segK cs (nat_lit 0) (Nat.mul len es) fun old => appK old new fun cs' => Tr.delK h k fun h' => newK h' nk (.o (some es) cs' et) fun h'' nk' => κ (.vec nk tot) h'' nk' else none
        | none => none)
      | _ => none) else none else none
    | none => none) else none
end
end Go.Kn
