/- Part 1 of the proof: an abstract machine over the translated code, the functions' contracts, and the plain law. -/
import Derived.Calls
set_option linter.unusedSimpArgs false
set_option linter.unusedVariables false
set_option linter.unusedSectionVars false
section
namespace AB
open Go

def eqN (a b : Nat) : Bool := a == b
def leN (a b : Nat) : Bool := decide (a ≤ b)
def ltN (a b : Nat) : Bool := decide (a < b)

/-- Abstract values. 'val v': that very value. 'lst n f': a slice that nobody writes, n elements, element i has the cells f i. 'fp cs o': the address of cell o of such cells. 'sl d g n': the slice over the whole own array d of generation g at length n. 'pb', 'pe': addresses in an own box, in an element of an own array. 'clo f caps': a function value with what it captured. 'own': in a result alone: a new array of its own. -/
inductive AV where
  | any
  | val (v : Value)
  | lst (n : Int) (f : Int → List AV)
  | fp (cs : List AV) (o : Nat)
  | sl (d g : Nat) (n : Int)
  | pb (d g o : Nat)
  | pe (d g : Nat) (n i : Int) (o : Nat)
  | agg (cs : List AV)
  | tup (vs : List AV)
  | clo (f : Nat) (caps : List AV)
  | own (cl : Bool) (sz : Nat) (n : Int) (f : Int → List AV)
instance : Inhabited AV := ⟨.any⟩

/-- Own blocks. 'fz': nobody writes it any more. 'fx': it may not grow. -/
inductive Blk where
  | none
  | box (fz : Bool) (g : Nat) (cs : List AV)
  | arr (fz fx : Bool) (g sz : Nat) (n : Int) (f : Int → List AV)
def Blk.gen : Blk → Nat
  | .none => 0
  | .box _ g _ => g
  | .arr _ _ g _ _ _ => g
def Blk.freeze : Blk → Blk
  | .none => .none
  | .box _ g cs => .box true g cs
  | .arr _ fx g sz n f => .arr true fx g sz n f

/-- the number of the own block that came in to be written -/
def ioId : Nat := 1000000
structure St where
  s : List AV
  b : List (Nat × Blk)

def getB (d : Nat) : List (Nat × Blk) → Blk
  | [] => .none
  | (e, x) :: r => match eqN e d with
    | true => x
    | false => getB d r
def setB (d : Nat) (x : Blk) : List (Nat × Blk) → List (Nat × Blk)
  | [] => [(d, x)]
  | (e, y) :: r => match eqN e d with
    | true => (d, x) :: r
    | false => (e, y) :: setB d x r
def getS (d : Nat) : List AV → AV
  | [] => .any
  | x :: r => match d with
    | 0 => x
    | d + 1 => getS d r
def setS (d : Nat) (v : AV) : List AV → List AV
  | [] => []
  | x :: r => match d with
    | 0 => v :: r
    | d + 1 => x :: setS d v r
def St.B (σ : St) (d : Nat) : Blk := getB d σ.b
def St.put (σ : St) (dst : Option Nat) (v : AV) : St :=
  match dst with
  | some d => ⟨setS d v σ.s, σ.b⟩
  | none => σ
def St.upd (σ : St) : List (Nat × Blk) → St
  | [] => σ
  | (d, x) :: r => St.upd ⟨σ.s, setB d x σ.b⟩ r
def mapL {α β : Type} (f : α → β) : List α → List β
  | [] => []
  | x :: r => f x :: mapL f r
def constA : Value → AV
  | .agg cs => .agg (mapL AV.val cs.toList)
  | v => .val v
def St.ev (σ : St) : Operand → AV
  | .tmp t => getS t σ.s
  | .const v => constA v
  | .global _ => .any
  | .func f => .clo f []

/-- What the machine computes at the leaves: a variable while a proof computes. -/
structure Leaf where
  add : IntKind → Int → Int → Int
  sub : IntKind → Int → Int → Int
  mul : IntKind → Int → Int → Int
  quo : IntKind → Int → Int → Int
  rem : IntKind → Int → Int → Int
  neg : IntKind → Int → Int
  bits : BinOp → IntKind → Int → Int → Int
  shl : IntKind → Int → Int → Int
  shr : IntKind → Int → Int → Int
  lt : Int → Int → Bool
  le : Int → Int → Bool
  eq : Int → Int → Bool
  beq : Bool → Bool → Bool
  bnot : Bool → Bool
  band : Bool → Bool → Bool
  conv : IntKind → Int → Int
  imin : Int → Int → Int
  imax : Int → Int → Int
  slen : ByteArray → Int
  sat : ByteArray → Int → Int
  ssub : ByteArray → Int → Int → ByteArray
  scat : ByteArray → ByteArray → ByteArray
  seq : ByteArray → ByteArray → Bool
  slt : ByteArray → ByteArray → Bool
  ofB : Int → (Int → List AV) → ByteArray
  nadd : Int → Int → Int
  nsub : Int → Int → Int
  selI : Bool → Int → Int → Int
  selS : Bool → ByteArray → ByteArray → ByteArray
  selB : Bool → Bool → Bool → Bool
  selF : Bool → (Int → List AV) → (Int → List AV) → Int → List AV
  isin : Int → Int → Prop
  cut : Int → Int → Int → Prop
  fits : Int → Int → Nat → Prop
  nz : Int → Prop
  makes : Int → Nat → Prop
  cats : ByteArray → ByteArray → Prop
  shok : Int → Prop

/-- Types, as far as the machine asks. -/
inductive TD where
  | other
  | str
  | bool
  | int (k : IntKind)
  | sl (e : Nat)
  | arr (n e : Nat)
  | st (fs : List (Nat × Nat))
structure TI where
  agg : Bool
  size : Nat
  bytes : Nat
  zero : List Value
  desc : TD
  eqf : List (Nat × Nat)
def getT (t : Nat) : List (Nat × TI) → Option TI
  | [] => none
  | (e, x) :: r => match eqN e t with
    | true => some x
    | false => getT t r

def kEq : IntKind → IntKind → Bool
  | .i8, .i8 | .i16, .i16 | .i32, .i32 | .i64, .i64 | .u8, .u8 | .u16, .u16 | .u32, .u32 | .u64, .u64 => true
  | _, _ => false
def lenL {α : Type} : List α → Nat
  | [] => 0
  | _ :: r => Nat.succ (lenL r)
/-- one of two cells, one of two elements -/
def selA0 (L : Leaf) (b : Bool) (x y : AV) : AV :=
  match x, y with
  | .val (.int k m), .val (.int k' n) => match kEq k k' with
    | true => .val (.int k (L.selI b m n))
    | false => .any
  | .val (.string s), .val (.string t) => .val (.string (L.selS b s t))
  | .val (.bool s), .val (.bool t) => .val (.bool (L.selB b s t))
  | .lst n f, .lst m g => .lst (L.selI b n m) (L.selF b f g)
  | _, _ => .any
def selZ0 (L : Leaf) (b : Bool) : List AV → List AV → List AV
  | x :: r, y :: s => selA0 L b x y :: selZ0 L b r s
  | _, _ => []
def selA (L : Leaf) (b : Bool) (x y : AV) : AV :=
  match x, y with
  | .lst n f, .lst m g => .lst (L.selI b n m) (fun i => match eqN (lenL (f i)) (lenL (g i)) with
    | true => selZ0 L b (f i) (g i)
    | false => L.selF b f g i)
  | x, y => selA0 L b x y
def selL (L : Leaf) : Nat → Bool → List AV → List AV → List AV
  | 0, _, _, _ => []
  | n + 1, b, x :: r, y :: s => selA L b x y :: selL L n b r s
  | n + 1, b, x :: r, [] => x :: selL L n b r []
  | n + 1, b, [], y :: s => y :: selL L n b [] s
  | _ + 1, _, [], [] => []
/-- the elements behind a store, behind an append -/
def updC (L : Leaf) (sz : Nat) (f : Int → List AV) (i : Int) (c : List AV) : Int → List AV := fun k => selL L sz (L.eq k i) c (f k)
def appC (L : Leaf) (sz : Nat) (f : Int → List AV) (n : Int) (h : Int → List AV) : Int → List AV := fun k => selL L sz (L.lt k n) (f k) (h (L.nsub k n))

inductive SR where
  | bad
  | ok (pre : Prop) (v : AV) (upd : List (Nat × Blk)) (rd : List Nat)

def allB {α : Type} (p : α → Bool) : List α → Bool
  | [] => true
  | x :: r => match p x with
    | true => allB p r
    | false => false
/-- one cell's value, with no own memory behind it -/
def AV.clC : AV → Bool
  | .val (.agg _) | .val (.tuple _) => false
  | .val _ | .lst .. | .fp .. => true
  | _ => false
/-- one cell's value -/
def AV.oneC : AV → Bool
  | .val (.agg _) | .val (.tuple _) => false
  | .val _ | .lst .. | .fp .. | .sl .. | .pb .. | .pe .. | .clo .. => true
  | _ => false
def AV.cells : AV → Option (List AV)
  | .agg cs => some cs
  | .any | .val (.agg _) | .val (.tuple _) | .tup _ | .own .. => none
  | v => some [v]
def takeL {α : Type} : Nat → List α → List α
  | 0, _ => []
  | _ + 1, [] => []
  | n + 1, x :: r => x :: takeL n r
def dropL {α : Type} : Nat → List α → List α
  | 0, l => l
  | _ + 1, [] => []
  | n + 1, _ :: r => dropL n r
def appL {α : Type} : List α → List α → List α
  | [], l => l
  | x :: r, l => x :: appL r l
def splice (cs : List AV) (o : Nat) (vs : List AV) : List AV := appL (takeL o cs) (appL vs (dropL (Nat.add o (lenL vs)) cs))
def getL {α : Type} : Nat → List α → Option α
  | _, [] => none
  | 0, x :: _ => some x
  | n + 1, _ :: r => getL n r
def inInt (L : Leaf) (op : BinOp) (k : IntKind) (a b : Int) : SR :=
  match op with
  | .add => .ok True (.val (.int k (L.add k a b))) [] []
  | .sub => .ok True (.val (.int k (L.sub k a b))) [] []
  | .mul => .ok True (.val (.int k (L.mul k a b))) [] []
  | .quo => .ok (L.nz b) (.val (.int k (L.quo k a b))) [] []
  | .rem => .ok (L.nz b) (.val (.int k (L.rem k a b))) [] []
  | .eql => .ok True (.val (.bool (L.eq a b))) [] []
  | .neq => .ok True (.val (.bool (L.bnot (L.eq a b)))) [] []
  | .lss => .ok True (.val (.bool (L.lt a b))) [] []
  | .leq => .ok True (.val (.bool (L.le a b))) [] []
  | .gtr => .ok True (.val (.bool (L.lt b a))) [] []
  | .geq => .ok True (.val (.bool (L.le b a))) [] []
  | .and => .ok True (.val (.int k (L.bits .and k a b))) [] []
  | .or => .ok True (.val (.int k (L.bits .or k a b))) [] []
  | .xor => .ok True (.val (.int k (L.bits .xor k a b))) [] []
  | .andNot => .ok True (.val (.int k (L.bits .andNot k a b))) [] []
  | _ => .bad
def inStr (L : Leaf) (op : BinOp) (a b : ByteArray) : SR :=
  match op with
  | .add => .ok (L.cats a b) (.val (.string (L.scat a b))) [] []
  | .eql => .ok True (.val (.bool (L.seq a b))) [] []
  | .neq => .ok True (.val (.bool (L.bnot (L.seq a b)))) [] []
  | .lss => .ok True (.val (.bool (L.slt a b))) [] []
  | .gtr => .ok True (.val (.bool (L.slt b a))) [] []
  | .leq => .ok True (.val (.bool (L.bnot (L.slt b a)))) [] []
  | .geq => .ok True (.val (.bool (L.bnot (L.slt a b)))) [] []
  | _ => .bad
def isBool (T : Nat → Option TI) (t : Nat) : Bool :=
  match T t with
  | some ti => match ti.desc with
    | .bool => true
    | _ => false
  | none => false
def binF (L : Leaf) (T : Nat → Option TI) (t : Nat) (op : BinOp) (x y : AV) : SR :=
  match op, x, y with
  | .shl, .val (.int k a), .val (.int _ b) => .ok (L.shok b) (.val (.int k (L.shl k a b))) [] []
  | .shr, .val (.int k a), .val (.int _ b) => .ok (L.shok b) (.val (.int k (L.shr k a b))) [] []
  | op, .val (.int k a), .val (.int k' b) => match kEq k k' with
    | true => inInt L op k a b
    | false => .bad
  | op, .val (.string a), .val (.string b) => inStr L op a b
  | .eql, .val (.bool a), .val (.bool b) => match isBool T t with
    | true => .ok True (.val (.bool (L.beq a b))) [] []
    | false => .bad
  | .neq, .val (.bool a), .val (.bool b) => match isBool T t with
    | true => .ok True (.val (.bool (L.bnot (L.beq a b)))) [] []
    | false => .bad
  | _, _, _ => .bad

/-- two structs, two arrays, of plain cells -/
def eq1 (L : Leaf) (T : Nat → Option TI) (t : Nat) (x y : AV) : Option Bool :=
  match T t with
  | some ti => match ti.desc, x, y with
    | .int _, .val (.int k a), .val (.int k' b) => match kEq k k' with
      | true => some (L.eq a b)
      | false => none
    | .str, .val (.string a), .val (.string b) => some (L.seq a b)
    | .bool, .val (.bool a), .val (.bool b) => some (L.beq a b)
    | _, _, _ => none
  | none => none
def eqFs (L : Leaf) (T : Nat → Option TI) : List (Nat × Nat) → List AV → List AV → Option Bool
  | [], _, _ => some true
  | (off, t) :: r, xs, ys => match getL off xs, getL off ys with
    | some x, some y => match eq1 L T t x y, eqFs L T r xs ys with
      | some b, some c => some (L.band b c)
      | _, _ => none
    | _, _ => none
def eqAgg (L : Leaf) (T : Nat → Option TI) (t : Nat) (xs ys : List AV) : Option Bool :=
  match T t with
  | some ti => match ti.eqf with
    | [] => none
    | l => eqFs L T l xs ys
  | none => none
def aggF (L : Leaf) (T : Nat → Option TI) (t : Nat) (op : BinOp) (xs : List AV) (y : AV) : SR :=
  match op, y with
  | .eql, .agg ys => match eqAgg L T t xs ys with
    | some b => .ok True (.val (.bool b)) [] []
    | none => .bad
  | .neq, .agg ys => match eqAgg L T t xs ys with
    | some b => .ok True (.val (.bool (L.bnot b))) [] []
    | none => .bad
  | _, _ => .bad
def opF (L : Leaf) (T : Nat → Option TI) (t : Nat) (op : BinOp) (x y : AV) : SR :=
  match x with
  | .agg xs => aggF L T t op xs y
  | x => binF L T t op x y

/-- where an address leads: the cells, the offset, what must hold, which own block -/
inductive Loc where
  | bad
  | at (cs : List AV) (o : Nat) (pre : Prop) (rd : List Nat)
def locF (L : Leaf) (B : Nat → Blk) : AV → Loc
  | .fp cs o => .at cs o True []
  | .pb d g o => match B d with
    | .box _ g' cs => match eqN g g' with
      | true => .at cs o True [d]
      | false => .bad
    | _ => .bad
  | .pe d g n i o => match B d with
    | .arr _ _ g' _ n' f => match eqN g g' with
      | true => .at (f i) o (n = n' ∧ L.isin i n) [d]
      | false => .bad
    | _ => .bad
  | _ => .bad
def loadF (L : Leaf) (T : Nat → Option TI) (B : Nat → Blk) (t : Nat) (a : AV) : SR :=
  match T t, locF L B a with
  | some ti, .at cs o pre rd => match ti.agg with
    | true => match eqN (lenL (takeL ti.size (dropL o cs))) ti.size with
      | true => .ok pre (.agg (takeL ti.size (dropL o cs))) [] rd
      | false => .bad
    | false => match getL o cs with
      | some v => .ok pre v [] rd
      | none => .bad
  | _, _ => .bad
def storeF (L : Leaf) (T : Nat → Option TI) (B : Nat → Blk) (t : Nat) (a x : AV) : SR :=
  match T t, x.cells with
  | some ti, some vs =>
    match eqN (lenL vs) ti.size with
    | false => .bad
    | true =>
      match a with
      | .pb d g o => match B d with
        | .box false g' cs => match eqN g g', leN (Nat.add o (lenL vs)) (lenL cs), allB AV.oneC vs with
          | true, true, true => .ok True .any [(d, .box false g' (splice cs o vs))] [d]
          | _, _, _ => .bad
        | _ => .bad
      | .pe d g n i o => match B d with
        | .arr false fx g' sz n' f => match eqN g g', leN (Nat.add o (lenL vs)) sz, allB AV.clC vs with
          | true, true, true => .ok (n = n' ∧ L.isin i n ∧ lenL (f i) = sz) .any [(d, .arr false fx g' sz n' (updC L sz f i (splice (f i) o vs)))] [d]
          | _, _, _ => .bad
        | _ => .bad
      | _ => .bad
  | _, _ => .bad
def fieldOff (T : Nat → Option TI) (t fld : Nat) : Option (Nat × TI) :=
  match T t with
  | some ti => match ti.desc with
    | .st fs => match getL fld fs with
      | some (off, ty) => match T ty with
        | some fi => some (off, fi)
        | none => none
      | none => none
    | _ => none
  | none => none
def shiftA (k : Nat) : AV → AV
  | .pb d g o => .pb d g (Nat.add o k)
  | .pe d g n i o => .pe d g n i (Nat.add o k)
  | .fp cs o => .fp cs (Nat.add o k)
  | x => x
def fieldAddrF (L : Leaf) (T : Nat → Option TI) (B : Nat → Blk) (t fld : Nat) (a : AV) : SR :=
  match fieldOff T t fld with
  | some (off, fi) => match fi.size with
    | 0 => .bad
    | _ + 1 => match locF L B a with
      | .at _ _ pre rd => .ok pre (shiftA off a) [] rd
      | .bad => .bad
  | none => .bad
def partF (fi : TI) (cs : List AV) (off : Nat) : SR :=
  match fi.agg with
  | true => match eqN (lenL (takeL fi.size (dropL off cs))) fi.size with
    | true => .ok True (.agg (takeL fi.size (dropL off cs))) [] []
    | false => .bad
  | false => match getL off cs with
    | some v => .ok True v [] []
    | none => .bad
def fieldF (T : Nat → Option TI) (t fld : Nat) (a : AV) : SR :=
  match fieldOff T t fld, a with
  | some (off, fi), .agg cs => partF fi cs off
  | _, _ => .bad
def sliceElem (T : Nat → Option TI) (t : Nat) : Option (Nat × TI) :=
  match T t with
  | some ti => match ti.desc with
    | .sl e => match T e with
      | some ei => some (e, ei)
      | none => none
    | _ => none
  | none => none
def indexAddrF (L : Leaf) (T : Nat → Option TI) (B : Nat → Blk) (t : Nat) (x i : AV) : SR :=
  match T t with
  | none => .bad
  | some ti => match ti.desc with
    | .sl e => match T e with
      | none => .bad
      | some ei => match i with
        | .val (.int _ i) => match x with
          | .lst n f => .ok (L.isin i n ∧ lenL (f i) = ei.size) (.fp (f i) 0) [] []
          | .sl d g n => match B d with
            | .arr _ _ g' sz n' _ => match eqN g g', eqN sz ei.size with
              | true, true => .ok (n = n' ∧ L.isin i n) (.pe d g n i 0) [] [d]
              | _, _ => .bad
            | _ => .bad
          | _ => .bad
        | _ => .bad
    | .arr n e => match T e with
      | none => .bad
      | some ei => match i with
        | .val (.int _ (.ofNat m)) => match ltN m n with
          | true => match locF L B x with
            | .at _ _ pre rd => .ok pre (shiftA (Nat.mul m ei.size) x) [] rd
            | .bad => .bad
          | false => .bad
        | _ => .bad
    | _ => .bad
def indexF (L : Leaf) (T : Nat → Option TI) (t : Nat) (x i : AV) : SR :=
  match T t with
  | none => .bad
  | some ti => match ti.desc, x, i with
    | .str, .val (.string s), .val (.int _ i) => .ok (L.isin i (L.slen s)) (.val (.int .u8 (L.sat s i))) [] []
    | .arr n e, .agg cs, .val (.int _ (.ofNat m)) => match ltN m n, T e with
      | true, some ei => partF ei cs (Nat.mul m ei.size)
      | _, _ => .bad
    | _, _, _ => .bad
/-- the bounds of a cut: where one is not given, 0 or the length -/
def cutB (n : Int) : Option AV → Option AV → Option (Int × Int)
  | none, none => some (0, n)
  | some (.val (.int _ lo)), none => some (lo, n)
  | none, some (.val (.int _ hi)) => some (0, hi)
  | some (.val (.int _ lo)), some (.val (.int _ hi)) => some (lo, hi)
  | _, _ => none
def sliceF (L : Leaf) (T : Nat → Option TI) (B : Nat → Blk) (t : Nat) (x : AV) (lo hi mx : Option AV) : SR :=
  match T t, mx with
  | some ti, none => match ti.desc, x with
    | .str, .val (.string s) => match cutB (L.slen s) lo hi with
      | some (l, h) => .ok (L.cut l h (L.slen s)) (.val (.string (L.ssub s l h))) [] []
      | none => .bad
    | .sl e, .lst n f => match cutB n lo hi, T e with
      | some (l, h), some ei => .ok (L.cut l h n ∧ ∀ i, L.isin i n → lenL (f i) = ei.size) (.lst (L.nsub h l) (fun i => f (L.nadd l i))) [] []
      | _, _ => .bad
    | .sl e, .sl d g n => match B d with
      | .arr _ fx g' sz n' f => match eqN g g', cutB n lo hi, T e with
        | true, some (l, h), some ei => match eqN sz ei.size && !(eqN d ioId) with
          | true => .ok (n = n' ∧ L.cut l h n) (.lst (L.nsub h l) (fun i => f (L.nadd l i))) [(d, .arr true fx g' sz n' f)] [d]
          | false => .bad
        | _, _, _ => .bad
      | _ => .bad
    | _, _ => .bad
  | _, _ => .bad
def fillF (place : Nat → Option (Nat × Nat)) (cs : List AV) : List (Nat × AV) → Option (List AV)
  | [] => some cs
  | (i, v) :: r => match place i, v.cells with
    | some (off, size), some vs => match eqN (lenL vs) size, leN (Nat.add off size) (lenL cs) with
      | true, true => fillF place (splice cs off vs) r
      | _, _ => none
    | _, _ => none
def fieldPlaces (T : Nat → Option TI) : List (Nat × Nat) → Option (List (Nat × Nat))
  | [] => some []
  | (off, ty) :: r => match T ty, fieldPlaces T r with
    | some ti, some l => some ((off, ti.size) :: l)
    | _, _ => none
def buildF (T : Nat → Option TI) (t : Nat) (parts : List (Nat × AV)) : SR :=
  match T t with
  | none => .bad
  | some ti => match ti.desc with
    | .st fs => match fieldPlaces T fs with
      | none => .bad
      | some pl => match fillF (fun i => getL i pl) (mapL AV.val ti.zero) parts with
        | some cs => .ok True (.agg cs) [] []
        | none => .bad
    | .arr _ e => match T e with
      | none => .bad
      | some ei => match fillF (fun i => some (Nat.mul i ei.size, ei.size)) (mapL AV.val ti.zero) parts with
        | some cs => .ok True (.agg cs) [] []
        | none => .bad
    | _ => .bad
/-- the elements of a slice literal, cut out of its cells -/
def chunk (sz : Nat) : Nat → List AV → List (List AV)
  | 0, _ => []
  | n + 1, l => takeL sz l :: chunk sz n (dropL sz l)
/-- small numbers as they are written -/
def intN : Nat → Int
  | 0 => 0
  | 1 => 1
  | 2 => 2
  | 3 => 3
  | 4 => 4
  | 5 => 5
  | 6 => 6
  | 7 => 7
  | 8 => 8
  | 9 => 9
  | 10 => 10
  | 11 => 11
  | 12 => 12
  | 13 => 13
  | 14 => 14
  | 15 => 15
  | n => Int.ofNat n
def elemF (L : Leaf) (sz : Nat) : List (List AV) → Nat → Int → List AV
  | [], _, _ => []
  | c :: r, k, i => match r with
    | [] => c
    | _ :: _ => selL L sz (L.eq i (intN k)) c (elemF L sz r (Nat.succ k) i)
def replL (n : Nat) (z : List AV) : List AV :=
  match n with
  | 0 => []
  | n + 1 => appL z (replL n z)
/-- What a value is to somebody who may only read: own memory as what it holds. -/
inductive VR where
  | bad
  | ok (pre : Prop) (a : AV) (ids : List Nat)
inductive VRs where
  | bad
  | ok (pre : Prop) (l : List AV) (ids : List Nat)
/-- one cell's value -/
def view0 (B : Nat → Blk) : AV → VR
  | .val (.agg _) | .val (.tuple _) => .bad
  | .val v => .ok True (.val v) []
  | .lst n f => .ok True (.lst n f) []
  | .fp cs o => .ok True (.fp cs o) []
  | .sl d g n => match B d with
    | .arr _ _ g' _ n' f => match eqN g g' with
      | true => .ok (n = n') (.lst n f) [d]
      | false => .bad
    | _ => .bad
  | _ => .bad
def views (v : AV → VR) : List AV → VRs
  | [] => .ok True [] []
  | a :: r => match v a, views v r with
    | .ok p a' i, .ok q l j => .ok (p ∧ q) (a' :: l) (appL i j)
    | _, _ => .bad
def freezes (B : Nat → Blk) : List Nat → List (Nat × Blk)
  | [] => []
  | d :: r => (d, (B d).freeze) :: freezes B r
def memN (x : Nat) : List Nat → Bool
  | [] => false
  | y :: r => match eqN x y with
    | true => true
    | false => memN x r
def noIo (ids : List Nat) : Bool := !(memN ioId ids)
def buildSliceF (L : Leaf) (T : Nat → Option TI) (B : Nat → Blk) (d t len : Nat) (parts : List (Nat × AV)) : SR :=
  match sliceElem T t with
  | none => .bad
  | some (_, ei) => match leN (Nat.mul len (Nat.succ ei.size)) 16777216, fillF (fun i => some (Nat.mul i ei.size, ei.size)) (replL len (mapL AV.val ei.zero)) parts with
    | true, some cs => match views (view0 B) cs with
      | .ok pre cs l => match memN d l, noIo l with
        | false, true => .ok pre (.sl d (Nat.succ (B d).gen) (intN len)) (appL (freezes B l) [(d, .arr false false (Nat.succ (B d).gen) ei.size (intN len)
            (elemF L ei.size (chunk ei.size len cs) 0))]) (d :: l)
        | _, _ => .bad
      | .bad => .bad
    | _, _ => .bad
/-- what is appended: how much, the elements, what must hold, which own block -/
def appSrc (L : Leaf) (B : Nat → Blk) (ei : TI) (y : AV) : Option (Int × (Int → List AV) × Prop × List Nat) :=
  match y with
  | .lst m h => some (m, h, ∀ i, L.isin i m → lenL (h i) = ei.size, [])
  | .sl e g m => match B e with
    | .arr _ _ g' sz m' h => match eqN g g', eqN sz ei.size with
      | true, true => some (m, h, m = m', [e])
      | _, _ => none
    | _ => none
  | _ => none
def appendF (L : Leaf) (T : Nat → Option TI) (B : Nat → Blk) (d t : Nat) (x y : AV) : SR :=
  match sliceElem T t with
  | none => .bad
  | some (_, ei) => match appSrc L B ei y with
    | none => .bad
    | some (m, h, pre, rd) => match x with
      | .val (.slice none 0 0) => .ok (pre ∧ L.isin 0 m ∧ L.fits 0 m ei.bytes) (.sl d (Nat.succ (B d).gen) m) [(d, .arr false false (Nat.succ (B d).gen) ei.size m h)] (d :: rd)
      | .sl e g n => match B e with
        | .arr false false g' sz n' f => match eqN g g', eqN sz ei.size with
          | true, true => .ok (n = n' ∧ pre ∧ L.fits n m ei.bytes) (.sl e g' (L.nadd n m)) [(e, .arr false false g' sz (L.nadd n m) (appC L sz f n h))] (e :: rd)
          | _, _ => .bad
        | _ => .bad
      | _ => .bad
def lenF (L : Leaf) (T : Nat → Option TI) (B : Nat → Blk) (t : Nat) (x : AV) : SR :=
  match T t with
  | none => .bad
  | some ti => match ti.desc with
    | .str => match x with
      | .val (.string s) => .ok True (.val (.int .i64 (L.slen s))) [] []
      | _ => .bad
    | .sl _ => match x with
      | .lst n _ => .ok True (.val (.int .i64 n)) [] []
      | .sl d g n => match B d with
        | .arr _ _ g' _ n' _ => match eqN g g' with
          | true => .ok (n = n') (.val (.int .i64 n)) [] [d]
          | false => .bad
        | _ => .bad
      | .val (.slice none 0 0) => .ok True (.val (.int .i64 0)) [] []
      | _ => .bad
    | _ => .bad
def foldI (f : Int → Int → Int) (k : IntKind) (a : Int) : List AV → SR
  | [] => .ok True (.val (.int k a)) [] []
  | .val (.int _ b) :: r => foldI f k (f a b) r
  | _ => .bad
def convF (L : Leaf) (T : Nat → Option TI) (B : Nat → Blk) (d src dst : Nat) (x : AV) : SR :=
  match T src, T dst with
  | some si, some di => match si.desc, di.desc, x with
    | .int _, .int k, .val (.int _ n) => .ok True (.val (.int k (L.conv k n))) [] []
    | .str, .str, .val (.string s) => .ok True (.val (.string s)) [] []
    | .str, .sl e, .val (.string s) => match T e with
      | some ei => match ei.desc with
        | .int .u8 => .ok (L.makes (L.slen s) 1) (.sl d (Nat.succ (B d).gen) (L.slen s)) [(d, .arr false true (Nat.succ (B d).gen) 1 (L.slen s) (fun i => [.val (.int .u8 (L.sat s i))]))] [d]
        | _ => .bad
      | none => .bad
    | .sl e, .str, x => match T e with
      | some ei => match ei.desc with
        | .int .u8 => match x with
          | .lst n f => .ok (∀ i, L.isin i n → ∃ c : UInt8, f i = [.val (.int .u8 c.toNat)]) (.val (.string (L.ofB n f))) [] []
          | .sl e g n => match B e with
            | .arr _ _ g' _ n' f => match eqN g g' with
              | true => .ok (n = n' ∧ ∀ i, L.isin i n → ∃ c : UInt8, f i = [.val (.int .u8 c.toNat)]) (.val (.string (L.ofB n f))) [] [e]
              | false => .bad
            | _ => .bad
          | _ => .bad
        | _ => .bad
      | none => .bad
    | _, _, _ => .bad
  | _, _ => .bad
def makeSliceF (L : Leaf) (T : Nat → Option TI) (B : Nat → Blk) (d t : Nat) (n c : AV) : SR :=
  match sliceElem T t, n, c with
  | some (_, ei), .val (.int _ n), .val (.int _ c) => match ei.size with
    | 0 => .bad
    | _ + 1 => match allB AV.clC (mapL AV.val ei.zero) with
      | true => .ok (c = n ∧ L.makes n ei.bytes) (.sl d (Nat.succ (B d).gen) n) [(d, .arr false false (Nat.succ (B d).gen) ei.size n (fun _ => mapL AV.val ei.zero))] [d]
      | false => .bad
  | _, _, _ => .bad

def optMap (ρ : Operand → AV) : Option Operand → Option AV
  | none => none
  | some x => some (ρ x)
def mapP (ρ : Operand → AV) : List (Nat × Operand) → List (Nat × AV)
  | [] => []
  | (i, x) :: r => (i, ρ x) :: mapP ρ r
def stepF (L : Leaf) (T : Nat → Option TI) (ρ : Operand → AV) (B : Nat → Blk) (d : Nat) (o : Op) : SR :=
  match o with
  | .move x => .ok True (ρ x) [] []
  | .assign x => .ok True (ρ x) [] []
  | .pick c a b => match ρ c with
    | .val (.bool true) => .ok True (ρ a) [] []
    | .val (.bool false) => .ok True (ρ b) [] []
    | _ => .bad
  | .alloc t => match T t with
    | some ti => match allB AV.oneC (mapL AV.val ti.zero) with
      | true => .ok True (.pb d (Nat.succ (B d).gen) 0) [(d, .box false (Nat.succ (B d).gen) (mapL AV.val ti.zero))] [d]
      | false => .bad
    | none => .bad
  | .box _ x => match (ρ x).cells with
    | some cs => match allB AV.oneC cs with
      | true => .ok True (.pb d (Nat.succ (B d).gen) 0) [(d, .box false (Nat.succ (B d).gen) cs)] [d]
      | false => .bad
    | none => .bad
  | .build t parts => buildF T t (mapP ρ parts.toList)
  | .buildSlice t len parts => buildSliceF L T B d t len (mapP ρ parts.toList)
  | .load t a => loadF L T B t (ρ a)
  | .store t a x => storeF L T B t (ρ a) (ρ x)
  | .nilCheck x => match ρ x with
    | .clo f cs => .ok True (.clo f cs) [] []
    | y => match locF L B y with
      | .at _ _ pre rd => .ok pre y [] rd
      | .bad => .bad
  | .binOp op t x y _ => opF L T t op (ρ x) (ρ y)
  | .unOp op _ x => match op, ρ x with
    | .not, .val (.bool b) => .ok True (.val (.bool (L.bnot b))) [] []
    | .neg, .val (.int k n) => .ok True (.val (.int k (L.neg k n))) [] []
    | _, _ => .bad
  | .convert src dst x => convF L T B d src dst (ρ x)
  | .makeFunc fn first captured => match fn, first.toList with
    | .func f, [] => match allB AV.oneC (mapL ρ captured.toList) with
      | true => .ok True (.clo f (mapL ρ captured.toList)) [] []
      | false => .bad
    | _, _ => .bad
  | .makeSlice t n c => makeSliceF L T B d t (ρ n) (ρ c)
  | .slice t x lo hi mx => sliceF L T B t (ρ x) (optMap ρ lo) (optMap ρ hi) (optMap ρ mx)
  | .fieldAddr t x f => fieldAddrF L T B t f (ρ x)
  | .field t x f => fieldF T t f (ρ x)
  | .indexAddr t x i => indexAddrF L T B t (ρ x) (ρ i)
  | .index t x i => indexF L T t (ρ x) (ρ i)
  | .extract x i => match ρ x with
    | .tup vs => match getL i vs with
      | some v => .ok True v [] []
      | none => .bad
    | _ => .bad
  | .call c => match c.callee with
    | .builtin .len => match c.args.toList, c.argTypes.toList with
      | [x], [t] => lenF L T B t (ρ x)
      | _, _ => .bad
    | .builtin .append => match c.args.toList, c.argTypes.toList with
      | [x, y], [t, u] => match eqN t u with
        | true => appendF L T B d t (ρ x) (ρ y)
        | false => .bad
      | _, _ => .bad
    | .builtin .min => match mapL ρ c.args.toList with
      | .val (.int k a) :: r => foldI L.imin k a r
      | _ => .bad
    | .builtin .max => match mapL ρ c.args.toList with
      | .val (.int k a) :: r => foldI L.imax k a r
      | _ => .bad
    | _ => .bad
  | _ => .bad

/-- What comes in to be written: a box's cells, an array's elements. -/
inductive Inb where
  | box (cs : List AV)
  | arr (sz : Nat) (n : Int) (f : Int → List AV)
/-- What is a variable while a proof computes: the leaves, the call of a function (with nothing, with one own block that it may write), a loop. -/
structure Par where
  L : Leaf
  C : Nat → List AV → (AV → Prop) → Prop
  D : Nat → Inb → List AV → (AV → Inb → Prop) → Prop
  W : ((Exit → St → Prop) → St → Prop) → (Exit → St → Prop) → St → Prop
  S : ((St → Prop) → St → Prop) → (St → Prop) → St → Prop
  N : (Unit → Prop) → Prop

def disj (a b : List Nat) : Bool := allB (fun x => !(memN x b)) a
def ids : List (Nat × Blk) → List Nat
  | [] => []
  | (d, _) :: r => d :: ids r
/-- what an operation of a region has done: its number, the operation, own blocks written, own blocks read -/
structure Tr where
  i : Nat
  o : Oper
  wr : List Nat
  rd : List Nat
def opTmps : List Operand → List Nat
  | [] => []
  | .tmp t :: r => t :: opTmps r
  | _ :: r => opTmps r
def looks (ops : List Oper) (o : Oper) : List Nat :=
  match o.guard with
  | some (g, _) => match getL g ops with
    | some og => match og.dst with
      | some d => d :: opTmps o.op.operands.toList
      | none => opTmps o.op.operands.toList
    | none => opTmps o.op.operands.toList
  | none => opTmps o.op.operands.toList
def dstIn (o : Oper) (l : List Nat) : Bool :=
  match o.dst with
  | some d => memN d l
  | none => false
def dstEq (a b : Oper) : Bool :=
  match a.dst, b.dst with
  | some x, some y => eqN x y
  | _, _ => false
def onL : List Edge → List Nat
  | [] => []
  | e :: r => match e.ground with
    | .textOnly _ | .gcOnly _ => onL r
    | _ => e.on :: onL r
/-- nothing that the two do depends on which comes first -/
def apart (ops : List Oper) (a b : Tr) : Bool :=
  !(dstIn a.o (looks ops b.o)) && !(dstIn b.o (looks ops a.o)) && !(dstEq a.o b.o) && disj a.wr b.wr && disj a.wr b.rd && disj b.wr a.rd
def addAll : List Nat → List Nat → List Nat
  | [], acc => acc
  | x :: r, acc => match memN x acc with
    | true => addAll r acc
    | false => addAll r (x :: acc)
/-- what must come first, through others too -/
def closN (ops : List Oper) : Nat → List Nat → List Nat
  | 0, acc => acc
  | j + 1, acc => match memN j acc with
    | true => match getL j ops with
      | some o => closN ops j (addAll (onL o.after.toList) acc)
      | none => closN ops j acc
    | false => closN ops j acc
def okTr (ops : List Oper) (t : Tr) (tr : List Tr) : Bool :=
  match allB (fun j => ltN j t.i) (onL t.o.after.toList) with
  | true => allB (fun u => match memN u.i (onL t.o.after.toList) with
    | true => true
    | false => match apart ops u t with
      | true => true
      | false => memN u.i (closN ops t.i (onL t.o.after.toList))) tr
  | false => false
def getO (l : List Oper) (j : Nat) : Option Nat :=
  match getL j l with
  | some o => o.dst
  | none => none
/-- is the operation carried out? -/
inductive Gd where
  | bad
  | yes (b : Bool)
def guardF (ops : List Oper) (σ : St) (o : Oper) : Gd :=
  match o.guard with
  | none => .yes true
  | some (j, want) => match getO ops j with
    | none => .bad
    | some d => match getS d σ.s with
      | .val (.bool t) => match want with
        | true => .yes t
        | false => match t with
          | true => .yes false
          | false => .yes true
      | .val (.tuple _) => .yes false
      | _ => .bad
def calleeF (σ : St) : Callee → Option (Nat × List AV)
  | .value (.func g) => some (g, [])
  | .value (.tmp t) => match getS t σ.s with
    | .clo g cs => some (g, cs)
    | _ => none
  | _ => none
def isCall : Op → Option Call
  | .call c => match c.callee with
    | .value _ => some c
    | _ => none
  | _ => none
def dstN (o : Oper) : Nat :=
  match o.dst with
  | some d => d
  | none => 0

/-- an address, too: as the cells that lie there -/
def view1 (B : Nat → Blk) : AV → VR
  | .pb d g o => match B d with
    | .box _ g' cs => match eqN g g' with
      | true => match views (view0 B) cs with
        | .ok p l i => .ok p (.fp l o) (d :: i)
        | .bad => .bad
      | false => .bad
    | _ => .bad
  | a => view0 B a
def viewA (B : Nat → Blk) : AV → VR
  | .agg cs => match views (view0 B) cs with
    | .ok p l i => .ok p (.agg l) i
    | .bad => .bad
  | .clo f cs => match views (view1 B) cs with
    | .ok p l i => .ok p (.clo f l) i
    | .bad => .bad
  | a => view1 B a
/-- no memory behind it -/
def cleanA : AV → Bool
  | .val _ => true
  | .own cl _ _ _ => cl
  | _ => false
def cleanR : AV → Bool
  | .agg cs => allB cleanA cs
  | .tup cs => allB (fun a => match a with
    | .agg cs => allB cleanA cs
    | a => cleanA a) cs
  | a => cleanA a
/-- a result, as the caller has it -/
def instT (B : Nat → Blk) (d : Nat) : List AV → List AV × List (Nat × Blk)
  | [] => ([], [])
  | a :: r => match instT B (d + 10000) r with
    | (l, u) => match a with
      | .own _ sz n f => (.sl (d + 10000) (Nat.succ (B (d + 10000)).gen) n :: l, (d + 10000, .arr false false (Nat.succ (B (d + 10000)).gen) sz n f) :: u)
      | a => (a :: l, u)
def instR (B : Nat → Blk) (d : Nat) : AV → AV × List (Nat × Blk)
  | .own _ sz n f => (.sl d (Nat.succ (B d).gen) n, [(d, .arr false false (Nat.succ (B d).gen) sz n f)])
  | .tup rs => match instT B d rs with
    | (l, u) => (.tup l, u)
  | a => (a, [])
/-- behind a call: the result, the own blocks that have turned -/
def afterC (B : Nat → Blk) (d : Nat) (ids : List Nat) (r : AV) : AV × List (Nat × Blk) :=
  match instR B d r with
  | (v, u) => match cleanR r with
    | true => (v, u)
    | false => (v, appL (freezes B ids) u)
def okD (dr : Bool) (ops : List Oper) (t : Tr) (tr : List Tr) : Bool :=
  match dr with
  | true => okTr ops t tr
  | false => true
/-- the first argument, as what may be written -/
inductive IOR where
  | none
  | ok (pre : Prop) (d : Nat) (io : Inb) (ids : List Nat)
def ioF (B : Nat → Blk) : List AV → IOR
  | .pb d g 0 :: _ => match B d with
    | .box false g' cs => match eqN g g', views (view0 B) cs with
      | true, .ok p l i => .ok p d (.box l) i
      | _, _ => .none
    | _ => .none
  | .sl d g n :: _ => match B d with
    | .arr false _ g' sz n' f => match eqN g g' with
      | true => .ok (n = n') d (.arr sz n f) []
      | false => .none
    | _ => .none
  | _ => .none
def ioBlk (B : Nat → Blk) (d : Nat) : Inb → Blk
  | .box cs => match B d with
    | .box fz g _ => .box fz g cs
    | x => x
  | .arr sz n f => match B d with
    | .arr fz _ g _ _ _ => .arr fz true g sz n f
    | x => x
def hideB (B : Nat → Blk) (b e : Nat) : Blk :=
  match eqN e b with
  | true => .none
  | false => B e
/-- behind a call that wrote an own block -/
def afterD (B : Nat → Blk) (d b : Nat) (ids : List Nat) (r : AV) : AV × List (Nat × Blk) :=
  match instR (hideB B b) d r with
  | (v, u) => (v, appL (freezes B ids) u)
def tlL {α : Type} : List α → List α
  | [] => []
  | _ :: r => r
/-- one operation, then the rest -/
def opStep (p : Par) (T : Nat → Option TI) (dr : Bool) (ops : List Oper) (go : List Tr → St → Prop) (o : Oper) (i : Nat) (tr : List Tr) (σ : St) : Prop :=
    match guardF ops σ o with
    | .bad => False
    | .yes g => match g with
      | false => match okD dr ops ⟨i, o, [], []⟩ tr with
        | true => go (⟨i, o, [], []⟩ :: tr) (σ.put o.dst (.val (.tuple #[])))
        | false => False
      | true => match isCall o.op with
        | some c => match calleeF σ c.callee with
          | none => False
          | some (g, caps) =>
            (match views (viewA σ.B) (appL (mapL σ.ev c.args.toList) caps) with
              | .bad => False
              | .ok pre as ids => match noIo ids with
                | false => False
                | true => pre ∧ p.C g as (fun r => match afterC σ.B (dstN o) ids r with
                  | (v, upd) => match okD dr ops ⟨i, o, AB.ids upd, appL ids (AB.ids upd)⟩ tr with
                    | true => go (⟨i, o, AB.ids upd, appL ids (AB.ids upd)⟩ :: tr) ((σ.put o.dst v).upd upd)
                    | false => False)) ∨
            (match ioF σ.B (mapL σ.ev c.args.toList) with
              | .none => False
              | .ok pre1 b io ids1 => match views (viewA σ.B) (appL (tlL (mapL σ.ev c.args.toList)) caps) with
                | .bad => False
                | .ok pre as ids => match noIo (appL ids1 ids), memN b (appL ids1 ids) with
                  | true, false => (pre1 ∧ pre) ∧ p.D g io as (fun r io' => match afterD σ.B (dstN o) b (appL ids1 ids) r with
                    | (v, upd) => match memN b (AB.ids upd) with
                      | true => False
                      | false => match okD dr ops ⟨i, o, b :: AB.ids upd, b :: appL (appL ids1 ids) (AB.ids upd)⟩ tr with
                        | true => go (⟨i, o, b :: AB.ids upd, b :: appL (appL ids1 ids) (AB.ids upd)⟩ :: tr) (((σ.put o.dst v).upd upd).upd [(b, ioBlk σ.B b io')])
                        | false => False)
                  | _, _ => False)
        | none => match stepF p.L T σ.ev σ.B (dstN o) o.op with
          | .bad => False
          | .ok pre v upd rd =>
              match okD dr ops ⟨i, o, ids upd, rd⟩ tr with
              | true => pre ∧ go (⟨i, o, ids upd, rd⟩ :: tr) ((σ.put o.dst v).upd upd)
              | false => False

/-- a halt now and then -/
def stopAt (i : Nat) : Bool := eqN (Nat.mod i 8) 7
def aOps (p : Par) (T : Nat → Option TI) (dr : Bool) (ops : List Oper) (k : St → Prop) : List Oper → Nat → List Tr → St → Prop
  | [], _, _, σ => k σ
  | o :: rest, i, tr, σ => match stopAt i with
    | true => p.N (fun _ => opStep p T dr ops (fun tr' σ' => aOps p T dr ops k rest (Nat.succ i) tr' σ') o i tr σ)
    | false => opStep p T dr ops (fun tr' σ' => aOps p T dr ops k rest (Nat.succ i) tr' σ') o i tr σ

def thenQ (K : St → Prop) (Q : Exit → St → Prop) : Exit → St → Prop
  | .normal, σ => K σ
  | e, σ => Q e σ
def blockQ (id : Nat) (Q : Exit → St → Prop) : Exit → St → Prop
  | .exit id', σ => match eqN id' id with
    | true => Q .normal σ
    | false => Q (.exit id') σ
  | e, σ => Q e σ
/-- how many ways lead to the end of a code (2: several), how many leave by an exit -/
def min2 : Nat → Nat
  | 0 => 0
  | 1 => 1
  | _ => 2
def guarded : List Oper → Bool
  | [] => false
  | o :: r => match o.guard with
    | some _ => true
    | none => guarded r
def exitsTo (id : Nat) : Code → Nat
  | .seq a b => min2 (Nat.add (exitsTo id a) (exitsTo id b))
  | .cond _ a b => min2 (Nat.add (exitsTo id a) (exitsTo id b))
  | .block _ c => exitsTo id c
  | .loop c => exitsTo id c
  | .exit id' => match eqN id' id with
    | true => 1
    | false => 0
  | _ => 0
def ends : Code → Nat
  | .skip => 1
  | .region _ ops _ => match guarded ops.toList with
    | true => 2
    | false => 1
  | .seq a b => match ends a with
    | 0 => 0
    | _ => ends b
  | .cond _ a b => min2 (Nat.add (ends a) (ends b))
  | .block id c => min2 (Nat.add (ends c) (exitsTo id c))
  | _ => 0
def looped : Code → Bool
  | .loop _ => true
  | .block _ c => looped c
  | .seq _ b => looped b
  | _ => false
/-- is the code behind this one met by one state alone? -/
def cutQ (c : Code) : Bool :=
  match looped c with
  | true => true
  | false => match ends c with
    | 2 => true
    | _ => false
def awp (p : Par) (T : Nat → Option TI) : Code → (Exit → St → Prop) → St → Prop
  | .skip, Q, σ => Q .normal σ
  | .region _ ops dr, Q, σ => aOps p T dr ops.toList (fun σ' => Q .normal σ') ops.toList 0 [] σ
  | .seq a b, Q, σ => match cutQ a with
    | true => p.S (fun K σ' => awp p T a (fun e σ'' => thenQ K Q e σ'') σ') (fun σ' => awp p T b Q σ') σ
    | false => awp p T a (fun e σ' => thenQ (fun σ'' => awp p T b Q σ'') Q e σ') σ
  | .cond c x y, Q, σ => match σ.ev c with
    | .val (.bool t) => match t with
      | true => awp p T x Q σ
      | false => awp p T y Q σ
    | _ => False
  | .block id c, Q, σ => awp p T c (fun e σ' => blockQ id Q e σ') σ
  | .loop c, Q, σ => p.W (fun Q' σ' => awp p T c Q' σ') Q σ
  | .exit id, Q, σ => Q (.exit id) σ
  | .ret, Q, σ => Q .ret σ
  | _, _, _ => False

end AB
end
