/- The abstract machine: symbolic values, mutable objects, and what an operation does to them. -/
import Derived.WalkKit
import Derived.Lib.Strings
namespace Go.Am
set_option linter.all false
set_option linter.deprecated false

inductive Sh where
  | int (k : IntKind) | bool | str | slice (e : List Sh) | ptr (e : List Sh) | other
inductive D where
  | un | int (n : Int) | bool (b : Bool) | str (s : List UInt8) | list (xs : List (List D)) | ptr (cs : List D)
instance : Inhabited D := ⟨.un⟩
def D.toInt : D → Int | .int n => n | _ => 0
def D.toBool : D → Bool | .bool b => b | _ => false
def D.toStr : D → List UInt8 | .str s => s | _ => []
def D.toList : D → List (List D) | .list xs => xs | _ => []
def D.toCells : D → List D | .ptr cs => cs | _ => []
def lk {α : Type} [Inhabited α] (xs : List α) (i : Nat) : α := xs.getD i default

/-- symbolic values -/
inductive AV where
  | un | udf
  | int (k : IntKind) (n : Unit → Int)
  | bool (b : Unit → Bool)
  | str (s : Unit → List UInt8)
  | nils | nilp | nilf
  | sl (nn : Bool) (e : List Sh) (xs : Unit → List (List D))
  | pt (cs : List AV)
  | ms (n : Nat) (lo len : Unit → Nat)
  | mp (n off : Nat)
  | me (n : Nat) (i : Unit → Nat) (off : Nat)
  | ax (n off cnt : Nat) (i : Unit → Nat)
  | agg (cs : List AV) | tup (vs : List AV)
  | fn (f : Nat) (caps : List AV)
  | yl (l : Nat)
inductive MObj where
  | row (nn : Bool) (e : List Sh) (xs : Unit → List (List D))
  | imm (nn : Bool) (e : List Sh) (xs : Unit → List (List D))
  | obj (cs : List AV)
  | dp (e : List Sh) (j : Nat) (xs : Unit → List (List D))   -- a row whose column j holds slices that are each its own
abbrev MS := List (Nat × MObj)

/-! types -/
inductive TD where
  | int (k : IntKind) | bool | str | slice (elem : Nat) (esz ebytes : Nat) (esh : List Sh) | ptr (elem : Nat)
  | struct (fs : List (Nat × Nat × Nat)) (cmp : Bool) | array (n elem esz : Nat) | func | other
structure TI where
  size : Nat
  agg : Bool
  zero : List AV
  td : TD
abbrev TL := List (Nat × TI)
def tget' : TL → Nat → Option TI
  | [], _ => none
  | (k, i) :: T, t => match Nat.beq k t with | true => some i | false => tget' T t
abbrev TT := Nat → Option TI
def tget (T : TT) (t : Nat) : Option TI := T t

def lget : List AV → Nat → AV
  | [], _ => .un
  | v :: _, 0 => v
  | _ :: vs, n + 1 => lget vs n
def lset : List AV → Nat → AV → List AV
  | [], _, _ => []
  | _ :: vs, 0, v => v :: vs
  | u :: vs, n + 1, v => u :: lset vs n v
def ldrop : List AV → Nat → List AV
  | vs, 0 => vs
  | [], _ + 1 => []
  | _ :: vs, n + 1 => ldrop vs n
def ltake : List AV → Nat → List AV
  | _, 0 => []
  | [], _ + 1 => []
  | v :: vs, n + 1 => v :: ltake vs n
def lapp : List AV → List AV → List AV
  | [], ys => ys
  | x :: xs, ys => x :: lapp xs ys
def llen : List AV → Nat
  | [] => 0
  | _ :: vs => llen vs + 1
def mget : MS → Nat → Option MObj
  | [], _ => none
  | (k, o) :: M, n => match Nat.beq k n with | true => some o | false => mget M n
def mset : MS → Nat → MObj → MS
  | [], n, o => [(n, o)]
  | (k, p) :: M, n, o => match Nat.beq k n with | true => (k, o) :: M | false => (k, p) :: mset M n o
def mdel : MS → Nat → MS
  | [], _ => []
  | (k, p) :: M, n => match Nat.beq k n with | true => mdel M n | false => (k, p) :: mdel M n

/-- what is proved of a datum: cells behind a shape -/
def av : Sh → (Unit → D) → AV
  | .int k, d => .int k (fun _ => (d ()).toInt)
  | .bool, d => .bool (fun _ => (d ()).toBool)
  | .str, d => .str (fun _ => (d ()).toStr)
  | .slice e, d => .sl false e (fun _ => (d ()).toList)
  | _, _ => .un
def avs (e : List Sh) (ds : Unit → List D) : List AV := go e 0
where go : List Sh → Nat → List AV
  | [], _ => []
  | s :: ss, j => av s (fun _ => lk (ds ()) j) :: go ss (j + 1)
def wfB (k : IntKind) (n : Int) : Bool := decide (k.min ≤ n) && decide (n ≤ k.max)
/-- constants -/
def cv : Value → AV
  | .int k n => match wfB k n with | true => .int k (fun _ => n) | false => .un
  | .bool b => .bool (fun _ => b)
  | .string s => match Nat.ble s.size 1099511627776 with | true => .str (fun _ => s.data.toList) | false => .un
  | .slice none 0 0 => .nils
  | .pointer none => .nilp
  | .nilFunc => .nilf
  | _ => .un
def opv (env : List AV) : Operand → AV
  | .tmp t => lget env t
  | .const v => cv v
  | .func f => .fn f []
  | .global _ => .un
def opvs (env : List AV) : List Operand → List AV
  | [] => []
  | x :: xs => opv env x :: opvs env xs

structure Eff where
  vc : List (Unit → Prop)
  val : AV
  rd : List Nat
  upd : List (Nat × Option MObj)
def Eff.pure (v : AV) : Option Eff := some ⟨[], v, [], []⟩
def Eff.chk (p : Unit → Prop) (v : AV) : Option Eff := some ⟨[p], v, [], []⟩
def mapply : MS → List (Nat × Option MObj) → MS
  | M, [] => M
  | M, (k, some o) :: us => mapply (mset M k o) us
  | M, (k, none) :: us => mapply (mdel M k) us

mutual
def shEq : Sh → Sh → Bool
  | .int k, .int k' => decide (k = k')
  | .bool, .bool => true
  | .str, .str => true
  | .slice e, .slice e' => shEqs e e'
  | .ptr e, .ptr e' => shEqs e e'
  | .other, .other => true
  | _, _ => false
def shEqs : List Sh → List Sh → Bool
  | [], [] => true
  | s :: ss, t :: ts => match shEq s t with | true => shEqs ss ts | false => false
  | _, _ => false
end
/-- a value that may be laid into a row's cell of a shape -/
def enc : Sh → AV → Option (Unit → D)
  | .int k, .int k' n => match decide (k = k') with | true => some (fun _ => .int (n ())) | false => none
  | .bool, .bool b => some (fun _ => .bool (b ()))
  | .str, .str s => some (fun _ => .str (s ()))
  | .slice (_ :: _), .nils => some (fun _ => .list [])
  | .slice e, .sl _ e' xs => match shEqs e' e with | true => some (fun _ => .list (xs ())) | false => none
  | _, _ => none
def encs : List Sh → List AV → Option (List (Unit → D))
  | [], [] => some []
  | s :: ss, v :: vs => match enc s v, encs ss vs with | some d, some ds => some (d :: ds) | _, _ => none
  | _, _ => none
def dall (ds : List (Unit → D)) : List D := ds.map (fun d => d ())
/-- the cells that a value takes up -/
def cellsOf : AV → List AV
  | .agg cs => cs
  | v => [v]

/-! scalar operations -/
def ibits (op : BinOp) (k : IntKind) (x y : Int) : Int :=
  let a := BitVec.ofInt k.bits x
  let b := BitVec.ofInt k.bits y
  match op with
  | .and => k.wrap (a &&& b).toNat
  | .or => k.wrap (a ||| b).toNat
  | .xor => k.wrap (a ^^^ b).toNat
  | .andNot => k.wrap (a &&& ~~~b).toNat
  | _ => 0
def ishl (k : IntKind) (x y : Int) : Int := k.wrap (x * 2 ^ (min y.toNat k.bits))
def ishr (k : IntKind) (x y : Int) : Int := x.fdiv (2 ^ (min y.toNat k.bits))
def binInt (op : BinOp) (k : IntKind) (a : Unit → Int) (k' : IntKind) (b : Unit → Int) : Option Eff :=
  match op with
  | .shl => Eff.chk (fun _ => 0 ≤ b ()) (.int k fun _ => ishl k (a ()) (b ()))
  | .shr => Eff.chk (fun _ => 0 ≤ b ()) (.int k fun _ => ishr k (a ()) (b ()))
  | _ => match decide (k = k') with
    | false => none
    | true => match op with
      | .add => Eff.pure (.int k fun _ => k.wrap (a () + b ()))
      | .sub => Eff.pure (.int k fun _ => k.wrap (a () - b ()))
      | .mul => Eff.pure (.int k fun _ => k.wrap (a () * b ()))
      | .quo => Eff.chk (fun _ => b () ≠ 0) (.int k fun _ => k.wrap ((a ()).tdiv (b ())))
      | .rem => Eff.chk (fun _ => b () ≠ 0) (.int k fun _ => (a ()).tmod (b ()))
      | .and => Eff.pure (.int k fun _ => ibits .and k (a ()) (b ()))
      | .or => Eff.pure (.int k fun _ => ibits .or k (a ()) (b ()))
      | .xor => Eff.pure (.int k fun _ => ibits .xor k (a ()) (b ()))
      | .andNot => Eff.pure (.int k fun _ => ibits .andNot k (a ()) (b ()))
      | .eql => Eff.pure (.bool fun _ => a () == b ())
      | .neq => Eff.pure (.bool fun _ => a () != b ())
      | .lss => Eff.pure (.bool fun _ => decide (a () < b ()))
      | .leq => Eff.pure (.bool fun _ => decide (a () ≤ b ()))
      | .gtr => Eff.pure (.bool fun _ => decide (b () < a ()))
      | .geq => Eff.pure (.bool fun _ => decide (b () ≤ a ()))
      | _ => none
def isNil : AV → Option Bool
  | .nils | .nilp | .nilf => some true
  | .sl true _ _ | .pt _ | .mp .. | .me .. | .fn .. => some false
  | _ => none
/-- a slice, a pointer, a function held against nil -/
def nilCmp : TD → AV → AV → Option Bool
  | .slice .., .nils, .nils => some true
  | .slice .., .sl true _ _, .nils => some false
  | .ptr _, .nilp, .nilp => some true
  | .ptr _, .pt _, .nilp => some false
  | .ptr _, .mp .., .nilp => some false
  | .func, .nilf, .nilf => some true
  | .func, .fn .., .nilf => some false
  | _, _, _ => none
def loadAv (ti : TI) (cs : List AV) : AV := match ti.agg with | true => .agg (ltake cs ti.size) | false => lget cs 0
mutual
/-- '==' between two values of a type -/
def eqAv (T : TT) : Nat → Nat → AV → AV → Option (Unit → Bool)
  | 0, _, _, _ => none
  | d + 1, t, x, y => match tget T t with
    | none => none
    | some ti => match ti.td, x, y with
      | .bool, .bool a, .bool b => some (fun _ => a () == b ())
      | .int _, .int k a, .int k' b => match decide (k = k') with | true => some (fun _ => a () == b ()) | false => none
      | .str, .str a, .str b => some (fun _ => a () == b ())
      | .struct fs true, .agg xs, .agg ys => eqFs T d fs xs ys
      | td, x, y => match nilCmp td x y with
        | some b => some (fun _ => b)
        | none => none
def eqFs (T : TT) : Nat → List (Nat × Nat × Nat) → List AV → List AV → Option (Unit → Bool)
  | _, [], _, _ => some (fun _ => true)
  | d, (off, ft, sz) :: fs, xs, ys => match tget T ft with
    | none => none
    | some fi => match Nat.ble (off + sz) (llen xs), Nat.ble (off + sz) (llen ys), Nat.ble 1 sz, eqAv T d ft (loadAv fi (ldrop xs off)) (loadAv fi (ldrop ys off)), eqFs T d fs xs ys with
      | true, true, true, some a, some b => some (fun _ => a () && b ())
      | _, _, _, _, _ => none
end
def binAv (T : TT) (t : Nat) (op : BinOp) (x y : AV) : Option Eff :=
  match x, y with
  | .int k a, .int k' b => binInt op k a k' b
  | .str a, .str b => match op with
    | .eql => Eff.pure (.bool fun _ => a () == b ())
    | .neq => Eff.pure (.bool fun _ => a () != b ())
    | .add => Eff.chk (fun _ => (a ()).length + (b ()).length ≤ 1099511627776) (.str fun _ => a () ++ b ())
    | .lss => Eff.pure (.bool fun _ => Op.bytesLess (a ()) (b ()))
    | .leq => Eff.pure (.bool fun _ => Op.bytesLess (a ()) (b ()) || a () == b ())
    | .gtr => Eff.pure (.bool fun _ => !(Op.bytesLess (a ()) (b ()) || a () == b ()))
    | .geq => Eff.pure (.bool fun _ => !(Op.bytesLess (a ()) (b ())))
    | _ => none
  | x, y => match op, eqAv T 40 t x y with
    | .eql, some b => Eff.pure (.bool b)
    | .neq, some b => Eff.pure (.bool fun _ => !(b ()))
    | _, _ => none
def unAv (op : UnOp) (x : AV) : Option Eff :=
  match op, x with
  | .not, .bool b => Eff.pure (.bool fun _ => !(b ()))
  | .neg, .int k n => Eff.pure (.int k fun _ => k.wrap (0 - n ()))
  | .xor, .int k n => Eff.pure (.int k fun _ => ibits .xor k (if k.signed then -1 else k.max) (n ()))
  | _, _ => none

def big : Nat := 1099511627776
/-! memory -/
/-- cells that are integers of one kind -/
def ints : List AV → Option (IntKind × List (Unit → Int))
  | [] => none
  | [.int k f] => some (k, [f])
  | .int k f :: vs => match ints vs with
    | some (k', fs) => match decide (k = k') with | true => some (k, f :: fs) | false => none
    | none => none
  | _ => none
def load1 (M : MS) (ti : TI) : AV → Option Eff
  | .pt cs => match Nat.ble ti.size (llen cs), Nat.ble 1 ti.size with | true, true => Eff.pure (loadAv ti cs) | _, _ => none
  | .mp n off => match mget M n with
    | some (.obj cs) => match Nat.ble (off + ti.size) (llen cs), Nat.ble 1 ti.size with
      | true, true => some ⟨[], loadAv ti (ldrop cs off), [n], []⟩ | _, _ => none
    | _ => none
  | .me n i off => match mget M n with
    | some (.row _ e xs) | some (.imm _ e xs) => match Nat.ble (off + ti.size) e.length, Nat.ble 1 ti.size with
      | true, true => some ⟨[fun _ => i () < (xs ()).length], loadAv ti (ldrop (avs e (fun _ => lk (xs ()) (i ()))) off), [n], []⟩ | _, _ => none
    | _ => none
  | .ax n off cnt i => match mget M n, Nat.beq ti.size 1, ti.agg with
    | some (.obj cs), true, false => match Nat.ble (off + cnt) (llen cs), ints (ltake (ldrop cs off) cnt) with
      | true, some (k, fs) => some ⟨[fun _ => i () < cnt], .int k (fun _ => lk (fs.map fun f => f ()) (i ())), [n], []⟩
      | _, _ => none
    | _, _, _ => none
  | _ => none
def lput : List AV → Nat → List AV → List AV
  | cs, _, [] => cs
  | cs, off, v :: vs => lput (lset cs off v) (off + 1) vs
def setCells (ds : List D) (off : Nat) : List D → List D
  | [] => ds
  | d :: rest => setCells (ds.set off d) (off + 1) rest
def plain1 : AV → Bool
  | .agg _ | .tup _ | .un | .udf => false
  | _ => true
def plains : List AV → Bool
  | [] => true
  | v :: vs => match plain1 v with | true => plains vs | false => false
def eshAt : List Sh → Nat → Nat → List Sh
  | _, _, 0 => []
  | [], _, _ => []
  | s :: ss, 0, n + 1 => s :: eshAt ss 0 n
  | _ :: ss, o + 1, n => eshAt ss o n
def nmem : List Nat → Nat → Bool
  | [], _ => false
  | k :: ks, n => match Nat.beq k n with | true => true | false => nmem ks n
mutual
def ro (M : MS) : AV → Option (AV × List Nat × List (Unit → Prop))
  | .ms n lo len => match mget M n with
    | some (.row _ e xs) | some (.imm _ e xs) => some (.sl false e (fun _ => ((xs ()).drop (lo ())).take (len ())), [n], [fun _ => lo () + len () ≤ (xs ()).length])
    | _ => none
  | .agg cs => match ros M cs with | some (cs, r, v) => some (.agg cs, r, v) | none => none
  | .fn f cs => match ros M cs with | some (cs, r, v) => some (.fn f cs, r, v) | none => none
  | .mp .. | .me .. | .ax .. | .un | .udf => none
  | v => some (v, [], [])
def ros (M : MS) : List AV → Option (List AV × List Nat × List (Unit → Prop))
  | [] => some ([], [], [])
  | v :: vs => match ro M v, ros M vs with
    | some (v, r, c), some (vs, r', c') => some (v :: vs, r ++ r', c ++ c')
    | _, _ => none
end
/-- rows that were lent to a call whose answer may hold on to them are frozen -/
def freeze (M : MS) : List Nat → List (Nat × Option MObj)
  | [] => []
  | k :: ks => match mget M k with
    | some (.row nn e xs) => (k, some (.imm nn e xs)) :: freeze M ks
    | _ => freeze M ks
def store1 (M : MS) (ti : TI) (x : AV) : AV → Option Eff
  | .mp n off => match mget M n with
    | some (.obj cs) => match Nat.ble (off + ti.size) (llen cs), Nat.beq (llen (cellsOf x)) ti.size, plains (cellsOf x) with
      | true, true, true => some ⟨[], .un, [n], [(n, some (.obj (lput cs off (cellsOf x))))]⟩ | _, _, _ => none
    | _ => none
  | .me n i off => match mget M n with
    | some (.row nn e xs) => match ros M (cellsOf x) with
      | none => none
      | some (cs, lent, vc) => match Nat.beq (llen (cellsOf x)) ti.size, Nat.beq ((eshAt e off ti.size).length) ti.size, encs (eshAt e off ti.size) cs, nmem lent n with
        | true, true, some ds, false => match Nat.beq off 0, Nat.beq ti.size e.length, Nat.ble 1 ti.size with
          | true, true, true => some ⟨(fun _ => i () < (xs ()).length) :: vc, .un, n :: lent,
            freeze M lent ++ [(n, some (.row nn e (fun _ => (xs ()).set (i ()) (dall ds))))]⟩
          | _, _, true => some ⟨(fun _ => i () < (xs ()).length) :: (fun _ => (lk (xs ()) (i ())).length = e.length) :: vc, .un, n :: lent,
            freeze M lent ++ [(n, some (.row nn e (fun _ => (xs ()).set (i ()) (setCells (lk (xs ()) (i ())) off (dall ds)))))]⟩
          | _, _, _ => none
        | _, _, _, _ => none
    | _ => none
  | _ => none
/-- the elements of a slice -/
def elems (M : MS) : AV → Option (List Sh × (Unit → List (List D)) × List Nat × List (Unit → Prop))
  | .sl _ e xs => some (e, xs, [], [])
  | .ms n lo len => match mget M n with
    | some (.row _ e xs) | some (.imm _ e xs) => some (e, (fun _ => ((xs ()).drop (lo ())).take (len ())), [n], [fun _ => lo () + len () ≤ (xs ()).length])
    | _ => none
  | _ => none
def lenAv : TD → AV → Option Eff
  | .slice .., .sl _ _ xs => Eff.pure (.int .i64 fun _ => ((xs ()).length : Int))
  | .slice .., .ms _ _ len => Eff.pure (.int .i64 fun _ => (len () : Int))
  | .str, .str s => Eff.pure (.int .i64 fun _ => ((s ()).length : Int))
  | .slice .., .nils => Eff.pure (.int .i64 fun _ => 0)
  | _, _ => none
/-- a shape's column that holds own slices -/
def ownCol : List Sh → Nat → Option (Nat × List Sh)
  | [], _ => none
  | .ptr u :: _, j => some (j, u)
  | _ :: ss, j => ownCol ss (j + 1)
def unown : List Sh → List Sh
  | [] => []
  | .ptr u :: ss => .slice u :: unown ss
  | s :: ss => s :: unown ss
def flatCol : List Sh → Bool
  | [] => true
  | .int _ :: ss | .bool :: ss | .str :: ss => flatCol ss
  | _ => false
def othersFlat : List Sh → Nat → Bool
  | [], _ => true
  | _ :: ss, 0 => flatCol ss
  | .int _ :: ss, j + 1 | .bool :: ss, j + 1 | .str :: ss, j + 1 => othersFlat ss j
  | _, _ => false
/-- a slice of one element, which takes its slice over -/
def buildDp (M : MS) (key : Nat) (esh : List Sh) (cs : List AV) : Option Eff :=
  match ownCol esh 0 with
  | none => none
  | some (j, u) => match lget cs j with
    | .ms k lo len => match mget M k with
      | some (.row _ e ys) => match encs (unown esh) (lset cs j (.sl false e ys)), shEqs e u, flatCol u, othersFlat (unown esh) j, Nat.blt j esh.length with
        | some ds, true, true, true, true => some ⟨[fun _ => lo () = 0, fun _ => len () = (ys ()).length], .ms key (fun _ => 0) (fun _ => 1), [k], [(k, none), (key, some (.dp (unown esh) j (fun _ => [dall ds])))]⟩
        | _, _, _, _, _ => none
      | _ => none
    | _ => none
def isDp (M : MS) : AV → Bool
  | .ms n _ _ => match mget M n with | some (.dp ..) => true | _ => false
  | _ => false
def appendDp (M : MS) (key : Nat) (esh : List Sh) (eb : Nat) (s x : AV) : Option Eff :=
  match Nat.ble eb 128, x with
  | true, .ms n' lo' len' => match mget M n' with
    | some (.dp e j ys) => match shEqs e (unown esh), s with
      | true, .nils => some ⟨[fun _ => 0 < (ys ()).length, fun _ => (ys ()).length ≤ big, fun _ => lo' () = 0, fun _ => len' () = (ys ()).length], .ms key (fun _ => 0) (fun _ => (ys ()).length), [n'], [(n', none), (key, some (.dp e j ys))]⟩
      | true, .ms n lo len => match mget M n, Nat.beq n n' with
        | some (.dp e2 j2 xs), false => match shEqs e2 e, Nat.beq j2 j with
          | true, true => some ⟨[fun _ => 0 < (ys ()).length, fun _ => (xs ()).length + (ys ()).length ≤ big, fun _ => lo' () = 0, fun _ => len' () = (ys ()).length, fun _ => lo () = 0, fun _ => len () = (xs ()).length],
              .ms key (fun _ => 0) (fun _ => (xs ()).length + (ys ()).length), [n, n'], [(n, none), (n', none), (key, some (.dp e j (fun _ => xs () ++ ys ())))]⟩
          | _, _ => none
        | _, _ => none
      | _, _ => none
    | _ => none
  | _, _ => none
def appendAv (M : MS) (key : Nat) (esh : List Sh) (eb : Nat) (s x : AV) : Option Eff :=
  match Nat.ble eb 128, esh, x, s with
  | true, _ :: _, .nils, .nils => Eff.pure .nils
  | true, _ :: _, x, s => match elems M x with
    | none => none
    | some (e2, ys, r2, v2) => match shEqs e2 esh, s with
      | true, .nils => some ⟨(fun _ => (ys ()).length ≤ big) :: v2, .ms key (fun _ => 0) (fun _ => (ys ()).length), r2, [(key, some (.row false esh ys))]⟩
      | true, .ms n lo len => match mget M n, nmem r2 n with
        | some (.row nn e xs), false => match shEqs e esh with
          | true => some ⟨(fun _ => lo () = 0) :: (fun _ => len () ≤ (xs ()).length) :: (fun _ => len () + (ys ()).length ≤ big) :: v2,
              .ms key (fun _ => 0) (fun _ => len () + (ys ()).length), n :: r2, [(n, none), (key, some (.row nn e (fun _ => (xs ()).take (len ()) ++ ys ())))]⟩
          | false => none
        | _, _ => none
      | _, _ => none
  | _, _, _, _ => none
/-- so many zeros put behind -/
def appendZ (M : MS) (key : Nat) (esh : List Sh) (eb : Nat) (ds : List (Unit → D)) (s : AV) (n : Unit → Int) : Option Eff :=
  match Nat.ble eb 128, s with
  | true, .ms k lo len => match mget M k with
    | some (.row nn e xs) => match shEqs e esh with
      | true => some ⟨[fun _ => lo () = 0, fun _ => len () ≤ (xs ()).length, fun _ => 0 ≤ n () ∧ (len () : Int) + n () ≤ big],
          .ms key (fun _ => 0) (fun _ => len () + (n ()).toNat), [k], [(k, none), (key, some (.row nn e (fun _ => (xs ()).take (len ()) ++ List.replicate (n ()).toNat (dall ds))))]⟩
      | false => none
    | _ => none
  | _, _ => none
def bnd (dflt : Unit → Int) : Option AV → Option (Unit → Int)
  | none => some dflt
  | some (.int _ n) => some n
  | some _ => none
def rowSz (M : MS) (n : Nat) : Option Nat :=
  match mget M n with
  | some (.row _ e _) | some (.imm _ e _) => some e.length
  | _ => none
def sliceAv (M : MS) (td : TD) (x : AV) (lo hi mx : Option AV) : Option Eff :=
  match bnd (fun _ => 0) lo with
  | none => none
  | some l => match td, x with
    | .slice _ sz _ _, .sl _ e xs => match bnd (fun _ => ((xs ()).length : Int)) hi with
      | none => none
      | some h => match bnd h mx, Nat.beq e.length sz with
        | some m, true => some ⟨[fun _ => 0 ≤ l () ∧ l () ≤ h () ∧ h () ≤ m () ∧ m () ≤ ((xs ()).length : Int)],
            .sl false e (fun _ => ((xs ()).drop (l ()).toNat).take ((h ()).toNat - (l ()).toNat)), [], []⟩
        | _, _ => none
    | .slice _ sz _ _, .ms n s0 len => match bnd (fun _ => (len () : Int)) hi with
      | none => none
      | some h => match bnd h mx, rowSz M n with
        | some m, some z => match Nat.beq z sz with
          | true => some ⟨[fun _ => 0 ≤ l () ∧ l () ≤ h () ∧ h () ≤ m () ∧ m () ≤ (len () : Int)],
            .ms n (fun _ => s0 () + (l ()).toNat) (fun _ => (h ()).toNat - (l ()).toNat), [n], []⟩
          | false => none
        | _, _ => none
    | .str, .str s => match bnd (fun _ => ((s ()).length : Int)) hi, mx with
      | some h, none => some ⟨[fun _ => 0 ≤ l () ∧ l () ≤ h () ∧ h () ≤ ((s ()).length : Int)],
            .str (fun _ => ((s ()).drop (l ()).toNat).take ((h ()).toNat - (l ()).toNat)), [], []⟩
      | _, _ => none
    | _, _ => none
def indexAddrAv (M : MS) (td : TD) (x i : AV) : Option Eff :=
  match td, x, i with
  | .slice _ sz _ _, .sl _ e xs, .int _ n => match Nat.beq e.length sz with
    | true => Eff.chk (fun _ => 0 ≤ n () ∧ n () < ((xs ()).length : Int)) (.pt (avs e (fun _ => lk (xs ()) (n ()).toNat)))
    | false => none
  | .slice _ sz _ _, .ms k lo len, .int _ n => match rowSz M k with
    | some z => match Nat.beq z sz with
      | true => some ⟨[fun _ => 0 ≤ n () ∧ n () < (len () : Int)], .me k (fun _ => lo () + (n ()).toNat) 0, [k], []⟩
      | false => none
    | none => none
  | .array cnt _ 1, .mp k off, .int _ n => Eff.chk (fun _ => 0 ≤ n () ∧ n () < (cnt : Int)) (.ax k off cnt (fun _ => (n ()).toNat))
  | _, _, _ => none
def fieldAddrAv (off : Nat) : AV → Option AV
  | .pt cs => some (.pt (ldrop cs off))
  | .mp n o => some (.mp n (o + off))
  | .me n i o => some (.me n i (o + off))
  | _ => none
def fget : List (Nat × Nat × Nat) → Nat → Option (Nat × Nat × Nat)
  | [], _ => none
  | f :: _, 0 => some f
  | _ :: fs, n + 1 => fget fs n
def buildAv (fs : List (Nat × Nat × Nat)) : List AV → List (Nat × AV) → Option (List AV)
  | cs, [] => some cs
  | cs, (i, v) :: rest => match fget fs i with
    | none => none
    | some (off, _, sz) => match Nat.beq (llen (cellsOf v)) sz, plains (cellsOf v), Nat.ble (off + sz) (llen cs) with
      | true, true, true => buildAv fs (lput cs off (cellsOf v)) rest
      | _, _, _ => none
/-- the places of an array's elements -/
def places (sz : Nat) : Nat → Nat → List (Nat × Nat × Nat)
  | _, 0 => []
  | i, n + 1 => (i * sz, 0, sz) :: places sz (i + 1) n
def rep (zs : List AV) : Nat → List AV
  | 0 => []
  | n + 1 => lapp zs (rep zs n)
def chunk (sz : Nat) : Nat → List (Unit → D) → List (List (Unit → D))
  | 0, _ => []
  | n + 1, ds => ds.take sz :: chunk sz n (ds.drop sz)
def repSh (e : List Sh) : Nat → List Sh
  | 0 => []
  | n + 1 => e ++ repSh e n
def convAv (M : MS) (key : Nat) (T : TT) (src dst : Nat) (x : AV) : Option Eff :=
  match tget T src, tget T dst with
  | some si, some di => match di.td, x with
    | .int k, .int _ n => Eff.pure (.int k fun _ => k.wrap (n ()))
    | .str, .str s => Eff.pure (.str s)
    | .slice el 1 1 [.int .u8], .str s => match si.td, tget T el with
      | .str, some ⟨_, _, _, .int .u8⟩ => some ⟨[fun _ => (s ()).length ≤ big], .ms key (fun _ => 0) (fun _ => (s ()).length), [],
        [(key, some (.row true [.int .u8] (fun _ => (s ()).map fun b => [D.int b.toNat])))]⟩
      | _, _ => none
    | .str, .nils => match si.td with
      | .slice el _ _ _ => match tget T el with
        | some ⟨_, _, _, .int .u8⟩ => Eff.pure (.str fun _ => [])
        | _ => none
      | _ => none
    | .str, x => match si.td with
      | .slice el _ _ _ => match tget T el, elems M x with
        | some ⟨_, _, _, .int .u8⟩, some ([.int .u8], xs, r, vc) => some ⟨vc, .str (fun _ => (xs ()).map fun c => UInt8.ofNat (lk c 0).toInt.toNat), r, []⟩
        | _, _ => none
      | _ => none
    | .slice el _ _ _, .ms n lo len => match Nat.beq src dst, mget M n, tget T el with
      | true, some (.row true e xs), some ⟨_, _, _, .int .u8⟩ => some ⟨[], .ms n lo len, [n], [(n, some (.row true e xs))]⟩
      | _, _, _ => none
    | _, _ => none
  | _, _ => none
def minInts (k : IntKind) : (Unit → Int) → List AV → Option (Unit → Int)
  | a, [] => some a
  | a, .int k' b :: vs => match decide (k = k') with | true => minInts k (fun _ => min (a ()) (b ())) vs | false => none
  | _, _ => none
def builtinAv (M : MS) (key : Nat) (T : TT) (b : Builtin) (ats : List Nat) (args : List AV) : Option Eff :=
  match b, args with
  | .len, [x] => match ats with
    | t :: _ => match tget T t with | some ti => lenAv ti.td x | none => none
    | [] => none
  | .append, [s, x] => match ats with
    | [t, t'] => match tget T t with
      | some ti => match ti.td with
        | .slice el _ eb esh => match Nat.beq t t' with
          | true => match isDp M x with
            | true => appendDp M key esh eb s x
            | false => appendAv M key esh eb s x
          | false => match tget T t', tget T el, x with
            | some ⟨_, _, _, .int .i64⟩, some ei, .int .i64 n => match encs esh ei.zero with
              | some ds => appendZ M key esh eb ds s n
              | none => none
            | _, _, _ => none
        | _ => none
      | none => none
    | _ => none
  | .min, .int k a :: vs => match minInts k a vs with | some n => Eff.pure (.int k n) | none => none
  | .copy, [.ms n lo len, src] => match mget M n, elems M src with
    | some (.row nn e xs), some (e2, ys, r, vc) => match nmem r n, shEqs e2 e with
      | false, true => match ats with
        | t :: _ => match tget T t with
          | some ti => match ti.td with
            | .slice _ esz _ _ => match Nat.beq e.length esz with
              | true => some ⟨(fun _ => lo () + len () ≤ (xs ()).length) :: vc, .int .i64 (fun _ => ((min (len ()) (ys ()).length : Nat) : Int)), n :: r,
                [(n, some (.row nn e (fun _ => (xs ()).take (lo ()) ++ (ys ()).take (len ()) ++ (xs ()).drop (lo () + min (len ()) (ys ()).length))))]⟩
              | false => none
            | _ => none
          | none => none
        | [] => none
      | _, _ => none
    | _, _ => none
  | _, _ => none

/-! contracts and calls -/
inductive Mode where
  | ro | mut
/-- what a contract says of a call: canonical arguments and objects in; conditions, the value, the objects behind -/
structure Res where
  vc : List (Unit → Prop)
  val : AV
  objs : List (Nat × Option MObj)
/-- .. where the answer is one of several: for each choice d that is possible -/
structure NRes where
  pre : List (Unit → Prop)
  ok : D → Prop
  res : D → AV × List (Nat × Option MObj)
structure Contract where
  modes : List Mode
  fn : List AV → MS → Option Res
  nfn : List AV → MS → Option NRes := fun _ _ => none
abbrev Ctx := Nat → Option Contract
def cget (G : Ctx) (f : Nat) : Option Contract := G f
def modeArgs (M : MS) : List Mode → List AV → Option (List AV × List Nat × List (Unit → Prop))
  | [], [] => some ([], [], [])
  | .ro :: ms, v :: vs => match ro M v, modeArgs M ms vs with
    | some (v, r, c), some (vs, r', c') => some (v :: vs, r ++ r', c ++ c')
    | _, _ => none
  | .mut :: ms, v :: vs => match modeArgs M ms vs with
    | some (vs, r', c') => some (v :: vs, r', c')
    | _ => none
  | _, _ => none
mutual
def keysOf : AV → List Nat → List Nat
  | .ms n _ _, ks | .mp n _, ks | .me n _ _, ks | .ax n _ _ _, ks => match nmem ks n with | true => ks | false => ks ++ [n]
  | .agg cs, ks | .tup cs, ks | .fn _ cs, ks | .pt cs, ks => keysOfs cs ks
  | _, ks => ks
def keysOfs : List AV → List Nat → List Nat
  | [], ks => ks
  | v :: vs, ks => keysOfs vs (keysOf v ks)
end
def reach (M : MS) : Nat → Nat → List Nat → List Nat
  | 0, _, ks => ks
  | f + 1, i, ks => match ks[i]? with
    | none => ks
    | some k => match mget M k with
      | some (.obj cs) => reach M f (i + 1) (keysOfs cs ks)
      | _ => reach M f (i + 1) ks
def kidx : List Nat → Nat → Nat → Option Nat
  | [], _, _ => none
  | k :: ks, n, i => match Nat.beq k n with | true => some i | false => kidx ks n (i + 1)
mutual
def renC (ks : List Nat) : AV → Option AV
  | .ms n lo len => match kidx ks n 0 with | some i => some (.ms i lo len) | none => none
  | .mp n off => match kidx ks n 0 with | some i => some (.mp i off) | none => none
  | .me n i off => match kidx ks n 0 with | some j => some (.me j i off) | none => none
  | .ax n off c i => match kidx ks n 0 with | some j => some (.ax j off c i) | none => none
  | .agg cs => match renCs ks cs with | some cs => some (.agg cs) | none => none
  | .tup cs => match renCs ks cs with | some cs => some (.tup cs) | none => none
  | .fn f cs => match renCs ks cs with | some cs => some (.fn f cs) | none => none
  | .pt cs => match renCs ks cs with | some cs => some (.pt cs) | none => none
  | v => some v
def renCs (ks : List Nat) : List AV → Option (List AV)
  | [] => some []
  | v :: vs => match renC ks v, renCs ks vs with | some v, some vs => some (v :: vs) | _, _ => none
end
mutual
def ren (f : Nat → Nat) : AV → AV
  | .ms n lo len => .ms (f n) lo len
  | .mp n off => .mp (f n) off
  | .me n i off => .me (f n) i off
  | .ax n off c i => .ax (f n) off c i
  | .agg cs => .agg (rens f cs)
  | .tup cs => .tup (rens f cs)
  | .fn g cs => .fn g (rens f cs)
  | .pt cs => .pt (rens f cs)
  | v => v
def rens (f : Nat → Nat) : List AV → List AV
  | [] => []
  | v :: vs => ren f v :: rens f vs
end
def renO (f : Nat → Nat) : MObj → MObj
  | .obj cs => .obj (rens f cs)
  | o => o
def subM (M : MS) (ks : List Nat) : List Nat → Nat → Option MS
  | [], _ => some []
  | k :: rest, i => match mget M k with
    | some (.obj cs) => match renCs ks cs, subM M ks rest (i + 1) with
      | some cs, some S => some ((i, .obj cs) :: S)
      | _, _ => none
    | some o => match subM M ks rest (i + 1) with
      | some S => some ((i, o) :: S)
      | none => none
    | none => none
def back (ks : List Nat) (m base i : Nat) : Nat := match Nat.blt i m with | true => ks.getD i 0 | false => base + (i - m)
def renUpd (f : Nat → Nat) : List (Nat × Option MObj) → List (Nat × Option MObj)
  | [] => []
  | (k, some o) :: us => (f k, some (renO f o)) :: renUpd f us
  | (k, none) :: us => (f k, none) :: renUpd f us
def nodupB : List Nat → Bool
  | [] => true
  | k :: ks => match nmem ks k with | true => false | false => nodupB ks
def disj : List Nat → List Nat → Bool
  | [], _ => true
  | k :: ks, l => match nmem l k with | true => false | false => disj ks l
mutual
/-- its keys are below a number -/
def kltV (n : Nat) : AV → Bool
  | .ms k _ _ | .mp k _ | .me k _ _ | .ax k _ _ _ => Nat.blt k n
  | .agg cs | .tup cs | .fn _ cs | .pt cs => kltVs n cs
  | _ => true
def kltVs (n : Nat) : List AV → Bool
  | [] => true
  | v :: vs => match kltV n v with | true => kltVs n vs | false => false
end
def kltU (n : Nat) : List (Nat × Option MObj) → Bool
  | [] => true
  | (k, o) :: us => match Nat.blt k n, (match o with | some (.obj cs) => kltVs n cs | _ => true) with | true, true => kltU n us | _, _ => false
mutual
/-- it leads into no memory but by keys -/
def flatV : AV → Bool
  | .sl .. | .pt _ => false
  | .agg cs | .tup cs | .fn _ cs => flatVs cs
  | _ => true
def flatVs : List AV → Bool
  | [] => true
  | v :: vs => match flatV v with | true => flatVs vs | false => false
end
def flatSh : List Sh → Bool
  | [] => true
  | .int _ :: ss | .bool :: ss | .str :: ss => flatSh ss
  | _ => false
def flatM : MS → Bool
  | [] => true
  | (_, .row _ e _) :: M => match flatSh e with | true => flatM M | false => false
  | (_, .obj cs) :: M => match flatVs cs with | true => flatM M | false => false
  | (_, .imm ..) :: _ => false
  | (_, .dp ..) :: M => flatM M
def noLent (lent : List Nat) (v : AV) (M : MS) : Bool :=
  match lent with
  | [] => true
  | _ => match flatV v with | true => flatM M | false => false
def callAv (M : MS) (base : Nat) (C : Contract) (args : List AV) : Option Eff :=
  match modeArgs M C.modes args with
  | none => none
  | some (args, lent, vc0) =>
    let ks := reach M 40 0 (keysOfs args [])
    match renCs ks args, subM M ks ks 0, nodupB ks, disj lent ks with
    | some cargs, some cM, true, true => match C.fn cargs cM with
      | none => none
      | some r =>
        let m := ks.length
        let f := back ks m base
        match kltV (m + 8) r.val, kltU (m + 8) r.objs with
        | true, true => some ⟨vc0 ++ r.vc, ren f r.val, lent ++ ks, (match noLent lent r.val (mapply cM r.objs) with | true => [] | false => freeze M lent) ++ renUpd f r.objs⟩
        | _, _ => none
    | _, _, _, _ => none
/-- an effect that is one of several -/
structure NEff where
  pre : List (Unit → Prop)
  ok : D → Prop
  eff : D → Option Eff
def callRes (M : MS) (base : Nat) (ks lent : List Nat) (cM : MS) (val : AV) (objs : List (Nat × Option MObj)) : Option Eff :=
  match kltV (ks.length + 8) val, kltU (ks.length + 8) objs with
  | true, true => some ⟨[], ren (back ks ks.length base) val, lent ++ ks, (match noLent lent val (mapply cM objs) with | true => [] | false => freeze M lent) ++ renUpd (back ks ks.length base) objs⟩
  | _, _ => none
def callNv (M : MS) (base : Nat) (C : Contract) (args : List AV) : Option NEff :=
  match modeArgs M C.modes args with
  | none => none
  | some (args, lent, vc0) =>
    let ks := reach M 40 0 (keysOfs args [])
    match renCs ks args, subM M ks ks 0, nodupB ks, disj lent ks with
    | some cargs, some cM, true, true => match C.nfn cargs cM with
      | none => none
      | some r => some ⟨vc0 ++ r.pre, r.ok, fun d => callRes M base ks lent cM (r.res d).1 (r.res d).2⟩
    | _, _, _, _ => none
/-- a slice held against nil, of which it is not known whether it is there -/
def nilN (M : MS) (b : Bool) : TD → AV → AV → Option NEff
  | .slice .., .sl false _ xs, .nils => some ⟨[], fun d => d.toBool = true → xs () = [], fun d => some ⟨[], .bool (fun _ => d.toBool == b), [], []⟩⟩
  | .slice .., .ms n _ len, .nils => match mget M n with
    | some (.row true _ _) | some (.imm true _ _) => some ⟨[], fun d => d.toBool = false, fun d => some ⟨[], .bool (fun _ => d.toBool == b), [n], []⟩⟩
    | some (.row false _ _) | some (.imm false _ _) => some ⟨[], fun d => d.toBool = true → len () = 0, fun d => some ⟨[], .bool (fun _ => d.toBool == b), [n], []⟩⟩
    | _ => none
  | _, _, _ => none
def omap (env : List AV) : Option Operand → Option AV
  | none => none
  | some x => some (opv env x)
def natOp : AV → Option AV
  | v => some v

def pairs (env : List AV) : List (Nat × Operand) → List (Nat × AV)
  | [] => []
  | (i, x) :: ps => (i, opv env x) :: pairs env ps
def pickAv (res : Option Bool) (c a b : AV) : Option Eff :=
  match res with
  | some true => Eff.pure a
  | some false => Eff.pure b
  | none => match c, a, b with
    | .bool c, .bool a, .bool b => Eff.pure (.bool fun _ => bif c () then a () else b ())
    | _, _, _ => none
def rget : List (Nat × Bool) → Nat → Option Bool
  | [], _ => none
  | (k, b) :: r, n => match Nat.beq k n with | true => some b | false => rget r n
def rdel : List (Nat × Bool) → Option Nat → List (Nat × Bool)
  | r, none => r
  | [], _ => []
  | (k, b) :: r, some n => match Nat.beq k n with | true => rdel r (some n) | false => (k, b) :: rdel r (some n)
def resOf (res : List (Nat × Bool)) : Operand → Option Bool
  | .tmp t => rget res t
  | .const (.bool b) => some b
  | _ => none

/-- what an operation does -/
def aop (T : TT) (G : Ctx) (env : List AV) (res : List (Nat × Bool)) (M : MS) (base : Nat) (o : Op) : Option Eff :=
  match o with
  | .move x | .assign x => Eff.pure (opv env x)
  | .pick c a b => pickAv (resOf res c) (opv env c) (opv env a) (opv env b)
  | .alloc t => match tget T t with
    | some ti => some ⟨[], .mp base 0, [], [(base, some (.obj ti.zero))]⟩
    | none => none
  | .box t x => match tget T t with
    | some ti => match Nat.beq (llen (cellsOf (opv env x))) ti.size, plains (cellsOf (opv env x)) with
      | true, true => some ⟨[], .mp base 0, [], [(base, some (.obj (cellsOf (opv env x))))]⟩
      | _, _ => none
    | none => none
  | .build t parts => match tget T t with
    | some ti => match ti.td with
      | .struct fs _ => match buildAv fs ti.zero (pairs env parts.toList) with | some cs => Eff.pure (.agg cs) | none => none
      | .array n _ sz => match buildAv (places sz 0 n) ti.zero (pairs env parts.toList) with | some cs => Eff.pure (.agg cs) | none => none
      | _ => none
    | none => none
  | .buildSlice t len parts => match tget T t with
    | some ti => match ti.td with
      | .slice el sz _ esh => match tget T el with
        | some ei => match buildAv (places sz 0 len) (rep ei.zero len) (pairs env parts.toList) with
          | some cs => match ownCol esh 0 with
            | some _ => match Nat.beq len 1, Nat.ble sz 16777216, ei.zero with
              | true, true, _ :: _ => buildDp M base esh cs
              | _, _, _ => none
            | none => match ros M cs with
            | none => none
            | some (cs, lent, vc) => match encs (repSh esh len) cs with
              | some ds => match Nat.ble (len * sz) 16777216, ei.zero with
                | true, _ :: _ => some ⟨vc, .ms base (fun _ => 0) (fun _ => len), lent, freeze M lent ++ [(base, some (.row true esh (fun _ => (chunk sz len ds).map dall)))]⟩
                | _, _ => none
              | none => none
          | none => none
        | none => none
      | _ => none
    | none => none
  | .load t a => match tget T t with
    | some ti => load1 M ti (opv env a)
    | none => none
  | .store t a x => match tget T t with
    | some ti => store1 M ti (opv env x) (opv env a)
    | none => none
  | .nilCheck x => match isNil (opv env x) with | some false => Eff.pure (opv env x) | _ => none
  | .binOp op t x y _ => binAv T t op (opv env x) (opv env y)
  | .unOp op _ x => unAv op (opv env x)
  | .convert s d x => convAv M base T s d (opv env x)
  | .makeFunc (.func f) first caps => match first.toList with
    | [] => Eff.pure (.fn f (opvs env caps.toList))
    | _ => none
  | .makeSlice t l c => match tget T t, opv env l, opv env c with
    | some ti, .int .i64 n, .int .i64 m => match ti.td with
      | .slice el _ eb esh => match tget T el, Nat.ble eb 128 with
        | some ei, true => match encs esh ei.zero with
          | some ds => some ⟨[fun _ => n () = m (), fun _ => 0 ≤ n () ∧ n () ≤ big], .ms base (fun _ => 0) (fun _ => (n ()).toNat), [], [(base, some (.row true esh (fun _ => List.replicate (n ()).toNat (dall ds))))]⟩
          | none => none
        | _, _ => none
      | _ => none
    | _, _, _ => none
  | .slice t x lo hi mx => match tget T t with
    | some ti => match hi, mx with
      | none, some _ => none
      | _, _ => sliceAv M ti.td (opv env x) (omap env lo) (omap env hi) (omap env mx)
    | none => none
  | .fieldAddr s x f => match tget T s with
    | some ti => match ti.td with
      | .struct fs _ => match fget fs f with
        | some (off, _, sz) => match Nat.ble 1 sz, fieldAddrAv off (opv env x) with
          | true, some v => Eff.pure v
          | _, _ => none
        | none => none
      | _ => none
    | none => none
  | .field s x f => match tget T s, opv env x with
    | some ti, .agg cs => match ti.td with
      | .struct fs _ => match fget fs f with
        | some (off, ft, sz) => match tget T ft, Nat.ble (off + sz) (llen cs), Nat.ble 1 sz with
          | some fi, true, true => Eff.pure (loadAv fi (ldrop cs off))
          | _, _, _ => none
        | none => none
      | _ => none
    | _, _ => none
  | .indexAddr t x i => match tget T t with
    | some ti => indexAddrAv M ti.td (opv env x) (opv env i)
    | none => none
  | .index t x i => match tget T t, opv env x, opv env i with
    | some ⟨_, _, _, .str⟩, .str s, .int _ n => Eff.chk (fun _ => 0 ≤ n () ∧ n () < ((s ()).length : Int)) (.int .u8 fun _ => ((lk (s ()) (n ()).toNat).toNat : Int))
    | _, _, _ => none
  | .extract x i => match opv env x with
    | .tup vs => match Nat.blt i (llen vs) with | true => Eff.pure (lget vs i) | false => none
    | _ => none
  | .call c => match c.callee with
    | .builtin b => builtinAv M base T b c.argTypes.toList (opvs env c.args.toList)
    | .value f => match opv env f with
      | .fn g caps => match cget G g with
        | some C => callAv M base C (lapp (opvs env c.args.toList) caps)
        | none => none
      | _ => none
    | _ => none
  | _ => none

/-- what an operation does, if it is one of several things -/
def nop (T : TT) (G : Ctx) (env : List AV) (M : MS) (base : Nat) (o : Op) : Option NEff :=
  match o with
  | .binOp .eql t x y _ => match tget T t with | some ti => nilN M true ti.td (opv env x) (opv env y) | none => none
  | .binOp .neq t x y _ => match tget T t with | some ti => nilN M false ti.td (opv env x) (opv env y) | none => none
  | .call c => match c.callee with
    | .value f => match opv env f with
      | .fn g caps => match cget G g with
        | some C => callNv M base C (lapp (opvs env c.args.toList) caps)
        | none => none
      | _ => none
    | _ => none
  | _ => none

/-! regions and code -/
structure AState where
  env : List AV
  M : MS
  nx : Nat
structure RS where
  env : List AV
  M : MS
  res : List (Nat × Bool)
  log : List (Nat × List Nat × List Nat)
inductive Hold (p : Unit → Prop) : Prop where
  | mk : p () → Hold p
structure Split (b : Unit → Bool) (X Y : Unit → Prop) : Prop where
  t : b () = true → X ()
  f : b () = false → Y ()
def vcs : List (Unit → Prop) → Prop → Prop
  | [], r => r
  | p :: ps, r => Hold p ∧ vcs ps r
def lset? (env : List AV) : Option Nat → AV → List AV
  | none, _ => env
  | some d, v => lset env d v
def ukeys : List (Nat × Option MObj) → List Nat
  | [] => []
  | (k, _) :: us => k :: ukeys us
def logOf (i : Nat) (e : Eff) (l : List (Nat × List Nat × List Nat)) : List (Nat × List Nat × List Nat) :=
  match e.rd, e.upd with
  | [], [] => l
  | rd, us => (i, rd, ukeys us) :: l
/-- one operation that is wanted -/
def wop (T : TT) (G : Ctx) (i base : Nat) (o : Oper) (r : RS) (K : RS → Prop) : Prop :=
  match aop T G r.env r.res r.M (base + 8 * i) o.op with
  | none => False
  | some e => vcs e.vc (K ⟨lset? r.env o.dst e.val, mapply r.M e.upd, rdel r.res o.dst, logOf i e r.log⟩)
def gslot (ops : List Oper) (j : Nat) : Option Nat := match ops[j]? with | some o => o.dst | none => none
def skipR (o : Oper) (r : RS) : RS := ⟨lset? r.env o.dst .udf, r.M, rdel r.res o.dst, r.log⟩
def beqB : Bool → Bool → Bool
  | true, true => true
  | false, false => true
  | _, _ => false
def wops (T : TT) (G : Ctx) (all : List Oper) (base : Nat) : List Oper → Nat → RS → (RS → Prop) → Prop
  | [], _, r, K => K r
  | o :: os, i, r, K => match o.guard with
    | none => wop T G i base o r (fun r => wops T G all base os (i + 1) r K)
    | some (j, want) => match gslot all j with
      | none => False
      | some d => match rget r.res d with
        | some b => match beqB b want with
          | true => wop T G i base o r (fun r => wops T G all base os (i + 1) r K)
          | false => wops T G all base os (i + 1) (skipR o r) K
        | none => match lget r.env d with
          | .bool f => match want with
            | true => Split f (fun _ => wop T G i base o ⟨r.env, r.M, (d, true) :: r.res, r.log⟩ (fun r => wops T G all base os (i + 1) r K))
                (fun _ => wops T G all base os (i + 1) (skipR o ⟨r.env, r.M, (d, false) :: r.res, r.log⟩) K)
            | false => Split f (fun _ => wops T G all base os (i + 1) (skipR o ⟨r.env, r.M, (d, true) :: r.res, r.log⟩) K)
                (fun _ => wop T G i base o ⟨r.env, r.M, (d, false) :: r.res, r.log⟩ (fun r => wops T G all base os (i + 1) r K))
          | .udf => wops T G all base os (i + 1) (skipR o r) K
          | _ => False
/-- one operation that is wanted, of a region in the text's order -/
def wopN (T : TT) (G : Ctx) (i base : Nat) (o : Oper) (r : RS) (K : RS → Prop) : Prop :=
  match aop T G r.env r.res r.M (base + 8 * i) o.op with
  | some e => vcs e.vc (K ⟨lset? r.env o.dst e.val, mapply r.M e.upd, rdel r.res o.dst, []⟩)
  | none => match nop T G r.env r.M (base + 8 * i) o.op with
    | none => False
    | some n => vcs n.pre (∀ d, n.ok d → match n.eff d with
      | none => False
      | some e => K ⟨lset? r.env o.dst e.val, mapply r.M e.upd, rdel r.res o.dst, []⟩)
def wopsN (T : TT) (G : Ctx) (all : List Oper) (base : Nat) : List Oper → Nat → RS → (RS → Prop) → Prop
  | [], _, r, K => K r
  | o :: os, i, r, K => match o.guard with
    | none => wopN T G i base o r (fun r => wopsN T G all base os (i + 1) r K)
    | some (j, want) => match gslot all j with
      | none => False
      | some d => match rget r.res d with
        | some b => match beqB b want with
          | true => wopN T G i base o r (fun r => wopsN T G all base os (i + 1) r K)
          | false => wopsN T G all base os (i + 1) (skipR o r) K
        | none => match lget r.env d with
          | .bool f => match want with
            | true => Split f (fun _ => wopN T G i base o ⟨r.env, r.M, (d, true) :: r.res, []⟩ (fun r => wopsN T G all base os (i + 1) r K))
                (fun _ => wopsN T G all base os (i + 1) (skipR o ⟨r.env, r.M, (d, false) :: r.res, []⟩) K)
            | false => Split f (fun _ => wopsN T G all base os (i + 1) (skipR o ⟨r.env, r.M, (d, true) :: r.res, []⟩) K)
                (fun _ => wopN T G i base o ⟨r.env, r.M, (d, false) :: r.res, []⟩ (fun r => wopsN T G all base os (i + 1) r K))
          | .udf => wopsN T G all base os (i + 1) (skipR o r) K
          | _ => False
/-- the ancestors of an operation -/
def ancGo (ops : List Oper) : Nat → List Nat → List Nat
  | 0, acc => acc
  | i + 1, acc => match nmem acc i with
    | false => ancGo ops i acc
    | true => ancGo ops i (acc ++ (match ops[i]? with | some o => (o.after.toList.filter (fun e => Region.binds .any e)).map (·.on) | none => []))
def anc (ops : List Oper) (j : Nat) : List Nat := ancGo ops (j + 1) [j]
def okPair (ops : List Oper) (x y : Nat × List Nat × List Nat) : Bool :=
  (disj x.2.2 y.2.1 && disj x.2.2 y.2.2 && disj y.2.2 x.2.1) || nmem (anc ops y.1) x.1 || nmem (anc ops x.1) y.1
def okLog (ops : List Oper) : List (Nat × List Nat × List Nat) → Bool
  | [] => true
  | x :: l => l.all (okPair ops x) && okLog ops l

inductive AExit where
  | normal | exit (id : Nat) | ret
inductive LoopP (B : AState → (AExit → AState → Prop) → Prop) (Fit : AState → AState → Prop) (Q : AExit → AState → Prop) (s : AState) : Prop where
  | mk (ι : Type) (inv : ι → AState) (μ : ι → Nat) (x : ι) (start : Fit s (inv x))
      (round : ∀ x, B (inv x) (fun e s' => match e with | .normal => ∃ y, μ y < μ x ∧ Fit s' (inv y) | e => Q e s')) : LoopP B Fit Q s

/-! fitting one state into another -/
def kget : List (Nat × Option Nat) → Nat → Option (Option Nat)
  | [], _ => none
  | (k, v) :: l, n => match Nat.beq k n with | true => some v | false => kget l n
structure Fs where
  map : List (Nat × Option Nat)   -- wanted key ↦ the key that is there (none: a nil row)
  todo : List Nat
  vc : List (Unit → Prop)
  froz : List Nat
def Fs.bindKey (f : Fs) (want : Nat) (have_ : Option Nat) : Option Fs :=
  match kget f.map want with
  | none => some { f with map := (want, have_) :: f.map, todo := f.todo ++ [want] }
  | some h => match h, have_ with
    | some a, some b => match Nat.beq a b with | true => some f | false => none
    | none, none => some f
    | _, _ => none
def Fs.add (f : Fs) (p : Unit → Prop) : Fs := { f with vc := f.vc ++ [p] }
def leB (a b : Bool) : Bool := match b with
  | false => true
  | true => a
mutual
def fitV (M : MS) : AV → AV → Fs → Option Fs
  | _, .un, f => some f
  | .udf, .udf, f => some f
  | .int k a, .int k' b, f => match decide (k = k') with | true => some (f.add fun _ => a () = b ()) | false => none
  | .bool a, .bool b, f => some (f.add fun _ => a () = b ())
  | .str a, .str b, f => some (f.add fun _ => a () = b ())
  | .nils, .nils, f => some f
  | .nilp, .nilp, f => some f
  | .nilf, .nilf, f => some f
  | .nils, .sl false (_ :: _) ys, f => some (f.add fun _ => ys () = [])
  | .sl nn e xs, .sl nn' e' ys, f => match leB nn nn', shEqs e e' with
    | true, true => some (f.add fun _ => xs () = ys ())
    | _, _ => none
  | .pt cs, .pt ds, f => fitVs M cs ds f
  | .nils, .ms m lo len, f => match f.bindKey m none with
    | some f => some (f.add fun _ => lo () = 0 ∧ len () = 0)
    | none => none
  | .ms n lo len, .ms m lo' len', f => match f.bindKey m (some n) with
    | some f => some (f.add fun _ => lo () = lo' () ∧ len () = len' ())
    | none => none
  | .ms n lo len, .sl false e' ys, f => match mget M n with
    | some (.row _ e xs) | some (.imm _ e xs) => match shEqs e e' with
      | true => some { (f.add fun _ => lo () + len () ≤ (xs ()).length ∧ ((xs ()).drop (lo ())).take (len ()) = ys ()) with froz := f.froz ++ [n] }
      | false => none
    | _ => none
  | .mp n off, .mp m off', f => match Nat.beq off off' with | true => f.bindKey m (some n) | false => none
  | .agg cs, .agg ds, f => fitVs M cs ds f
  | .tup cs, .tup ds, f => fitVs M cs ds f
  | .fn g cs, .fn g' ds, f => match Nat.beq g g' with | true => fitVs M cs ds f | false => none
  | .yl a, .yl b, f => match Nat.beq a b with | true => some f | false => none
  | _, _, _ => none
def fitVs (M : MS) : List AV → List AV → Fs → Option Fs
  | [], [], f => some f
  | v :: vs, u :: us, f => match fitV M v u f with | some f => fitVs M vs us f | none => none
  | _, _, _ => none
end
def fitO (M : MS) (a : Nat) : MObj → MObj → Fs → Option Fs
  | .row nn e xs, .row nn' e' ys, f => match leB nn nn', shEqs e e' with
    | true, true => some (f.add fun _ => xs () = ys ())
    | _, _ => none
  | .imm nn e xs, .imm nn' e' ys, f => match leB nn nn', shEqs e e' with
    | true, true => some (f.add fun _ => xs () = ys ())
    | _, _ => none
  | .row nn e xs, .imm nn' e' ys, f => match leB nn nn', shEqs e e' with
    | true, true => some { (f.add fun _ => xs () = ys ()) with froz := f.froz ++ [a] }
    | _, _ => none
  | .obj cs, .obj ds, f => fitVs M cs ds f
  | .dp e j xs, .dp e' j' ys, f => match shEqs e e', Nat.beq j j' with
    | true, true => some (f.add fun _ => xs () = ys ())
    | _, _ => none
  | _, _, _ => none
def fitObjs (M M' : MS) : Nat → Fs → Option Fs
  | 0, _ => none
  | n + 1, f => match f.todo with
    | [] => some f
    | k :: ks => match kget f.map k, mget M' k with
      | some (some a), some o' => match mget M a with
        | some o => match fitO M a o o' { f with todo := ks } with
          | some f => fitObjs M M' n f
          | none => none
        | none => none
      | some none, some (.row false (_ :: _) ys) => fitObjs M M' n ({ f with todo := ks }.add fun _ => ys () = [])
      | some none, some (.dp e j ys) => match Nat.blt j e.length with
        | true => fitObjs M M' n ({ f with todo := ks }.add fun _ => ys () = [])
        | false => none
      | _, _ => none
def isImm : Option MObj → Bool
  | some (.imm ..) => true
  | _ => false
def diffKey (a : Nat) : List (Nat × Option Nat) → Bool
  | [] => true
  | (_, some b) :: l => match Nat.beq a b with | true => false | false => diffKey a l
  | (_, none) :: l => diffKey a l
/-- no two wanted keys stand for one; none that is frozen is wanted as mutable; the objects that came with the call keep their numbers -/
def keysOk (M' : MS) (froz : List Nat) (m nx : Nat) : List (Nat × Option Nat) → Bool
  | [] => true
  | (k, none) :: l => match Nat.ble m k, Nat.blt k nx with | true, true => keysOk M' froz m nx l | _, _ => false
  | (k, some a) :: l => match Nat.blt k nx, diffKey a l, (match nmem froz a with | true => isImm (mget M' k) | false => true), (match Nat.blt k m with | true => Nat.beq k a | false => true) with
    | true, true, true, true => keysOk M' froz m nx l
    | _, _, _, _ => false
def covers (map : List (Nat × Option Nat)) : MS → Bool
  | [] => true
  | (k, _) :: M => match kget map k with | some _ => covers map M | none => false
/-- the objects that came with the call, ahead of all -/
def pins (m : Nat) : MS → Fs → Option Fs
  | [], f => some f
  | (k, _) :: M, f => match Nat.blt k m with
    | true => match f.bindKey k (some k) with | some f => pins m M f | none => none
    | false => pins m M f
def holds : List (Unit → Prop) → Prop
  | [] => True
  | [p] => Hold p
  | p :: ps => Hold p ∧ holds ps
def fitEnv (m : Nat) (M : MS) (env : List AV) (M' : MS) (env' : List AV) (nx' : Nat) : Option (List (Unit → Prop)) :=
  match pins m M' ⟨[], [], [], []⟩ with
  | none => none
  | some f => match fitVs M env env' f with
    | none => none
    | some f => match fitObjs M M' 60 f with
      | none => none
      | some f => match keysOk M' f.froz m nx' f.map, covers f.map M', Nat.ble m nx' with
        | true, true, true => some f.vc
        | _, _, _ => none
def fit (m : Nat) (s s' : AState) : Prop :=
  match fitEnv m s.M s.env s'.M s'.env s'.nx with
  | some vc => holds vc
  | none => False

def awp (T : TT) (G : Ctx) (m : Nat) : Code → (AExit → AState → Prop) → AState → Prop
  | .skip, Q, s => Q .normal s
  | .ret, Q, s => Q .ret s
  | .exit id, Q, s => Q (.exit id) s
  | .seq a b, Q, s => awp T G m a (fun e s => match e with | .normal => awp T G m b Q s | e => Q e s) s
  | .block id c, Q, s => awp T G m c (fun e s => match e with
      | .exit i => match Nat.beq i id with | true => Q .normal s | false => Q (.exit i) s
      | e => Q e s) s
  | .cond c x y, Q, s => match opv s.env c with
    | .bool b => Split b (fun _ => awp T G m x Q s) (fun _ => awp T G m y Q s)
    | _ => False
  | .loop c, Q, s => LoopP (fun s Q => awp T G m c Q s) (fit m) Q s
  | .region _ ops draw, Q, s => match draw with
    | false => wopsN T G ops.toList s.nx ops.toList 0 ⟨s.env, s.M, [], []⟩ (fun r => Q .normal ⟨r.env, r.M, s.nx + 8 * ops.toList.length⟩)
    | true => wops T G ops.toList s.nx ops.toList 0 ⟨s.env, s.M, [], []⟩ (fun r => match okLog ops.toList r.log with
      | true => Q .normal ⟨r.env, r.M, s.nx + 8 * ops.toList.length⟩
      | false => False)
  | _, _, _ => False
end Go.Am
/- What the symbolic values and objects say of the machine's values and memory; that it is kept. -/
namespace Go.Am
set_option linter.all false
set_option linter.deprecated false

/-- where an object lies: its block, how many elements there is room for, their size, further blocks; o: what lies ahead of the row in its block, tl: what lies behind; pin: what the block was when it came in (it is to be left with the rest as it was) -/
structure Pl where
  b : Nat
  cap : Nat
  sz : Nat
  fs : Nat → Prop
  o : Nat
  tl : Nat
  pin : Option (Array Value × TypeId × (Nat × Nat))
/-- a place of one block -/
abbrev Pl.one (b cap sz : Nat) : Pl := ⟨b, cap, sz, fun _ => False, 0, 0, none⟩
abbrev Sig := Nat → Option (Option Pl)

mutual
def Dat (w : World) (I : Nat → Prop) : Sh → D → Value → Prop
  | .int k, d, v => v = .int k d.toInt ∧ wfB k d.toInt = true
  | .bool, d, v => v = .bool d.toBool
  | .str, d, v => ∃ s : ByteArray, v = .string s ∧ s.data.toList = d.toStr ∧ s.size ≤ maxLen
  | .slice e, d, v => ∃ a len cap, v = .slice a len cap ∧ len = d.toList.length ∧ len ≤ cap ∧ cap ≤ maxLen ∧ (a = none → cap = 0) ∧ 0 < e.length ∧
      ∀ i, i < len → ∃ b off, a = some ⟨b, off, none⟩ ∧ I b ∧ DatC w I e 0 (lk d.toList i) b (off + i * e.length)
  | .ptr _, _, _ => False
  | .other, _, _ => False
def DatC (w : World) (I : Nat → Prop) : List Sh → Nat → List D → Nat → Nat → Prop
  | [], _, _, _, _ => True
  | s :: ss, j, ds, b, o => (∃ u, w.cell? ⟨b, o + j, none⟩ = some u ∧ Dat w I s (lk ds j) u) ∧ DatC w I ss (j + 1) ds b o
end

/-- a mutable slice's value: its row's place, the first element, how many -/
def MsR (p : Option (Option Pl)) (lo len : Nat) (v : Value) : Prop :=
  match p with
  | none => False
  | some none => v = .slice none 0 0 ∧ lo = 0 ∧ len = 0
  | some (some p) => ∃ off cap, v = .slice (some ⟨p.b, off, none⟩) len cap ∧ (cap = 0 ∨ off = p.o + lo * p.sz) ∧ lo + cap ≤ p.cap ∧ len ≤ cap ∧ p.cap ≤ maxLen
def PtR (p : Option (Option Pl)) (v : Value) (f : Pl → Nat) : Prop :=
  match p with
  | some (some p) => v = .pointer (some ⟨p.b, f p, none⟩)
  | _ => False

mutual
def VR (w : World) (I : Nat → Prop) (σ : Sig) : AV → Value → Prop
  | .un, _ => True
  | .udf, v => v = undef
  | .int k n, v => v = .int k (n ()) ∧ wfB k (n ()) = true
  | .bool b, v => v = .bool (b ())
  | .str s, v => ∃ t : ByteArray, v = .string t ∧ t.data.toList = s () ∧ t.size ≤ maxLen
  | .nils, v => v = .slice none 0 0
  | .nilp, v => v = .pointer none
  | .nilf, v => v = .nilFunc
  | .yl l, v => v = .func (.yield l) #[] #[]
  | .sl nn e xs, v => Dat w I (.slice e) (.list (xs ())) v ∧ (nn = true → ∃ a len cap, v = .slice (some a) len cap)
  | .pt cs, v => ∃ b off, v = .pointer (some ⟨b, off, none⟩) ∧ VRat w I σ cs b off
  | .ms n lo len, v => MsR (σ n) (lo ()) (len ()) v
  | .mp n off, v => PtR (σ n) v fun _ => off
  | .me n i off, v => PtR (σ n) v fun p => p.o + i () * p.sz + off
  | .ax n off _ i, v => PtR (σ n) v fun _ => off + i ()
  | .agg cs, v => ∃ us, v = .agg us ∧ VRs w I σ cs us.toList
  | .tup cs, v => ∃ us, v = .tuple us ∧ VRs w I σ cs us.toList
  | .fn f cs, v => ∃ us, v = .func (.func f) #[] us ∧ VRs w I σ cs us.toList
def VRs (w : World) (I : Nat → Prop) (σ : Sig) : List AV → List Value → Prop
  | [], us => us = []
  | c :: cs, us => ∃ u us', us = u :: us' ∧ VR w I σ c u ∧ VRs w I σ cs us'
def VRat (w : World) (I : Nat → Prop) (σ : Sig) : List AV → Nat → Nat → Prop
  | [], _, _ => True
  | c :: cs, b, off => (I b ∧ ∃ u, w.cell? ⟨b, off, none⟩ = some u ∧ VR w I σ c u) ∧ VRat w I σ cs b (off + 1)
end

def unfrozen (cs : Array Value) (fz : Nat × Nat) : Prop := fz.1 = fz.2 ∨ cs.size ≤ fz.1
/-- no cell of [a, b) is frozen -/
def unfz (a b : Nat) (fz : Nat × Nat) : Prop := ∀ k, a ≤ k → k < b → ¬ (fz.1 ≤ k ∧ k < fz.2)
theorem unfrozen.unfz {cs : Array Value} {fz : Nat × Nat} (h : unfrozen cs fz) {a b : Nat} (hb : b ≤ cs.size) : unfz a b fz := fun k h1 h2 => by
  unfold unfrozen at h; omega
/-- the rest of a block that came in -/
def Pin (p : Pl) (cs : Array Value) (t : TypeId) (fz : Nat × Nat) : Prop :=
  (p.pin = none → unfrozen cs fz) ∧ ∀ q, p.pin = some q → t = q.2.1 ∧ fz = q.2.2 ∧ cs.size = q.1.size ∧ ∀ k, (k < p.o ∨ p.o + p.cap * p.sz ≤ k) → cs[k]? = q.1[k]?
theorem Pin.none {p : Pl} {cs : Array Value} {t : TypeId} {fz : Nat × Nat} (h : p.pin = none) (hf : unfrozen cs fz) : Pin p cs t fz := ⟨fun _ => hf, fun q hq => by rw [h] at hq; cases hq⟩
def RowR (w : World) (I : Nat → Prop) (p : Pl) (e : List Sh) (xs : List (List D)) : Prop :=
  ∃ cs t fz, w.heap[p.b]? = some (.cells cs t fz) ∧ (unfz p.o (p.o + p.cap * p.sz) fz ∧ Pin p cs t fz) ∧ cs.size = p.o + p.cap * p.sz + p.tl ∧ p.sz = e.length ∧ 0 < e.length ∧ xs.length ≤ p.cap ∧ p.cap ≤ maxLen ∧
    ∀ i, i < xs.length → DatC w I e 0 (lk xs i) p.b (p.o + i * p.sz)
/-- a slice that is an element's own -/
def OwnC (w : World) : Option Nat → Sh → D → Value → Prop
  | some b, .slice u, d, v => ∃ cap p, p.b = b ∧ v = .slice (some ⟨b, p.o, none⟩) d.toList.length cap ∧ d.toList.length ≤ cap ∧ cap ≤ p.cap ∧ RowR w (fun _ => False) p u d.toList
  | none, .slice u, d, v => ∃ a cap, v = .slice a 0 cap ∧ d.toList = [] ∧ cap ≤ maxLen ∧ (a = none → cap = 0) ∧ 0 < u.length
  | _, _, _, _ => False
/-- the cells of a row whose column j holds own slices -/
def DpL (w : World) (e : List Sh) (j : Nat) (xs : List (List D)) (us : List Value) (F : Nat → Option Nat) : Prop :=
  us.length = xs.length * e.length ∧ ∀ i, i < xs.length → ∀ q s, e[q]? = some s → ∃ u, us[i * e.length + q]? = some u ∧
    ((q = j → OwnC w (F i) s (lk (lk xs i) q) u) ∧ (q ≠ j → Dat w (fun _ => False) s (lk (lk xs i) q) u))
structure DpR (w : World) (p : Pl) (e : List Sh) (j : Nat) (xs : List (List D)) (cs : Array Value) (t : TypeId) (fz : Nat × Nat) (us : List Value) (F : Nat → Option Nat) : Prop where
  blk : w.heap[p.b]? = some (.cells cs t fz)
  unf : unfrozen cs fz
  size : cs.size = p.cap * p.sz
  sz : p.sz = e.length
  pos : 0 < e.length
  len : xs.length ≤ p.cap
  cap : p.cap ≤ maxLen
  col : j < e.length
  rows : DpL w e j xs us F
  pre : ∀ (k : Nat) (c : Value), us[k]? = some c → cs[k]? = some c
  inj : ∀ i i' b, i < xs.length → i' < xs.length → F i = some b → F i' = some b → i = i'
  own : ∀ i b, i < xs.length → F i = some b → p.fs b
  ne : ¬ p.fs p.b
  lt : ∀ b, p.fs b → ∃ x, w.heap[b]? = some x
  o0 : p.o = 0 ∧ p.tl = 0 ∧ p.pin = none
/-- the blocks that an object owns -/
def foot : MObj → Pl → Nat → Prop
  | .dp .., p, b => p.b = b ∨ p.fs b
  | _, p, b => p.b = b
theorem foot_b : ∀ (o : MObj) (p : Pl), foot o p p.b
  | .dp .., _ => .inl rfl
  | .row .., _ => rfl
  | .imm .., _ => rfl
  | .obj .., _ => rfl
theorem foot_one : ∀ {o : MObj} {b c s x : Nat}, foot o (.one b c s) x → b = x
  | .dp .., _, _, _, _, h => h.elim id fun h => h.elim
  | .row .., _, _, _, _, h => h
  | .imm .., _, _, _, _, h => h
  | .obj .., _, _, _, _, h => h
def OR (w : World) (I : Nat → Prop) (σ : Sig) : Option Pl → MObj → Prop
  | some p, .row nn e xs => RowR w I p e (xs ()) ∧ (nn = true → p.pin = none)
  | some p, .imm _ e xs => RowR w I p e (xs ()) ∧ I p.b
  | some p, .obj cs => ∃ us t fz, w.heap[p.b]? = some (.cells us t fz) ∧ unfrozen us fz ∧ VRs w I σ cs us.toList
  | none, .row nn e xs => nn = false ∧ xs () = [] ∧ 0 < e.length
  | none, .imm nn e xs => nn = false ∧ xs () = [] ∧ 0 < e.length
  | none, .obj _ => False
  | some p, .dp e j xs => ∃ cs t fz us F, DpR w p e j (xs ()) cs t fz us F
  | none, .dp e j xs => xs () = [] ∧ j < e.length
def owns : MObj → Prop
  | .imm .. => False
  | _ => True
def Owned (σ : Sig) (M : MS) (b : Nat) : Prop := ∃ k o p, mget M k = some o ∧ owns o ∧ σ k = some (some p) ∧ foot o p b
structure Ok (w : World) (I : Nat → Prop) (σ : Sig) (M : MS) : Prop where
  lt : ∀ b, I b → b < w.heap.size
  obj : ∀ k o, mget M k = some o → ∃ p, σ k = some p ∧ OR w I σ p o
  sep : ∀ b, Owned σ M b → ¬ I b
  inj : ∀ k k' o o' p p' b, mget M k = some o → mget M k' = some o' → owns o → owns o' → σ k = some (some p) → σ k' = some (some p') → foot o p b → foot o' p' b → k = k'
structure Ext (w : World) (I : Nat → Prop) (σ : Sig) (M : MS) (w' : World) (I' : Nat → Prop) (σ' : Sig) (M' : MS) : Prop where
  os : w'.os = w.os
  tape : w'.tape = w.tape
  output : w'.output = w.output
  size : w.heap.size ≤ w'.heap.size
  blk : ∀ b, b < w.heap.size → ¬ Owned σ M b → w'.heap[b]? = w.heap[b]?
  mono : ∀ b, I b → I' b
  fresh : ∀ b, I' b → I b ∨ Owned σ M b ∨ w.heap.size ≤ b
  own : ∀ b, Owned σ' M' b → Owned σ M b ∨ w.heap.size ≤ b
  sig : ∀ k p, σ k = some p → σ' k = some p

section
variable {w w' : World} {I I' : Nat → Prop} {σ σ' : Sig}
theorem cell_of_blk {b o : Nat} (h : w'.heap[b]? = w.heap[b]?) : w'.cell? ⟨b, o, none⟩ = w.cell? ⟨b, o, none⟩ := by simp [World.cell?, h]
/-- what is kept: immutable blocks, and what has been placed -/
structure Keep (w : World) (I : Nat → Prop) (σ : Sig) (w' : World) (I' : Nat → Prop) (σ' : Sig) : Prop where
  blk : ∀ b, I b → w'.heap[b]? = w.heap[b]?
  mono : ∀ b, I b → I' b
  sig : ∀ k p, σ k = some p → σ' k = some p
mutual
theorem Dat.keep (h1 : ∀ b, I b → w'.heap[b]? = w.heap[b]?) (h2 : ∀ b, I b → I' b) : ∀ (s : Sh) (d : D) (v : Value), Dat w I s d v → Dat w' I' s d v
  | .int _, _, _, h => h
  | .bool, _, _, h => h
  | .str, _, _, h => h
  | .slice e, d, v, h => by
    simp only [Dat] at h ⊢
    obtain ⟨a, len, cap, e1, e2, e3, e4, e5, e6, h⟩ := h
    refine ⟨a, len, cap, e1, e2, e3, e4, e5, e6, fun i hi => ?_⟩
    obtain ⟨b, off, ha, hb, hd⟩ := h i hi
    exact ⟨b, off, ha, h2 b hb, DatC.keep h1 h2 e 0 _ b _ hb hd⟩
  | .ptr _, _, _, h => h
  | .other, _, _, h => h
theorem DatC.keep (h1 : ∀ b, I b → w'.heap[b]? = w.heap[b]?) (h2 : ∀ b, I b → I' b) : ∀ (e : List Sh) (j : Nat) (ds : List D) (b o : Nat), I b → DatC w I e j ds b o → DatC w' I' e j ds b o
  | [], _, _, _, _, _, _ => trivial
  | s :: ss, j, ds, b, o, hb, h => by
    simp only [DatC] at h ⊢
    obtain ⟨⟨u, hu, hd⟩, h⟩ := h
    exact ⟨⟨u, (cell_of_blk (h1 b hb)).trans hu, Dat.keep h1 h2 s _ u hd⟩, DatC.keep h1 h2 ss (j + 1) ds b o hb h⟩
end
/-- of a mutable row: its own block is kept -/
theorem DatC.keep' (h1 : ∀ b, I b → w'.heap[b]? = w.heap[b]?) (h2 : ∀ b, I b → I' b) : ∀ (e : List Sh) (j : Nat) (ds : List D) (b o : Nat), w'.heap[b]? = w.heap[b]? → DatC w I e j ds b o → DatC w' I' e j ds b o
  | [], _, _, _, _, _, _ => trivial
  | s :: ss, j, ds, b, o, hb, h => by
    simp only [DatC] at h ⊢
    obtain ⟨⟨u, hu, hd⟩, h⟩ := h
    exact ⟨⟨u, (cell_of_blk hb).trans hu, Dat.keep h1 h2 s _ u hd⟩, DatC.keep' h1 h2 ss (j + 1) ds b o hb h⟩
theorem MsR.keep {n : Nat} (h : ∀ p, σ n = some p → σ' n = some p) {lo len : Nat} {v : Value} (hr : MsR (σ n) lo len v) : MsR (σ' n) lo len v := by
  cases hs : σ n with
  | none => rw [hs] at hr; exact hr.elim
  | some p => rw [h p hs, ← hs]; exact hr
theorem PtR.keep {n : Nat} (h : ∀ p, σ n = some p → σ' n = some p) {v : Value} {f : Pl → Nat} (hr : PtR (σ n) v f) : PtR (σ' n) v f := by
  cases hs : σ n with
  | none => rw [hs] at hr; exact hr.elim
  | some p => rw [h p hs, ← hs]; exact hr
mutual
theorem VR.keep (K : Keep w I σ w' I' σ') : ∀ (x : AV) (v : Value), VR w I σ x v → VR w' I' σ' x v
  | .un, _, _ => by simp [VR]
  | .udf, _, h => by simpa only [VR] using h
  | .int .., _, h => by simpa [VR] using h
  | .bool _, _, h => by simpa [VR] using h
  | .str _, _, h => by simpa [VR] using h
  | .nils, _, h => by simpa [VR] using h
  | .nilp, _, h => by simpa [VR] using h
  | .nilf, _, h => by simpa [VR] using h
  | .yl _, _, h => by simpa [VR] using h
  | .sl nn e xs, v, h => by
    simp only [VR] at h ⊢
    exact ⟨Dat.keep K.blk K.mono _ _ _ h.1, h.2⟩
  | .pt cs, v, h => by
    simp only [VR] at h ⊢
    obtain ⟨b, off, hv, h⟩ := h
    exact ⟨b, off, hv, VRat.keep K cs b off h⟩
  | .ms n lo len, v, h => by
    simp only [VR] at h ⊢
    exact MsR.keep (K.sig n) h
  | .mp n off, v, h => by
    simp only [VR] at h ⊢
    exact PtR.keep (K.sig n) h
  | .me n i off, v, h => by
    simp only [VR] at h ⊢
    exact PtR.keep (K.sig n) h
  | .ax n off c i, v, h => by
    simp only [VR] at h ⊢
    exact PtR.keep (K.sig n) h
  | .agg cs, v, h => by
    simp only [VR] at h ⊢
    obtain ⟨us, hv, h⟩ := h
    exact ⟨us, hv, VRs.keep K cs _ h⟩
  | .tup cs, v, h => by
    simp only [VR] at h ⊢
    obtain ⟨us, hv, h⟩ := h
    exact ⟨us, hv, VRs.keep K cs _ h⟩
  | .fn f cs, v, h => by
    simp only [VR] at h ⊢
    obtain ⟨us, hv, h⟩ := h
    exact ⟨us, hv, VRs.keep K cs _ h⟩
theorem VRs.keep (K : Keep w I σ w' I' σ') : ∀ (xs : List AV) (us : List Value), VRs w I σ xs us → VRs w' I' σ' xs us
  | [], _, h => by simp only [VRs] at h ⊢; exact h
  | c :: cs, us, h => by
    simp only [VRs] at h ⊢
    obtain ⟨u, us', e, h1, h2⟩ := h
    exact ⟨u, us', e, VR.keep K c u h1, VRs.keep K cs us' h2⟩
theorem VRat.keep (K : Keep w I σ w' I' σ') : ∀ (xs : List AV) (b off : Nat), VRat w I σ xs b off → VRat w' I' σ' xs b off
  | [], _, _, _ => by simp [VRat]
  | c :: cs, b, off, h => by
    simp only [VRat] at h ⊢
    obtain ⟨⟨hb, u, hu, hv⟩, h⟩ := h
    exact ⟨⟨K.mono b hb, u, (cell_of_blk (K.blk b hb)).trans hu, VR.keep K c u hv⟩, VRat.keep K cs b (off + 1) h⟩
end
theorem RowR.keep (h1 : ∀ b, I b → w'.heap[b]? = w.heap[b]?) (h2 : ∀ b, I b → I' b) {p : Pl} {e : List Sh} {xs : List (List D)} (hb : w'.heap[p.b]? = w.heap[p.b]?) (h : RowR w I p e xs) : RowR w' I' p e xs := by
  obtain ⟨cs, t, fz, hh, r1, r2, r3, r4, r5, r6, r7⟩ := h
  exact ⟨cs, t, fz, hb.trans hh, r1, r2, r3, r4, r5, r6, fun i hi => DatC.keep' h1 h2 e 0 _ _ _ hb (r7 i hi)⟩
theorem OwnC.keep {F : Option Nat} {s : Sh} {d : D} {v : Value} (hb : ∀ b, F = some b → w'.heap[b]? = w.heap[b]?) (h : OwnC w F s d v) : OwnC w' F s d v := by
  cases F with
  | none => cases s <;> exact h
  | some b =>
    cases s with
    | slice u =>
      obtain ⟨cap, p, h0, h1, h2, h3, h4⟩ := h
      exact ⟨cap, p, h0, h1, h2, h3, RowR.keep (fun _ h => h.elim) (fun _ h => h) (hb p.b (by rw [h0])) h4⟩
    | _ => exact h.elim
theorem DpL.keep {e : List Sh} {j : Nat} {xs : List (List D)} {us : List Value} {F : Nat → Option Nat} (hb : ∀ i b, i < xs.length → F i = some b → w'.heap[b]? = w.heap[b]?) (h : DpL w e j xs us F) : DpL w' e j xs us F :=
  ⟨h.1, fun i hi q s hq => by
    obtain ⟨u, h1, h2, h3⟩ := h.2 i hi q s hq
    exact ⟨u, h1, fun e => (h2 e).keep fun b hF => hb i b hi hF, fun e => Dat.keep (fun _ h => h.elim) (fun _ h => h) s _ u (h3 e)⟩⟩
theorem DpR.keep {p : Pl} {e : List Sh} {j : Nat} {xs : List (List D)} {cs : Array Value} {t : TypeId} {fz : Nat × Nat} {us : List Value} {F : Nat → Option Nat} (hb : w'.heap[p.b]? = w.heap[p.b]?) (hf : ∀ b, p.fs b → w'.heap[b]? = w.heap[b]?) (h : DpR w p e j xs cs t fz us F) : DpR w' p e j xs cs t fz us F :=
  ⟨hb.trans h.blk, h.unf, h.size, h.sz, h.pos, h.len, h.cap, h.col, h.rows.keep fun i b hi hF => hf b (h.own i b hi hF), h.pre, h.inj, h.own, h.ne, fun b hb => by obtain ⟨x, hx⟩ := h.lt b hb; exact ⟨x, (hf b hb).trans hx⟩, h.o0⟩
theorem OR.keep (K : Keep w I σ w' I' σ') {p : Option Pl} {o : MObj} (hb : ∀ q b, p = some q → foot o q b → w'.heap[b]? = w.heap[b]?) (h : OR w I σ p o) : OR w' I' σ' p o := by
  cases p with
  | none => cases o <;> exact h
  | some q =>
    have hq := hb q q.b rfl (foot_b o q)
    cases o with
    | row nn e xs => exact ⟨RowR.keep K.blk K.mono hq h.1, h.2⟩
    | imm nn e xs => exact ⟨RowR.keep K.blk K.mono hq h.1, K.mono _ h.2⟩
    | obj cs =>
      obtain ⟨us, t, fz, hh, hf, hv⟩ := h
      exact ⟨us, t, fz, hq.trans hh, hf, VRs.keep K cs _ hv⟩
    | dp e j xs =>
      obtain ⟨cs, t, fz, us, F, h⟩ := h
      exact ⟨cs, t, fz, us, F, h.keep hq fun b hfb => hb q b rfl (.inr hfb)⟩
/-- a block of an object that is there -/
theorem OR.foot_some {p : Pl} {o : MObj} {b : Nat} (h : OR w I σ (some p) o) (hf : foot o p b) : ∃ x, w.heap[b]? = some x := by
  cases o with
  | row nn e xs => obtain ⟨⟨_, _, _, hh, _⟩, _⟩ := h; cases hf; exact ⟨_, hh⟩
  | imm nn e xs => obtain ⟨⟨_, _, _, hh, _⟩, _⟩ := h; cases hf; exact ⟨_, hh⟩
  | obj cs => obtain ⟨_, _, _, hh, _⟩ := h; cases hf; exact ⟨_, hh⟩
  | dp e j xs =>
    obtain ⟨cs, t, fz, us, F, h⟩ := h
    rcases hf with rfl | hf
    · exact ⟨_, h.blk⟩
    · exact h.lt b hf
theorem OR.foot_lt {p : Pl} {o : MObj} {b : Nat} (h : OR w I σ (some p) o) (hf : foot o p b) : b < w.heap.size := by
  obtain ⟨x, hx⟩ := h.foot_some hf
  exact (Array.getElem?_eq_some_iff.1 hx).1
end
end Go.Am
/- One operation: the scalar ones. -/
namespace Go.Am
set_option linter.all false
set_option linter.deprecated false

/-- the operation hands back a value and a world of which R holds -/
def Does (P : Program) (o : Oper) (a : Act) (w : World) (R : Value → World → Prop) : Prop :=
  ∀ (K : Act → World → Prop) (Q : Exit → Act → World → Prop), (∀ v w', R v w' → K (a.put o.dst v) w') → o.wp P a w K Q
def Post (w : World) (I : Nat → Prop) (σ : Sig) (M : MS) (key : Nat) (val : AV) (M' : MS) (v : Value) (w' : World) : Prop :=
  ∃ I' σ', VR w' I' σ' val v ∧ Ok w' I' σ' M' ∧ Ext w I σ M w' I' σ' M' ∧ ∀ k, σ' k = σ k ∨ (key ≤ k ∧ k < key + 8)
/-- a struct's fields, as they are told -/
def FsR (P : Program) : List (Nat × Nat × Nat) → List Field → Prop
  | [], _ => True
  | _ :: _, [] => False
  | (off, ft, sz) :: fs, g :: gs => g.offset = off ∧ g.type = ft ∧ (∃ inf, P.info? ft = some inf ∧ inf.size = sz) ∧ FsR P fs gs
theorem FsR.get {P : Program} : ∀ {fs : List (Nat × Nat × Nat)} {gs : List Field} {i off ft sz : Nat}, FsR P fs gs → fget fs i = some (off, ft, sz) →
    ∃ g, gs[i]? = some g ∧ g.offset = off ∧ g.type = ft ∧ ∃ inf, P.info? ft = some inf ∧ inf.size = sz
  | [], _, _, _, _, _, _, h => by simp [fget] at h
  | _ :: _, [], _, _, _, _, h, _ => h.elim
  | (off, ft, sz) :: fs, g :: gs, 0, _, _, _, h, e => by
    simp only [fget, Option.some.injEq, Prod.mk.injEq] at e
    obtain ⟨rfl, rfl, rfl⟩ := e
    exact ⟨g, rfl, h.1, h.2.1, h.2.2.1⟩
  | (_, _, _) :: fs, g :: gs, i + 1, _, _, _, h, e => by
    obtain ⟨g', e', r⟩ := FsR.get (i := i) h.2.2.2 e
    exact ⟨g', by simpa using e', r⟩
/-- what is asked of a type's row -/
def TDok (P : Program) : TD → TypeDesc → Prop
  | .int k, d => d = .int k
  | .bool, d => d = .bool
  | .str, d => d = .string
  | .slice el esz eb esh, d => d = .slice el ∧ esh.length = esz ∧ 0 < esz ∧ ∃ inf z, P.info? el = some inf ∧ inf.size = esz ∧ inf.bytes = eb ∧ inf.zero = some z ∧ z.cells.size = esz
  | .ptr el, d => d = .pointer el
  | .struct fs cmp, d => ∃ fields, d = .struct fields ∧ FsR P fs fields.toList ∧ fs.length = fields.size ∧ (cmp = true → ∀ g ∈ fields.toList, g.name ≠ "_")
  | .array n el esz, d => d = .array n el ∧ ∃ inf, P.info? el = some inf ∧ inf.size = esz
  | .func, d => ∃ ps rs v, d = .func ps rs v
  | .other, _ => True
def isAggD : TypeDesc → Bool
  | .struct _ | .array _ _ => true
  | _ => false
structure TIok (P : Program) (t : Nat) (i : TI) : Prop where
  under : ∃ d, P.underlying t = some d ∧ TDok P i.td d ∧ i.agg = isAggD d
  stood : (match i.td with | .struct _ c => c | _ => false) = true → P.stoodInHeld t = false ∧ P.eqGuardType P.depth t = false
  info : ∃ inf z, P.info? t = some inf ∧ inf.size = i.size ∧ inf.zero = some z ∧ z.cells.size = i.size ∧ ∀ w I σ, VRs w I σ i.zero z.cells.toList

section
variable {P : Program} {o : Oper} {a : Act} {w : World} {I : Nat → Prop} {σ : Sig} {M : MS} {key : Nat} {env : List AV}
def EnvR (w : World) (I : Nat → Prop) (σ : Sig) (env : List AV) (tmps : Array Value) : Prop := ∀ t, VR w I σ (lget env t) (tmps.getD t undef)
theorem cv_ok (v : Value) : VR w I σ (cv v) v := by
  unfold cv
  split
  · split
    · simp only [VR, true_and]; assumption
    · simp only [VR]
  · simp only [VR]
  · split
    · rename_i h
      simp only [VR]; exact ⟨_, rfl, rfl, by have := Nat.le_of_ble_eq_true h; unfold maxLen; omega⟩
    · simp only [VR]
  all_goals simp only [VR]
theorem opv_ok (h : EnvR w I σ env a.tmps) (x : Operand) : VR w I σ (opv env x) (a.eval x) := by
  cases x with
  | tmp t => exact h t
  | const v => exact cv_ok v
  | global g => simp [opv, VR]
  | func f => simp only [opv, VR, Act.eval]; exact ⟨#[], rfl, by simp [VRs]⟩
theorem opvs_ok (h : EnvR w I σ env a.tmps) : ∀ (xs : List Operand), VRs w I σ (opvs env xs) (xs.map a.eval)
  | [] => by simp [opvs, VRs]
  | x :: xs => by simp only [opvs, VRs, List.map_cons]; exact ⟨_, _, rfl, opv_ok h x, opvs_ok h xs⟩
theorem lget_ok : ∀ (xs : List AV) (us : List Value) (i : Nat), VRs w I σ xs us → i < xs.length → ∃ u, us[i]? = some u ∧ VR w I σ (lget xs i) u
  | [], _, _, _, h => by simp at h
  | c :: cs, us, i, h, hi => by
    simp only [VRs] at h
    obtain ⟨u, us', rfl, h1, h2⟩ := h
    cases i with
    | zero => exact ⟨u, rfl, h1⟩
    | succ i =>
      obtain ⟨u', e, h3⟩ := lget_ok cs us' i h2 (by simpa using hi)
      exact ⟨u', by simpa using e, h3⟩
theorem llen_eq (xs : List AV) : llen xs = xs.length := by induction xs <;> simp_all [llen]
theorem ldrop_eq (xs : List AV) (n : Nat) : ldrop xs n = xs.drop n := by
  induction xs generalizing n with
  | nil => cases n <;> simp [ldrop]
  | cons x xs ih => cases n <;> simp [ldrop, ih]
theorem ltake_eq (xs : List AV) (n : Nat) : ltake xs n = xs.take n := by
  induction xs generalizing n with
  | nil => cases n <;> simp [ltake]
  | cons x xs ih => cases n <;> simp [ltake, ih]
theorem lapp_eq (xs ys : List AV) : lapp xs ys = xs ++ ys := by induction xs <;> simp_all [lapp]
theorem lget_eq (xs : List AV) (n : Nat) : lget xs n = xs.getD n .un := by
  induction xs generalizing n with
  | nil => simp [lget]
  | cons x xs ih => cases n <;> simp [lget, ih]
theorem lset_eq (xs : List AV) (n : Nat) (v : AV) : lset xs n v = xs.set n v := by
  induction xs generalizing n with
  | nil => simp [lset]
  | cons x xs ih => cases n <;> simp [lset, ih]
theorem VRs.length : ∀ {xs : List AV} {us : List Value}, VRs w I σ xs us → us.length = xs.length
  | [], _, h => by simp only [VRs] at h; simp [h]
  | c :: cs, us, h => by
    simp only [VRs] at h
    obtain ⟨u, us', rfl, _, h2⟩ := h
    simp [VRs.length h2]
theorem VRs.drop : ∀ {xs : List AV} {us : List Value} (n : Nat), VRs w I σ xs us → VRs w I σ (xs.drop n) (us.drop n)
  | xs, us, 0, h => by simpa using h
  | [], us, n + 1, h => by simp only [VRs] at h; simp [h, VRs]
  | c :: cs, us, n + 1, h => by
    simp only [VRs] at h
    obtain ⟨u, us', rfl, _, h2⟩ := h
    simpa using VRs.drop n h2
theorem VRs.take : ∀ {xs : List AV} {us : List Value} (n : Nat), VRs w I σ xs us → VRs w I σ (xs.take n) (us.take n)
  | xs, us, 0, h => by simp [VRs]
  | [], us, n + 1, h => by simp only [VRs] at h; simp [h, VRs]
  | c :: cs, us, n + 1, h => by
    simp only [VRs] at h
    obtain ⟨u, us', rfl, h1, h2⟩ := h
    simp only [List.take_succ_cons, VRs]
    exact ⟨u, _, rfl, h1, VRs.take n h2⟩
theorem VRs.append : ∀ {xs ys : List AV} {us vs : List Value}, VRs w I σ xs us → VRs w I σ ys vs → VRs w I σ (xs ++ ys) (us ++ vs)
  | [], _, us, vs, h, h' => by simp only [VRs] at h; simpa [h] using h'
  | c :: cs, _, us, vs, h, h' => by
    simp only [VRs] at h
    obtain ⟨u, us', rfl, h1, h2⟩ := h
    simp only [List.cons_append, VRs]
    exact ⟨u, _, rfl, h1, VRs.append h2 h'⟩

/-- nothing turns but a value is made -/
theorem Ext.refl (h : Ok w I σ M) : Ext w I σ M w I σ M :=
  ⟨rfl, rfl, rfl, Nat.le_refl _, fun _ _ _ => rfl, fun _ h => h, fun _ h => .inl h, fun _ h => .inl h, fun _ _ h => h⟩
theorem Post.same (h : Ok w I σ M) {val : AV} {v : Value} (hv : VR w I σ val v) : Post w I σ M key val M v w :=
  ⟨I, σ, hv, h, .refl h, fun _ => .inl rfl⟩
theorem Does.value {R : Value → World → Prop} {v : Value} {w' : World} (hr : (execOp a.eval o).run P w = .ok (.value v) w') (h : R v w') : Does P o a w R := by
  intro K Q hK
  unfold Oper.wp
  rw [hr]
  exact hK v w' h
theorem Does.skip {R : Value → World → Prop} {w' : World} (hr : (execOp a.eval o).run P w = .ok .skip w') (h : R undef w') : Does P o a w R := by
  intro K Q hK
  unfold Oper.wp
  rw [hr]
  exact hK undef w' h

/-! ### numbers -/
theorem wrap_wf (k : IntKind) (n : Int) : wfB k (k.wrap n) = true := by
  simp only [wfB, Bool.and_eq_true, decide_eq_true_eq]
  cases k <;> simp [IntKind.wrap, IntKind.min, IntKind.max, IntKind.signed, IntKind.bits] <;> (try split) <;> omega
theorem wf_iff (k : IntKind) (n : Int) : wfB k n = true ↔ k.min ≤ n ∧ n ≤ k.max := by simp [wfB]
theorem tmod_wf (k : IntKind) (a b : Int) (h : wfB k a = true) : wfB k (a.tmod b) = true := by
  rw [wf_iff] at h ⊢
  have h1 : (a.tmod b).natAbs ≤ a.natAbs := by rw [Int.natAbs_tmod]; exact Nat.mod_le _ _
  have h2 : 0 ≤ a → 0 ≤ a.tmod b := fun h => Int.tmod_nonneg b h
  have h3 : a ≤ 0 → a.tmod b ≤ 0 := fun h => by
    have := Int.tmod_nonneg b (a := -a) (by omega)
    rw [Int.neg_tmod] at this
    omega
  have h4 : k.min ≤ 0 := by cases k <;> decide
  have h5 : 0 ≤ k.max := by cases k <;> decide
  omega
theorem fdiv_wf (k : IntKind) (a : Int) (n : Nat) (h : wfB k a = true) : wfB k (a.fdiv (2 ^ n)) = true := by
  rw [wf_iff] at h ⊢
  have hp : (0 : Int) < 2 ^ n := Int.pow_pos (by omega)
  rw [Int.fdiv_eq_ediv_of_nonneg _ (by omega)]
  have h4 : k.min ≤ 0 := by cases k <;> decide
  have h5 : 0 ≤ k.max := by cases k <;> decide
  have h1 : (1 : Int) ≤ 2 ^ n := by omega
  constructor
  · rw [Int.le_ediv_iff_mul_le hp]
    have : k.min * 2 ^ n ≤ k.min * 1 := Int.mul_le_mul_of_nonpos_left h4 h1
    omega
  · by_cases ha : 0 ≤ a
    · have := Int.ediv_le_self (2 ^ n) ha
      omega
    · have : a / 2 ^ n < 0 := Int.ediv_neg_of_neg_of_pos (by omega) hp
      omega
theorem ibits_run (op : BinOp) (k : IntKind) (x y : Int) (h : op = .and ∨ op = .or ∨ op = .xor ∨ op = .andNot) (w : World) :
    (Op.intBits op k x y).run P w = .ok (.int k (ibits op k x y)) w ∧ wfB k (ibits op k x y) = true := by
  rcases h with rfl | rfl | rfl | rfl <;> exact ⟨rfl, wrap_wf _ _⟩
def val0 : AV → Value
  | .int k n => .int k (n ())
  | .bool b => .bool (b ())
  | _ => undef
theorem binInt_ok (op : BinOp) (t : TypeId) (k k' : IntKind) (x y : Operand) (f g : Unit → Int) (hf : wfB k (f ()) = true) (e : Eff)
    (h : binInt op k f k' g = some e) (hvc : ∀ p ∈ e.vc, p ()) :
    (do eqGuard op t x y (.int k (f ())) (.int k' (g ())); binOp op t (.int k (f ())) (.int k' (g ())) : Sem Value).run P w = .ok (val0 e.val) w ∧ VR w I σ e.val (val0 e.val) ∧ e.upd = [] := by
  rw [eqGuard_at_int, pure_bind]
  unfold binInt at h
  split at h
  · simp only [Eff.chk, Option.some.injEq] at h; subst h
    have hv : 0 ≤ g () := hvc (fun _ => 0 ≤ g ()) (List.mem_singleton.2 rfl)
    refine ⟨?_, ?_, rfl⟩
    · simp only [binOp, Op.shift, if_neg (show ¬ g () < 0 by omega)]; rfl
    · simp only [VR, val0, true_and]; exact wrap_wf _ _
  · simp only [Eff.chk, Option.some.injEq] at h; subst h
    have hv : 0 ≤ g () := hvc (fun _ => 0 ≤ g ()) (List.mem_singleton.2 rfl)
    refine ⟨?_, ?_, rfl⟩
    · simp only [binOp, Op.shift, if_neg (show ¬ g () < 0 by omega)]; rfl
    · simp only [VR, val0, true_and]; exact fdiv_wf _ _ _ hf
  · split at h
    · cases h
    · rename_i hk
      obtain rfl : k = k' := by simpa using hk
      split at h <;> (try (cases h; done)) <;> simp only [Eff.pure, Eff.chk, Option.some.injEq] at h <;> subst h <;> refine ⟨?_, ?_, rfl⟩ <;>
        (try (simp only [VR, val0]; done)) <;>
        (try (simp only [VR, val0, true_and]; exact wrap_wf _ _)) <;>
        (try (simp only [VR, val0, true_and]; exact (ibits_run (P := P) _ k _ _ (by simp) w).2)) <;>
        (try (simp only [VR, val0, true_and]; exact tmod_wf _ _ _ hf)) <;>
        simp only [binOp, ne_eq, not_true_eq_false, if_false, Op.intArith, Op.intBits, Op.intCmp, Op.intDiv, val0] <;>
        (try (rw [if_neg (hvc (fun _ => g () ≠ 0) (List.mem_singleton.2 rfl))])) <;> rfl
end
end Go.Am
/- One operation: comparisons, strings, conversions, lengths. -/
namespace Go.Am
set_option linter.all false
set_option linter.deprecated false
section
variable {P : Program} {o : Oper} {a : Act} {w : World} {I : Nat → Prop} {σ : Sig} {M : MS} {key : Nat} {env : List AV} {T : TT}

theorem under_of (hT : ∀ t i, T t = some i → TIok P t i) {t : Nat} {i : TI} (h : tget T t = some i) : ∃ d, P.underlying t = some d ∧ TDok P i.td d ∧ i.agg = isAggD d := (hT t i h).under
theorem run_under {t : TypeId} {d : TypeDesc} (h : P.underlying t = some d) (w : World) : (underlying t).run P w = .ok d w := run_underlying h w
theorem run_sizeOf_of {t : TypeId} {inf : TypeInfo} (h : P.info? t = some inf) (w : World) : (sizeOf t).run P w = .ok inf.size w := by
  simp [sizeOf, typeInfo, h]
theorem run_isAgg_of {t : TypeId} {d : TypeDesc} (h : P.underlying t = some d) (w : World) : (isAgg t).run P w = .ok (isAggD d) w := by
  simp only [isAgg, Sem.run_bind, run_under h, Result.andThen_ok]
  cases d <;> rfl
/-- a part of an aggregate -/
theorem run_part_of {t : TypeId} {i : TI} (hi : TIok P t i) {xs : List AV} {us : Array Value} {off : Nat} (h : VRs w I σ xs us.toList) (hsz : off + i.size ≤ xs.length) (h1 : 1 ≤ i.size) :
    ∃ v, (part t us off).run P w = .ok v w ∧ VR w I σ (loadAv i (ldrop xs off)) v := by
  obtain ⟨d, hu, _, ha⟩ := hi.under
  obtain ⟨inf, z, hinf, hs, _⟩ := hi.info
  have hl := VRs.length h
  simp only [part, Sem.run_bind, run_isAgg_of hu, Result.andThen_ok]
  unfold loadAv
  rw [ha, ldrop_eq]
  cases hd : isAggD d with
  | true =>
    simp only [if_true, Sem.run_bind, run_sizeOf_of hinf, Result.andThen_ok, hs]
    refine ⟨_, rfl, ?_⟩
    simp only [VR]
    refine ⟨_, rfl, ?_⟩
    rw [ltake_eq]
    have := (h.drop off).take i.size
    simpa [List.extract_eq_take_drop] using this
  | false =>
    simp only [Bool.false_eq_true, if_false]
    obtain ⟨u, hu, hv⟩ := lget_ok (xs.drop off) (us.toList.drop off) 0 (h.drop off) (by simp; omega)
    have hu' : us[off]? = some u := by simpa using hu
    refine ⟨u, ?_, hv⟩
    rw [hu']
    rfl
theorem bytes_eq_iff (a b : ByteArray) : (a == b) = (a.data.toList == b.data.toList) := by
  cases a with | mk a => cases b with | mk b =>
  show (a == b) = (a.toList == b.toList)
  rw [Bool.eq_iff_iff]
  simp only [beq_iff_eq]
  constructor
  · rintro rfl; rfl
  · intro h; exact Array.toList_inj.1 h
mutual
theorem eqAv_ok (hT : ∀ t i, T t = some i → TIok P t i) : ∀ (d D t : Nat) (x y : AV) (u v : Value) (b : Unit → Bool), d ≤ D → eqAv T d t x y = some b → VR w I σ x u → VR w I σ y v →
    (Op.equalIn D t u v).run P w = .ok (b ()) w
  | 0, _, _, _, _, _, _, _, _, h, _, _ => by simp [eqAv] at h
  | d + 1, 0, _, _, _, _, _, _, hD, _, _, _ => by omega
  | d + 1, D + 1, t, x, y, u, v, b, hD, h, hx, hy => by
    unfold eqAv at h
    split at h
    · cases h
    · rename_i ti ht
      obtain ⟨ds, hu, htd, _⟩ := under_of hT ht
      have hst := (hT t ti ht).stood
      simp only [Op.equalIn, Sem.run_bind, run_under hu, Result.andThen_ok]
      split at h
      · rename_i a c htd'
        rw [htd'] at htd
        simp only [TDok] at htd
        simp only [Option.some.injEq] at h
        simp only [VR] at hx hy
        subst h hx hy htd
        rfl
      · rename_i k0 k a k' c htd'
        rw [htd'] at htd
        simp only [TDok] at htd
        split at h
        · rename_i hk
          simp only [Option.some.injEq] at h
          simp only [VR] at hx hy
          obtain ⟨rfl, _⟩ := hx
          obtain ⟨rfl, _⟩ := hy
          subst h htd
          simp only [decide_eq_true_eq] at hk
          simp [hk]
        · cases h
      · rename_i a c htd'
        rw [htd'] at htd
        simp only [TDok] at htd
        simp only [Option.some.injEq] at h
        simp only [VR] at hx hy
        obtain ⟨s, rfl, hs, _⟩ := hx
        obtain ⟨s', rfl, hs', _⟩ := hy
        subst h htd
        simp only [Sem.run_pure, bytes_eq_iff, hs, hs']
      · rename_i fs xs ys htd'
        rw [htd'] at htd hst
        simp only [TDok] at htd
        simp only [VR] at hx hy
        obtain ⟨us, rfl, hx⟩ := hx
        obtain ⟨vs, rfl, hy⟩ := hy
        obtain ⟨fields, rfl, hfs, hc1, hc⟩ := htd
        have hc2 := hc trivial
        simp only [Sem.run_bind, run_program, Result.andThen_ok, (hst rfl).1, Bool.false_eq_true, if_false, ← Array.forIn_toList]
        rw [eqFs_ok hT d D fs fields.toList xs ys us vs b (by omega) hfs (by simpa using hc1) hc2 h hx hy]
        cases b () <;> rfl
      · rename_i td0 x0 y0 _ _ _ _
        split at h
        · rename_i bb hb
          simp only [Option.some.injEq] at h
          subst h
          unfold nilCmp at hb
          split at hb <;> simp only [Option.some.injEq, reduceCtorEq] at hb <;> subst hb <;> rename_i htd'
          all_goals (have htd2 := htd; rw [‹ti.td = _›] at htd2; simp only [TDok] at htd2)
          · simp only [VR] at hx hy
            obtain ⟨rfl, _⟩ := htd2; subst hx hy; rfl
          · simp only [VR] at hx hy
            obtain ⟨a, len, cap, rfl⟩ := hx.2 trivial
            obtain ⟨rfl, _⟩ := htd2; subst hy; rfl
          · simp only [VR] at hx hy
            subst htd2 hx hy; rfl
          · simp only [VR] at hx hy
            obtain ⟨b, off, rfl, _⟩ := hx
            subst htd2 hy; rfl
          · simp only [VR] at hx hy
            unfold PtR at hx
            split at hx
            · subst htd2 hx hy; rfl
            · exact hx.elim
          · simp only [VR] at hx hy
            obtain ⟨_, _, _, rfl⟩ := htd2
            subst hx hy; rfl
          · simp only [VR] at hx hy
            obtain ⟨us, rfl, _⟩ := hx
            obtain ⟨_, _, _, rfl⟩ := htd2
            subst hy; rfl
        · cases h
theorem eqFs_ok (hT : ∀ t i, T t = some i → TIok P t i) : ∀ (d D : Nat) (fs : List (Nat × Nat × Nat)) (gs : List Field) (xs ys : List AV) (us vs : Array Value) (b : Unit → Bool), d ≤ D → FsR P fs gs → fs.length = gs.length → (∀ g ∈ gs, g.name ≠ "_") →
    eqFs T d fs xs ys = some b → VRs w I σ xs us.toList → VRs w I σ ys vs.toList →
    Sem.run P (forIn gs ((none : Option Bool), ()) fun f __s =>
              if f.name ≠ "_" then do
                let __do_lift ← part f.type us f.offset
                let __do_lift_1 ← part f.type vs f.offset
                let __do_lift ← Op.equalIn D f.type __do_lift __do_lift_1
                if (!__do_lift) = true then pure (ForInStep.done (some false, ()))
                  else pure (ForInStep.yield (none, ()))
              else pure (ForInStep.yield (none, ()))) w = .ok (if b () then (none, ()) else (some false, ())) w
  | d, D, [], gs, xs, ys, us, vs, b, hD, hf, hl, hn, h, hx, hy => by
    simp only [eqFs, Option.some.injEq] at h
    subst h
    cases gs with
    | nil => rfl
    | cons g gs => simp at hl
  | d, D, (off, ft, sz) :: fs, [], xs, ys, us, vs, b, hD, hf, hl, hn, h, hx, hy => hf.elim
  | d, D, (off, ft, sz) :: fs, g :: gs, xs, ys, us, vs, b, hD, hf, hl, hn, h, hx, hy => by
    obtain ⟨rfl, rfl, ⟨inf, hinf, hsz⟩, hf⟩ := hf
    simp only [eqFs] at h
    split at h
    · cases h
    · rename_i fi hfi
      split at h
      · rename_i c1 c2 h1 h2 h3 h4 h5
        simp only [Option.some.injEq] at h
        subst h
        have hi := hT _ _ hfi
        obtain ⟨inf', z, hinf', hs', _⟩ := hi.info
        have e : fi.size = sz := by rw [hinf] at hinf'; cases hinf'; rw [← hs', hsz]
        rw [llen_eq] at h1 h2
        have h1 := Nat.le_of_ble_eq_true h1
        have h2 := Nat.le_of_ble_eq_true h2
        have h3 := Nat.le_of_ble_eq_true h3
        obtain ⟨p, hp, hpv⟩ := run_part_of hi hx (off := g.offset) (by omega) (by omega)
        obtain ⟨q, hq, hqv⟩ := run_part_of hi hy (off := g.offset) (by omega) (by omega)
        have h6 := eqAv_ok hT d D g.type _ _ p q c1 hD h4 hpv hqv
        have h7 := eqFs_ok hT d D fs gs xs ys us vs c2 hD hf (by simpa using hl) (fun x hx => hn x (List.mem_cons_of_mem _ hx)) h5 hx hy
        simp only [List.forIn_cons, if_pos (hn g (List.mem_cons_self)), bind_assoc, Sem.run_bind, hp, hq, h6, Result.andThen_ok]
        cases hc : c1 () with
        | false => rfl
        | true =>
          simp only [Bool.not_true, Bool.false_eq_true, if_false, Bool.true_and, Sem.run_pure, Result.andThen_ok]
          exact h7
      · cases h
end
end
end Go.Am
/- One operation: the scalar ones, joined. -/
namespace Go.Am
set_option linter.all false
set_option linter.deprecated false
section
variable {P : Program} {o : Oper} {a : Act} {w : World} {I : Nat → Prop} {σ : Sig} {M : MS} {key : Nat} {env : List AV} {T : TT}

theorem size_of_data (s : ByteArray) : s.size = s.data.toList.length := by show s.data.size = _; rw [Array.length_toList]
/-- neither a number nor a text -/
def notNum : Value → Bool
  | .int .. | .float .. | .complex .. | .string _ => false
  | _ => true
theorem binOp_eql_run (t : TypeId) {u v : Value} (h : notNum u = true) : binOp .eql t u v = (do pure (.bool (← Op.equal t u v)) : Sem Value) := by
  cases u <;> first | (simp [notNum] at h; done) | (cases v <;> rfl)
theorem binOp_neq_run (t : TypeId) {u v : Value} (h : notNum u = true) : binOp .neq t u v = (do pure (.bool (!(← Op.equal t u v))) : Sem Value) := by
  cases u <;> first | (simp [notNum] at h; done) | (cases v <;> rfl)
/-- what '==' may be asked of, and its guard does nothing there -/
theorem eqAv_shape (hT : ∀ t i, T t = some i → TIok P t i) {d t : Nat} {p q : AV} {u v : Value} {b : Unit → Bool} (h : eqAv T d t p q = some b) (hp : VR w I σ p u) (hq : VR w I σ q v)
    (hn : ∀ k a k' b, p = .int k a → q = .int k' b → False) (hs : ∀ a b, p = .str a → q = .str b → False) (op : BinOp) (x y : Operand) :
    notNum u = true ∧ (eqGuard op t x y u v).run P w = .ok () w := by
  cases d with
  | zero => simp [eqAv] at h
  | succ d =>
    unfold eqAv at h
    split at h
    · cases h
    · rename_i ti ht
      split at h
      · simp only [VR] at hp; subst hp; rw [eqGuard_at_bool]; exact ⟨rfl, rfl⟩
      · exact (hn _ _ _ _ rfl rfl).elim
      · exact (hs _ _ rfl rfl).elim
      · rename_i htd
        simp only [VR] at hp hq
        obtain ⟨us, rfl, _⟩ := hp
        obtain ⟨vs, rfl, _⟩ := hq
        have hst := (hT t ti ht).stood
        rw [htd] at hst
        have hg := (hst rfl).2
        refine ⟨rfl, ?_⟩
        unfold eqGuard
        split <;> simp [hg]
      · split at h
        · rename_i bb hb
          unfold nilCmp at hb
          split at hb <;> (try (cases hb; done)) <;> simp only [VR] at hp
          · subst hp; rw [eqGuard_at_slice]; exact ⟨rfl, rfl⟩
          · obtain ⟨a, len, cap, rfl⟩ := hp.2 trivial
            rw [eqGuard_at_slice]; exact ⟨rfl, rfl⟩
          · subst hp; rw [eqGuard_at_pointer]; exact ⟨rfl, rfl⟩
          · obtain ⟨b, off, rfl, _⟩ := hp
            rw [eqGuard_at_pointer]; exact ⟨rfl, rfl⟩
          · unfold PtR at hp
            split at hp
            · subst hp; rw [eqGuard_at_pointer]; exact ⟨rfl, rfl⟩
            · exact hp.elim
          · subst hp; rw [eqGuard_at_nilFunc]; exact ⟨rfl, rfl⟩
          · obtain ⟨us, rfl, _⟩ := hp
            rw [eqGuard_at_func]; exact ⟨rfl, rfl⟩
        · cases h
theorem binAv_ok (hT : ∀ t i, T t = some i → TIok P t i) (op : BinOp) (t : TypeId) (x y : Operand) (p q : AV) (u v : Value) (e : Eff)
    (h : binAv T t op p q = some e) (hvc : ∀ p ∈ e.vc, p ()) (hp : VR w I σ p u) (hq : VR w I σ q v) :
    ∃ r, (do eqGuard op t x y u v; binOp op t u v : Sem Value).run P w = .ok r w ∧ VR w I σ e.val r ∧ e.upd = [] := by
  unfold binAv at h
  split at h
  · simp only [VR] at hp hq
    obtain ⟨rfl, hf⟩ := hp
    obtain ⟨rfl, _⟩ := hq
    exact ⟨_, binInt_ok op t _ _ x y _ _ hf e h hvc⟩
  · simp only [VR] at hp hq
    obtain ⟨s, rfl, hs, hs'⟩ := hp
    obtain ⟨s2, rfl, hs2, hs2'⟩ := hq
    rw [eqGuard_at_string, pure_bind]
    split at h <;> (try (cases h; done)) <;> simp only [Eff.pure, Eff.chk, Option.some.injEq] at h <;> subst h
    case h_3 =>
      rename_i f g _
      have hv : (f ()).length + (g ()).length ≤ 1099511627776 := hvc (fun _ => (f ()).length + (g ()).length ≤ 1099511627776) (List.mem_singleton.2 rfl)
      rw [← hs, ← hs2, ← size_of_data, ← size_of_data] at hv
      refine ⟨.string (s ++ s2), ?_, ?_, rfl⟩
      · simp only [binOp]
        exact run_string_add_sum _ s s2 (by omega)
      · simp only [VR]
        refine ⟨_, rfl, ?_, ?_⟩
        · simp [hs, hs2]
        · simp only [ByteArray.size_append]; unfold maxLen; omega
    all_goals
      refine ⟨_, rfl, ?_, rfl⟩
      simp only [VR, ByteArray.toList_eq, hs, hs2]
    · rfl
  · rename_i h1 h2
    split at h <;> (try (cases h; done)) <;> rename_i b hb <;> simp only [Eff.pure, Option.some.injEq] at h <;> subst h
    · have he := eqAv_ok (w := w) (I := I) (σ := σ) hT 40 Op.maxDepth t p q u v b (by decide) hb hp hq
      obtain ⟨h3, h4⟩ := eqAv_shape (w := w) (I := I) (σ := σ) hT hb hp hq (fun k a k' b e1 e2 => h1 k a k' b e1 e2) (fun a b e1 e2 => h2 a b e1 e2) .eql x y
      refine ⟨.bool (b ()), ?_, by simp only [VR], rfl⟩
      rw [Sem.run_bind, h4, Result.andThen_ok, binOp_eql_run t h3]
      simp only [Sem.run_bind, Op.equal, he, Result.andThen_ok, Sem.run_pure]
    · have he := eqAv_ok (w := w) (I := I) (σ := σ) hT 40 Op.maxDepth t p q u v b (by decide) hb hp hq
      obtain ⟨h3, h4⟩ := eqAv_shape (w := w) (I := I) (σ := σ) hT hb hp hq (fun k a k' b e1 e2 => h1 k a k' b e1 e2) (fun a b e1 e2 => h2 a b e1 e2) .neq x y
      refine ⟨.bool (!b ()), ?_, by simp only [VR], rfl⟩
      rw [Sem.run_bind, h4, Result.andThen_ok, binOp_neq_run t h3]
      simp only [Sem.run_bind, Op.equal, he, Result.andThen_ok, Sem.run_pure]
theorem unAv_ok (op : UnOp) (p : AV) (u : Value) (e : Eff) (h : unAv op p = some e) (hp : VR w I σ p u) :
    ∃ r, (Op.unary op u).run P w = .ok r w ∧ VR w I σ e.val r ∧ e.upd = [] := by
  unfold unAv at h
  split at h <;> (try (cases h; done)) <;> simp only [Eff.pure, Option.some.injEq] at h <;> subst h <;> simp only [VR] at hp
  · subst hp; exact ⟨_, rfl, by simp only [VR], rfl⟩
  · obtain ⟨rfl, _⟩ := hp
    exact ⟨_, rfl, by simp only [VR, true_and]; exact wrap_wf _ _, rfl⟩
  · obtain ⟨rfl, _⟩ := hp
    exact ⟨_, rfl, by simp only [VR]; exact ⟨rfl, (ibits_run (P := P) .xor _ _ _ (by simp) w).2⟩, rfl⟩
theorem len_wf {n : Nat} (h : n ≤ maxLen) : wfB .i64 (n : Int) = true := by
  rw [wf_iff]
  unfold maxLen at h
  simp [IntKind.min, IntKind.max, IntKind.signed, IntKind.bits]
  omega
theorem lenAv_ok (hT : ∀ t i, T t = some i → TIok P t i) {t : Nat} {ti : TI} (ht : tget T t = some ti) (ty : TypeId) (p : AV) (u : Value) (e : Eff) (h : lenAv ti.td p = some e) (hp : VR w I σ p u) :
    ∃ r, (Builtin.len_ #[t] ty #[u]).run P w = .ok r w ∧ VR w I σ e.val r ∧ e.upd = [] := by
  obtain ⟨d, hu, htd, _⟩ := under_of hT ht
  unfold lenAv at h
  split at h <;> (try (cases h; done)) <;> simp only [Eff.pure, Option.some.injEq] at h <;> subst h <;> simp only [VR] at hp <;> rw [‹ti.td = _›] at htd <;> simp only [TDok] at htd
  · obtain ⟨rfl, _⟩ := htd
    have h1 := hp.1
    simp only [Dat] at h1
    obtain ⟨a, len, cap, rfl, h2, h3, h4, _⟩ := h1
    refine ⟨.int .i64 len, ?_, ?_, rfl⟩
    · simp [Builtin.len_, run_under hu, goInt]
    · simp only [VR, D.toList] at h2 ⊢
      rw [← h2]
      exact ⟨rfl, len_wf (by omega)⟩
  · obtain ⟨rfl, _⟩ := htd
    unfold MsR at hp
    split at hp
    · exact hp.elim
    · obtain ⟨rfl, _, h0⟩ := hp
      refine ⟨.int .i64 0, ?_, ?_, rfl⟩
      · simp [Builtin.len_, run_under hu, goInt]
      · simp only [VR, h0]; exact ⟨rfl, by decide⟩
    · obtain ⟨off, cap, rfl, h1, h2, h3, h4⟩ := hp
      refine ⟨_, by simp [Builtin.len_, run_under hu, goInt]; rfl, ?_, rfl⟩
      simp only [VR, true_and]
      exact len_wf (by omega)
  · subst htd
    obtain ⟨s, rfl, h1, h2⟩ := hp
    refine ⟨.int .i64 (s.size : Nat), ?_, ?_, rfl⟩
    · simp [Builtin.len_, run_under hu, goInt]
    · simp only [VR, ← h1, ← size_of_data, true_and]
      exact len_wf h2
  · obtain ⟨rfl, _⟩ := htd
    subst hp
    refine ⟨.int .i64 0, ?_, ?_, rfl⟩
    · simp [Builtin.len_, run_under hu, goInt]
    · simp only [VR]; decide
theorem minInts_ok (k : IntKind) : ∀ (vs : List AV) (us : List Value) (a n : Unit → Int), minInts k a vs = some n → wfB k (a ()) = true → VRs w I σ vs us →
    (us.foldlM Builtin.min2 (Value.int k (a ()))).run P w = .ok (.int k (n ())) w ∧ wfB k (n ()) = true
  | [], us, a, n, h, ha, hr => by
    simp only [minInts, Option.some.injEq] at h
    simp only [VRs] at hr
    subst h hr
    exact ⟨rfl, ha⟩
  | v :: vs, us, a, n, h, ha, hr => by
    cases v with
    | int k' b =>
      simp only [minInts] at h
      split at h
      · rename_i hk
        simp only [decide_eq_true_eq] at hk
        subst hk
        simp only [VRs] at hr
        obtain ⟨u, us', rfl, hu, hr⟩ := hr
        simp only [VR] at hu
        obtain ⟨rfl, hb⟩ := hu
        have hm : (if b () < a () then b () else a ()) = min (a ()) (b ()) := by omega
        have ih := minInts_ok k vs us' (fun _ => min (a ()) (b ())) n h (by show wfB k (min (a ()) (b ())) = true; rw [← hm]; split <;> assumption) hr
        simp only [List.foldlM_cons, Builtin.min2, Sem.run_bind, Sem.run_pure, Result.andThen_ok, hm]
        exact ih
      · cases h
    | _ => simp [minInts] at h
end
end Go.Am
/- One operation: reading memory, places, aggregates. -/
namespace Go.Am
set_option linter.all false
set_option linter.deprecated false
section
variable {P : Program} {o : Oper} {a : Act} {w : World} {I : Nat → Prop} {σ : Sig} {M : MS} {key : Nat} {env : List AV} {T : TT}

theorem VRat.cells : ∀ {cs : List AV} {b off : Nat}, VRat w I σ cs b off → ∃ us : List Value, VRs w I σ cs us ∧ ∀ j u, us[j]? = some u → w.cell? ⟨b, off + j, none⟩ = some u
  | [], _, _, _ => ⟨[], by simp [VRs], by simp⟩
  | c :: cs, b, off, h => by
    simp only [VRat] at h
    obtain ⟨⟨_, u, hu, hv⟩, h⟩ := h
    obtain ⟨us, h1, h2⟩ := VRat.cells h
    refine ⟨u :: us, by simp only [VRs]; exact ⟨u, us, rfl, hv, h1⟩, fun j x hx => ?_⟩
    cases j with
    | zero => simp at hx; subst hx; simpa using hu
    | succ j =>
      have := h2 j x (by simpa using hx)
      rwa [show off + 1 + j = off + (j + 1) by omega] at this
theorem VRat.drop : ∀ {cs : List AV} {b off : Nat} (n : Nat), VRat w I σ cs b off → VRat w I σ (cs.drop n) b (off + n)
  | cs, b, off, 0, h => by simpa using h
  | [], b, off, n + 1, h => by simp [VRat]
  | c :: cs, b, off, n + 1, h => by
    simp only [VRat] at h
    have := VRat.drop n h.2
    rw [show off + 1 + n = off + (n + 1) by omega] at this
    simpa using this
/-- loading what a type takes up, where its cells read -/
theorem run_loadVar_of {t : TypeId} {i : TI} (hi : TIok P t i) {b off : Nat} {cs : List AV} {us : List Value} (h : VRs w I σ cs us) (hc : ∀ j u, us[j]? = some u → w.cell? ⟨b, off + j, none⟩ = some u)
    (hsz : i.size ≤ cs.length) (h1 : 1 ≤ i.size) : ∃ v, (loadVar t ⟨b, off, none⟩).run P w = .ok v w ∧ VR w I σ (loadAv i cs) v := by
  obtain ⟨d, hu, _, ha⟩ := hi.under
  obtain ⟨inf, z, hinf, hs, _⟩ := hi.info
  have hl := VRs.length h
  simp only [loadVar, Sem.run_bind, run_isAgg_of hu, Result.andThen_ok]
  unfold loadAv
  rw [ha]
  cases hd : isAggD d with
  | true =>
    simp only [if_true, Sem.run_bind, run_sizeOf_of hinf, Result.andThen_ok, hs]
    have := run_loadCells_list (P := P) (w := w) ⟨b, off, none⟩ (us.take i.size) (fun j v hv => by
      rw [List.getElem?_take] at hv
      split at hv
      · rw [Addr.add_lit]; exact hc j v hv
      · cases hv)
    rw [List.length_take, Nat.min_eq_left (by omega)] at this
    rw [this]
    refine ⟨_, rfl, ?_⟩
    simp only [VR]
    refine ⟨_, rfl, ?_⟩
    rw [ltake_eq]
    simpa using h.take i.size
  | false =>
    simp only [Bool.false_eq_true, if_false]
    obtain ⟨u, hu, hv⟩ := lget_ok cs us 0 h (by omega)
    refine ⟨u, ?_, hv⟩
    have := hc 0 u hu
    simp only [Nat.add_zero] at this
    simp [this]
theorem Dat.av : ∀ (s : Sh) (d : Unit → D) (v : Value), Dat w I s (d ()) v → VR w I σ (Am.av s d) v
  | .int k, d, v, h => by simpa only [Am.av, VR, Dat] using h
  | .bool, d, v, h => by simpa only [Am.av, VR, Dat] using h
  | .str, d, v, h => by simpa only [Am.av, VR, Dat] using h
  | .slice e, d, v, h => by
    simp only [Am.av, VR]
    refine ⟨?_, by simp⟩
    simp only [Dat, D.toList] at h ⊢
    exact h
  | .ptr e, d, v, h => by simp [Dat] at h
  | .other, d, v, h => by simp [Dat] at h
theorem DatC.go {b : Nat} (hI : I b) : ∀ (e : List Sh) (j : Nat) (ds : Unit → List D) (o : Nat), DatC w I e j (ds ()) b o → VRat w I σ (Am.avs.go ds e j) b (o + j)
  | [], _, _, _, _ => by simp [Am.avs.go, VRat]
  | s :: ss, j, ds, o, h => by
    simp only [DatC] at h
    obtain ⟨⟨u, hu, hd⟩, h⟩ := h
    simp only [Am.avs.go, VRat]
    refine ⟨⟨hI, u, hu, Dat.av s (fun _ => lk (ds ()) j) u hd⟩, ?_⟩
    have := DatC.go hI ss (j + 1) ds o h
    rwa [show o + (j + 1) = o + j + 1 by omega] at this
/-- the cells of a datum, of a block that need not be immutable -/
theorem DatC.cells {b : Nat} : ∀ (e : List Sh) (j : Nat) (ds : Unit → List D) (o : Nat), DatC w I e j (ds ()) b o → ∃ us, VRs w I σ (Am.avs.go ds e j) us ∧ us.length = e.length ∧ ∀ i u, us[i]? = some u → w.cell? ⟨b, o + j + i, none⟩ = some u
  | [], _, _, _, _ => ⟨[], by simp [Am.avs.go, VRs], rfl, by simp⟩
  | s :: ss, j, ds, o, h => by
    simp only [DatC] at h
    obtain ⟨⟨u, hu, hd⟩, h⟩ := h
    obtain ⟨us, h1, h2, h3⟩ := DatC.cells ss (j + 1) ds o h
    refine ⟨u :: us, by simp only [Am.avs.go, VRs]; exact ⟨u, us, rfl, Dat.av s (fun _ => lk (ds ()) j) u hd, h1⟩, by simp [h2], fun i x hx => ?_⟩
    cases i with
    | zero => simp at hx; subst hx; exact hu
    | succ i =>
      have := h3 i x (by simpa using hx)
      rwa [show o + (j + 1) + i = o + j + (i + 1) by omega] at this
theorem avs_length (e : List Sh) (ds : Unit → List D) : (avs e ds).length = e.length := by
  have : ∀ (e : List Sh) (j : Nat), (avs.go ds e j).length = e.length := by
    intro e
    induction e with
    | nil => intro j; rfl
    | cons s ss ih => intro j; simp [avs.go, ih]
  exact this e 0

theorem ints_ok : ∀ {cs : List AV} {us : List Value} {k : IntKind} {fs : List (Unit → Int)}, ints cs = some (k, fs) → VRs w I σ cs us →
    fs.length = us.length ∧ ∀ i, i < fs.length → us[i]? = some (.int k (lk (fs.map fun f => f ()) i)) ∧ wfB k (lk (fs.map fun f => f ()) i) = true
  | [], us, k, fs, h, _ => by simp [ints] at h
  | [c], us, k, fs, h, hr => by
    unfold ints at h
    split at h <;> (try (cases h; done))
    · rename_i k' f heq
      simp only [List.cons.injEq, and_true] at heq
      subst heq
      simp only [Option.some.injEq, Prod.mk.injEq] at h
      obtain ⟨rfl, rfl⟩ := h
      simp only [VRs, VR] at hr
      obtain ⟨u, us', rfl, ⟨rfl, hw⟩, rfl⟩ := hr
      refine ⟨rfl, fun i hi => ?_⟩
      obtain rfl : i = 0 := by simpa using hi
      exact ⟨rfl, hw⟩
    · rename_i k' f vs hne heq
      simp only [List.cons.injEq] at heq
      obtain ⟨rfl, rfl⟩ := heq
      exact (hne rfl).elim
  | c :: c' :: cs, us, k, fs, h, hr => by
    unfold ints at h
    split at h <;> (try (cases h; done))
    · rename_i heq; simp at heq
    · rename_i k' f vs hne heq
      simp only [List.cons.injEq] at heq
      obtain ⟨rfl, rfl⟩ := heq
      split at h
      · rename_i k2 fs2 h2
        split at h
        · rename_i hk
          simp only [decide_eq_true_eq] at hk
          subst hk
          simp only [Option.some.injEq, Prod.mk.injEq] at h
          obtain ⟨rfl, rfl⟩ := h
          rw [VRs] at hr
          obtain ⟨u, us', rfl, hu, hr⟩ := hr
          simp only [VR] at hu
          obtain ⟨rfl, hw⟩ := hu
          obtain ⟨g1, g2⟩ := ints_ok h2 hr
          refine ⟨by simp [g1], fun i hi => ?_⟩
          cases i with
          | zero => exact ⟨rfl, hw⟩
          | succ i =>
            have := g2 i (by simpa using hi)
            simpa [lk] using this
        · cases h
      · cases h
theorem load1_ok (hok : Ok w I σ M) {t : TypeId} {i : TI} (hi : TIok P t i) (x : AV) (u : Value) (e : Eff) (h : load1 M i x = some e) (hvc : ∀ p ∈ e.vc, p ()) (hx : VR w I σ x u) :
    ∃ r, (Instr.loadAt t u).run P w = .ok r w ∧ VR w I σ e.val r ∧ e.upd = [] := by
  unfold load1 at h
  split at h
  · split at h
    · rename_i cs h1 h2
      simp only [Eff.pure, Option.some.injEq] at h
      subst h
      rw [llen_eq] at h1
      simp only [VR] at hx
      obtain ⟨b, off, rfl, hx⟩ := hx
      obtain ⟨us, h3, h4⟩ := VRat.cells hx
      obtain ⟨v, h5, h6⟩ := run_loadVar_of hi h3 h4 (Nat.le_of_ble_eq_true h1) (Nat.le_of_ble_eq_true h2)
      exact ⟨v, by simpa [Instr.loadAt, Instr.sureAddr] using h5, h6, rfl⟩
    · cases h
  · rename_i n off
    split at h
    · rename_i cs hm
      split at h
      · rename_i h1 h2
        simp only [Option.some.injEq] at h
        subst h
        rw [llen_eq] at h1
        have h1 := Nat.le_of_ble_eq_true h1
        simp only [VR] at hx
        obtain ⟨p, hp, ho⟩ := hok.obj n _ hm
        rw [hp] at hx
        cases p with
        | none => exact hx.elim
        | some p =>
          simp only [PtR] at hx
          subst hx
          obtain ⟨us, tt, fz, hh, _, hv⟩ := ho
          obtain ⟨v, h5, h6⟩ := run_loadVar_of (P := P) (t := t) (b := p.b) (off := off) hi (hv.drop off) (fun j u hu => by
            rw [List.getElem?_drop] at hu
            rw [cell_of_row w p.b (off + j) us tt fz hh]
            simpa using hu) (by rw [List.length_drop]; omega) (Nat.le_of_ble_eq_true h2)
          exact ⟨v, by simpa [Instr.loadAt, Instr.sureAddr] using h5, by rw [ldrop_eq]; exact h6, rfl⟩
      · cases h
    · cases h
  · rename_i n i' off
    have key : ∀ (e' : List Sh) (xs : Unit → List (List D)), (∃ p, σ n = some (some p) ∧ RowR w I p e' (xs ())) ∨ (σ n = some none) →
        (match Nat.ble (off + i.size) e'.length, Nat.ble 1 i.size with
          | true, true => some ⟨[fun _ => i' () < (xs ()).length], loadAv i (ldrop (avs e' (fun _ => lk (xs ()) (i' ()))) off), [n], []⟩ | _, _ => none) = some e →
        ∃ r, (Instr.loadAt t u).run P w = .ok r w ∧ VR w I σ e.val r ∧ e.upd = [] := by
      intro e' xs hr h
      split at h
      · rename_i h1 h2
        have h1 := Nat.le_of_ble_eq_true h1
        simp only [Option.some.injEq] at h
        subst h
        have hlt : i' () < (xs ()).length := hvc (fun _ => i' () < (xs ()).length) (List.mem_singleton.2 rfl)
        simp only [VR] at hx
        rcases hr with ⟨p, hp, hr⟩ | hr
        · rw [hp] at hx
          simp only [PtR] at hx
          subst hx
          obtain ⟨cs, tt, fz, hh, _, _, _, _, _, _, hd⟩ := hr
          obtain ⟨us, g1, g2, g3⟩ := DatC.cells (σ := σ) e' 0 (fun _ => lk (xs ()) (i' ())) _ (hd _ hlt)
          obtain ⟨v, h5, h6⟩ := run_loadVar_of (P := P) (t := t) (b := p.b) (off := p.o + i' () * p.sz + off) hi (g1.drop off) (fun j u hu => by
            rw [List.getElem?_drop] at hu
            have := g3 _ _ hu
            rwa [show p.o + i' () * p.sz + 0 + (off + j) = p.o + i' () * p.sz + off + j by omega] at this) (by
              have := avs_length e' (fun _ => lk (xs ()) (i' ()))
              unfold avs at this
              rw [List.length_drop, this]; omega) (Nat.le_of_ble_eq_true h2)
          exact ⟨v, by simpa [Instr.loadAt, Instr.sureAddr] using h5, by rw [ldrop_eq]; exact h6, rfl⟩
        · rw [hr] at hx
          exact hx.elim
      · cases h
    split at h
    · rename_i nn e' xs hm
      obtain ⟨p, hp, ho⟩ := hok.obj n _ hm
      cases p with
      | none => exact key e' xs (.inr hp) h
      | some p => exact key e' xs (.inl ⟨p, hp, ho.1⟩) h
    · rename_i nn e' xs hm
      obtain ⟨p, hp, ho⟩ := hok.obj n _ hm
      cases p with
      | none => exact key e' xs (.inr hp) h
      | some p => exact key e' xs (.inl ⟨p, hp, ho.1⟩) h
    · cases h
  · rename_i n off cnt i'
    split at h
    · rename_i cs hm h1 h2
      split at h
      · rename_i k fs h3 h4
        simp only [Option.some.injEq] at h
        subst h
        rw [llen_eq] at h3
        have h3 := Nat.le_of_ble_eq_true h3
        have h1 := Nat.eq_of_beq_eq_true h1
        have hlt : i' () < cnt := hvc (fun _ => i' () < cnt) (List.mem_singleton.2 rfl)
        simp only [VR] at hx
        obtain ⟨p, hp, ho⟩ := hok.obj n _ hm
        rw [hp] at hx
        cases p with
        | none => exact hx.elim
        | some p =>
          simp only [PtR] at hx
          subst hx
          obtain ⟨us, tt, fz, hh, _, hv⟩ := ho
          rw [ltake_eq, ldrop_eq] at h4
          obtain ⟨g1, g2⟩ := ints_ok h4 ((hv.drop off).take cnt)
          have hl := VRs.length hv
          have hlen : (((us.toList).drop off).take cnt).length = cnt := by rw [List.length_take, List.length_drop]; omega
          rw [hlen] at g1
          obtain ⟨g3, g4⟩ := g2 (i' ()) (by omega)
          rw [List.getElem?_take, if_pos hlt, List.getElem?_drop] at g3
          refine ⟨.int k (lk (fs.map fun f => f ()) (i' ())), ?_, ?_, rfl⟩
          rotate_left
          · simp only [VR, true_and]; exact g4
          · obtain ⟨d, hu, _, ha⟩ := hi.under
            simp only [Instr.loadAt, Instr.sureAddr, loadVar, Sem.run_bind, Sem.run_pure, Result.andThen_ok, run_isAgg_of hu, ← ha, h2, Bool.false_eq_true, if_false]
            have hc : w.cell? ⟨p.b, off + i' (), none⟩ = some (.int k (lk (fs.map fun f => f ()) (i' ()))) := by
              rw [cell_of_row w p.b (off + i' ()) us tt fz hh]
              simpa using g3
            simp [hc]
      · cases h
    · cases h
  · cases h
/-! ### places -/
theorem fieldAddrAv_ok (hT : ∀ t i, T t = some i → TIok P t i) {s : Nat} {ti : TI} (hs : tget T s = some ti) {fs : List (Nat × Nat × Nat)} {c : Bool} (htd : ti.td = .struct fs c) {f off ft sz : Nat} (hf : fget fs f = some (off, ft, sz)) (h1 : 1 ≤ sz)
    {x y : AV} {u : Value} (h : fieldAddrAv off x = some y) (hx : VR w I σ x u) : ∃ r, (Instr.fieldAt s u f).run P w = .ok r w ∧ VR w I σ y r := by
  obtain ⟨d, hu, hd, _⟩ := under_of hT hs
  rw [htd] at hd
  obtain ⟨fields, rfl, hfs, _⟩ := hd
  obtain ⟨g, hg, e1, e2, inf, hinf, hsz⟩ := hfs.get hf
  have hg' : fields[f]? = some g := by simpa using hg
  have run : ∀ ad : Addr, (Instr.fieldAt s (.pointer (some ad)) f).run P w = .ok (.pointer (some (ad.add off))) w := by
    intro ad
    have hinf' : P.info? g.type = some inf := by rw [e2]; exact hinf
    simp [Instr.fieldAt, run_under hu, hg', Instr.sureAddr, fieldPlace, run_sizeOf_of hinf', e1]
    intro h0
    omega
  unfold fieldAddrAv at h
  split at h <;> (try (cases h; done)) <;> simp only [Option.some.injEq] at h <;> subst h <;> simp only [VR] at hx
  · obtain ⟨b, o, rfl, hx⟩ := hx
    refine ⟨_, run _, ?_⟩
    rw [Addr.add_lit, ldrop_eq]
    simp only [VR]
    exact ⟨b, _, rfl, hx.drop off⟩
  · unfold PtR at hx
    split at hx
    · subst hx
      refine ⟨_, run _, ?_⟩
      rw [Addr.add_lit]
      simp only [VR, PtR, *]
    · exact hx.elim
  · unfold PtR at hx
    split at hx
    · subst hx
      refine ⟨_, run _, ?_⟩
      rw [Addr.add_lit]
      simp only [VR, PtR, *, Nat.add_assoc]
    · exact hx.elim
end
end Go.Am
/- One operation: indices, slices, aggregates. -/
namespace Go.Am
set_option linter.all false
set_option linter.deprecated false
section
variable {P : Program} {o : Oper} {a : Act} {w : World} {I : Nat → Prop} {σ : Sig} {M : MS} {key : Nat} {env : List AV} {T : TT}

theorem rowSz_ok (hok : Ok w I σ M) {n z : Nat} (h : rowSz M n = some z) : σ n = some none ∨ ∃ p, σ n = some (some p) ∧ p.sz = z ∧ 0 < z := by
  unfold rowSz at h
  split at h <;> (try (cases h; done)) <;> rename_i nn e xs hm <;> simp only [Option.some.injEq] at h <;> subst h <;> obtain ⟨p, hp, ho⟩ := hok.obj n _ hm <;> cases p with
  | none => exact .inl hp
  | some p =>
    first
    | (obtain ⟨_, _, _, _, _, _, h1, h2, _⟩ := ho; exact .inr ⟨p, hp, h1, h2⟩)
    | (obtain ⟨⟨_, _, _, _, _, _, h1, h2, _⟩, _⟩ := ho; exact .inr ⟨p, hp, h1, h2⟩)
theorem sz_of_slice {el sz eb : Nat} {esh : List Sh} {d : TypeDesc} (h : TDok P (.slice el sz eb esh) d) : d = .slice el ∧ esh.length = sz ∧ 0 < sz ∧ ∃ inf z, P.info? el = some inf ∧ inf.size = sz ∧ inf.bytes = eb ∧ inf.zero = some z ∧ z.cells.size = sz := h
theorem indexAddrAv_ok (hok : Ok w I σ M) (hT : ∀ t i, T t = some i → TIok P t i) {t : Nat} {ti : TI} (ht : tget T t = some ti) (x y : AV) (u v : Value) (e : Eff) (h : indexAddrAv M ti.td x y = some e) (hvc : ∀ p ∈ e.vc, p ())
    (hx : VR w I σ x u) (hy : VR w I σ y v) : ∃ r, (Instr.indexAt t u v).run P w = .ok r w ∧ VR w I σ e.val r ∧ e.upd = [] := by
  obtain ⟨d, hu, hd, _⟩ := under_of hT ht
  unfold indexAddrAv at h
  split at h <;> (try (cases h; done)) <;> rename_i htd <;> rw [htd] at hd
  · rename_i el sz eb esh nn e' xs k n
    obtain ⟨rfl, _, _, inf, _, hinf, hsz, _⟩ := sz_of_slice hd
    split at h
    · rename_i he
      have he := Nat.eq_of_beq_eq_true he
      simp only [Eff.chk, Option.some.injEq] at h
      subst h
      obtain ⟨hn0, hn1⟩ : 0 ≤ n () ∧ n () < ((xs ()).length : Int) := hvc (fun _ => 0 ≤ n () ∧ n () < ((xs ()).length : Int)) (List.mem_singleton.2 rfl)
      simp only [VR] at hx hy
      obtain ⟨rfl, _⟩ := hy
      have hx := hx.1
      simp only [Dat, D.toList] at hx
      obtain ⟨a, len, cap, rfl, h2, h3, h4, h5, h6, h7⟩ := hx
      obtain ⟨b, off, rfl, hb, hdc⟩ := h7 (n ()).toNat (by omega)
      refine ⟨.pointer (some ⟨b, off + (n ()).toNat * sz, none⟩), ?_, ?_, rfl⟩
      · simp only [Instr.indexAt, asIntOf, Sem.run_bind, Sem.run_pure, Result.andThen_ok, run_under hu]
        rw [if_pos ⟨hn0, by omega⟩]
        simp [run_sizeOf_of hinf, hsz, Addr.add_lit]
      · simp only [VR]
        refine ⟨b, _, rfl, ?_⟩
        have := DatC.go (σ := σ) hb e' 0 (fun _ => lk (xs ()) (n ()).toNat) _ hdc
        rw [he] at this
        exact this
    · cases h
  · rename_i el sz eb esh k lo len kk n
    obtain ⟨rfl, _, _, inf, _, hinf, hsz, _⟩ := sz_of_slice hd
    split at h
    · rename_i z hz
      split at h
      · rename_i he
        have he := Nat.eq_of_beq_eq_true he
        simp only [Option.some.injEq] at h
        subst h
        obtain ⟨hn0, hn1⟩ : 0 ≤ n () ∧ n () < (len () : Int) := hvc (fun _ => 0 ≤ n () ∧ n () < (len () : Int)) (List.mem_singleton.2 rfl)
        simp only [VR] at hx hy
        obtain ⟨rfl, _⟩ := hy
        rcases rowSz_ok hok hz with hs | ⟨p, hs, hp, _⟩
        · rw [hs] at hx
          obtain ⟨_, _, h0⟩ := hx
          omega
        · rw [hs] at hx
          obtain ⟨off, cap, rfl, h1, h2, h3, h4⟩ := hx
          have h1 : off = p.o + lo () * p.sz := by rcases h1 with h1 | h1 <;> omega
          refine ⟨.pointer (some ⟨p.b, off + (n ()).toNat * sz, none⟩), ?_, ?_, rfl⟩
          · simp only [Instr.indexAt, asIntOf, Sem.run_bind, Sem.run_pure, Result.andThen_ok, run_under hu]
            rw [if_pos ⟨hn0, by omega⟩]
            simp [run_sizeOf_of hinf, hsz, Addr.add_lit]
          · simp only [VR, hs, PtR, h1, hp, he, Nat.add_mul, Nat.add_zero, Nat.add_assoc]
      · cases h
    · cases h
  · rename_i cnt el k off kk n
    obtain ⟨rfl, inf, hinf, hsz⟩ := hd
    simp only [Eff.chk, Option.some.injEq] at h
    subst h
    obtain ⟨hn0, hn1⟩ : 0 ≤ n () ∧ n () < (cnt : Int) := hvc (fun _ => 0 ≤ n () ∧ n () < (cnt : Int)) (List.mem_singleton.2 rfl)
    simp only [VR] at hx hy
    obtain ⟨rfl, _⟩ := hy
    unfold PtR at hx
    split at hx
    · rename_i p hs
      subst hx
      refine ⟨.pointer (some ⟨p.b, off + (n ()).toNat, none⟩), ?_, ?_, rfl⟩
      · simp only [Instr.indexAt, asIntOf, Sem.run_bind, Sem.run_pure, Result.andThen_ok, run_under hu, Instr.sureAddr]
        rw [if_pos ⟨hn0, by omega⟩]
        simp [run_sizeOf_of hinf, hsz, Addr.add_lit]
      · simp only [VR, hs, PtR]
    · exact hx.elim

theorem bnd_ok {dflt : Unit → Int} {x : Option AV} {n : Unit → Int} (h : bnd dflt x = some n) {v : Option Value} (hv : ∀ q, x = some q → ∃ u, v = some u ∧ VR w I σ q u) (hn : x = none → v = none) :
    (v = none ∧ n = dflt) ∨ ∃ k, v = some (.int k (n ())) := by
  unfold bnd at h
  split at h
  · simp only [Option.some.injEq] at h; subst h; exact .inl ⟨hn rfl, rfl⟩
  · simp only [Option.some.injEq] at h; subst h
    obtain ⟨u, hu, hr⟩ := hv _ rfl
    simp only [VR] at hr
    obtain ⟨rfl, _⟩ := hr
    exact .inr ⟨_, hu⟩
  · cases h
theorem run_sliceBound {k : IntKind} {i : Int} {y : Nat} {c : BoundsCode} (h0 : 0 ≤ i) (h1 : i ≤ y) : (Instr.sliceBound (.int k i) y c).run P w = .ok i.toNat w := by
  simp only [Instr.sliceBound, asIntOf, Sem.run_bind, Sem.run_pure, Result.andThen_ok]
  rw [if_pos ⟨h0, h1⟩]
  rfl
/-- the bounds of a slice expression -/
theorem run_sliceBounds {isS : Bool} {len cap : Nat} {lo hi mx : Option Value} {l h m : Int} (hl : (lo = none ∧ l = 0) ∨ ∃ k, lo = some (.int k l)) (hh : (hi = none ∧ h = len) ∨ ∃ k, hi = some (.int k h))
    (hm : (mx = none ∧ m = h) ∨ ∃ k, mx = some (.int k m)) (hmh : mx = none ∨ hi ≠ none) (h0 : 0 ≤ l) (h1 : l ≤ h) (h2 : h ≤ m) (h3 : m ≤ len) (h4 : len ≤ cap) :
    ∃ m' : Nat, (Instr.sliceBounds isS len cap lo hi mx).run P w = .ok (l.toNat, h.toNat, m') w ∧ h.toNat ≤ m' ∧ m' ≤ cap := by
  rcases hm with ⟨rfl, rfl⟩ | ⟨km, rfl⟩
  · refine ⟨cap, ?_, by omega, Nat.le_refl _⟩
    rcases hh with ⟨rfl, rfl⟩ | ⟨kh, rfl⟩ <;> rcases hl with ⟨rfl, rfl⟩ | ⟨kl, rfl⟩ <;> simp only [Instr.sliceBounds, Sem.run_bind, Sem.run_pure, Result.andThen_ok]
    · rfl
    · rw [run_sliceBound h0 (by omega)]; rfl
    · rw [run_sliceBound (by omega) (by omega)]; rfl
    · rw [run_sliceBound (by omega) (by omega)]
      simp only [Result.andThen_ok]
      rw [run_sliceBound h0 (by omega)]; rfl
  · refine ⟨m.toNat, ?_, by omega, by omega⟩
    rcases hh with ⟨rfl, rfl⟩ | ⟨kh, rfl⟩
    · simp at hmh
    · rcases hl with ⟨rfl, rfl⟩ | ⟨kl, rfl⟩ <;> simp only [Instr.sliceBounds, Sem.run_bind, Sem.run_pure, Result.andThen_ok] <;> rw [run_sliceBound (by omega) (by omega)] <;> simp only [Result.andThen_ok] <;> rw [run_sliceBound (by omega) (by omega)]
      · rfl
      · simp only [Result.andThen_ok]
        rw [run_sliceBound h0 (by omega)]; rfl
theorem DatSub {e : List Sh} {xs : List (List D)} {a : Option Addr} {len cap : Nat} {l h m' : Nat} (hd : Dat w I (.slice e) (.list xs) (.slice a len cap)) (h1 : l ≤ h) (h2 : h ≤ xs.length) (h3 : h ≤ m') (h4 : m' ≤ cap) (a' : Option Addr)
    (ha : a' = if m' = l then a else a.map (·.add (l * e.length))) : Dat w I (.slice e) (.list ((xs.drop l).take (h - l))) (.slice a' (h - l) (m' - l)) := by
  simp only [Dat, D.toList] at hd ⊢
  obtain ⟨a0, len0, cap0, e0, g1, g2, g3, g4, g5, g6⟩ := hd
  simp only [Value.slice.injEq] at e0
  obtain ⟨rfl, rfl, rfl⟩ := e0
  refine ⟨a', h - l, m' - l, rfl, ?_, by omega, by omega, ?_, g5, ?_⟩
  · rw [List.length_take, List.length_drop]; omega
  · intro hn
    rw [ha] at hn
    split at hn
    · omega
    · cases a with
      | none => have := g4 rfl; omega
      | some _ => simp at hn
  · intro i hi
    obtain ⟨b, off, rfl, hb, hdc⟩ := g6 (l + i) (by omega)
    refine ⟨b, off + l * e.length, ?_, hb, ?_⟩
    · rw [ha, if_neg (by omega)]
      simp [Addr.add_lit]
    · have e1 : lk ((xs.drop l).take (h - l)) i = lk xs (l + i) := by
        simp only [lk, List.getD, List.getElem?_take, List.getElem?_drop]
        rw [if_pos hi]
      rw [e1]
      rwa [Nat.add_mul, ← Nat.add_assoc] at hdc
theorem sliceAv_ok (hok : Ok w I σ M) (hT : ∀ t i, T t = some i → TIok P t i) {t : Nat} {ti : TI} (ht : tget T t = some ti) (x : AV) (lo hi mx : Option AV) (u : Value) (lo' hi' mx' : Option Value) (e : Eff) (h : sliceAv M ti.td x lo hi mx = some e) (hvc : ∀ p ∈ e.vc, p ())
    (hx : VR w I σ x u) (hlo : ∀ q, lo = some q → ∃ u, lo' = some u ∧ VR w I σ q u) (hlo0 : lo = none → lo' = none) (hhi : ∀ q, hi = some q → ∃ u, hi' = some u ∧ VR w I σ q u) (hhi0 : hi = none → hi' = none)
    (hmx : ∀ q, mx = some q → ∃ u, mx' = some u ∧ VR w I σ q u) (hmx0 : mx = none → mx' = none) (hmh : mx' = none ∨ hi' ≠ none) :
    ∃ r, (Instr.sliceAt t u lo' hi' mx').run P w = .ok r w ∧ VR w I σ e.val r ∧ e.upd = [] := by
  obtain ⟨d, hu, hd, _⟩ := under_of hT ht
  unfold sliceAv at h
  split at h <;> (try (cases h; done))
  rename_i l hl
  have hl := bnd_ok hl hlo hlo0
  split at h <;> (try (cases h; done)) <;> rename_i htd <;> rw [htd] at hd
  · rename_i el sz eb esh nn e' xs
    obtain ⟨rfl, _, _, inf, _, hinf, hsz, _⟩ := sz_of_slice hd
    split at h <;> (try (cases h; done))
    rename_i h' hh
    split at h <;> (try (cases h; done))
    rename_i m hm he
    have hh := bnd_ok hh hhi hhi0
    have hm := bnd_ok hm hmx hmx0
    have he := Nat.eq_of_beq_eq_true he
    simp only [Option.some.injEq] at h
    subst h
    obtain ⟨b0, b1, b2, b3⟩ : 0 ≤ l () ∧ l () ≤ h' () ∧ h' () ≤ m () ∧ m () ≤ ((xs ()).length : Int) := hvc (fun _ => 0 ≤ l () ∧ l () ≤ h' () ∧ h' () ≤ m () ∧ m () ≤ ((xs ()).length : Int)) (List.mem_singleton.2 rfl)
    simp only [VR] at hx
    have hx := hx.1
    have hx' := hx
    simp only [Dat, D.toList] at hx'
    obtain ⟨a, len, cap, rfl, h2, h3, h4, h5, h6, h7⟩ := hx'
    obtain ⟨m', r1, r2, r3⟩ := run_sliceBounds (P := P) (w := w) (isS := true) (len := len) (cap := cap) (l := l ()) (h := h' ()) (m := m ()) (by rcases hl with ⟨e1, e2⟩ | e1; exact .inl ⟨e1, by rw [e2]⟩; exact .inr e1)
      (by rcases hh with ⟨e1, e2⟩ | e1; exact .inl ⟨e1, by rw [e2, h2]⟩; exact .inr e1) (by rcases hm with ⟨e1, e2⟩ | e1; exact .inl ⟨e1, by rw [e2]⟩; exact .inr e1) hmh b0 b1 b2 (by omega) h3
    refine ⟨.slice (if m' = (l ()).toNat then a else a.map (·.add ((l ()).toNat * e'.length))) ((h' ()).toNat - (l ()).toNat) (m' - (l ()).toNat), ?_, ?_, rfl⟩
    rotate_left
    · simp only [VR]
      exact ⟨DatSub hx (l := (l ()).toNat) (h := (h' ()).toNat) (m' := m') (by omega) (by omega) r2 r3 _ rfl, by simp⟩
    · simp only [Instr.sliceAt, Instr.slice, Sem.run_bind, run_under hu, Result.andThen_ok, r1, run_sizeOf_of hinf, hsz, he, Sem.run_pure]
  · rename_i el sz eb esh n s0 len
    obtain ⟨rfl, _, _, inf, _, hinf, hsz, _⟩ := sz_of_slice hd
    split at h <;> (try (cases h; done))
    rename_i h' hh
    split at h <;> (try (cases h; done))
    rename_i m z hm hz
    split at h <;> (try (cases h; done))
    rename_i he
    have hh := bnd_ok hh hhi hhi0
    have hm := bnd_ok hm hmx hmx0
    have he := Nat.eq_of_beq_eq_true he
    simp only [Option.some.injEq] at h
    subst h
    obtain ⟨b0, b1, b2, b3⟩ : 0 ≤ l () ∧ l () ≤ h' () ∧ h' () ≤ m () ∧ m () ≤ (len () : Int) := hvc (fun _ => 0 ≤ l () ∧ l () ≤ h' () ∧ h' () ≤ m () ∧ m () ≤ (len () : Int)) (List.mem_singleton.2 rfl)
    simp only [VR] at hx
    have sb : ∀ (cap : Nat), len () ≤ cap → _ := fun cap hc => run_sliceBounds (P := P) (w := w) (isS := true) (len := len ()) (cap := cap) (l := l ()) (h := h' ()) (m := m ()) (by rcases hl with ⟨e1, e2⟩ | e1; exact .inl ⟨e1, by rw [e2]⟩; exact .inr e1)
      (by rcases hh with ⟨e1, e2⟩ | e1; exact .inl ⟨e1, by rw [e2]⟩; exact .inr e1) (by rcases hm with ⟨e1, e2⟩ | e1; exact .inl ⟨e1, by rw [e2]⟩; exact .inr e1) hmh b0 b1 b2 b3 hc
    rcases rowSz_ok hok hz with hs | ⟨p, hs, hp, _⟩
    · rw [hs] at hx
      obtain ⟨rfl, e1, e2⟩ := hx
      obtain ⟨m', r1, r2, r3⟩ := sb 0 (by omega)
      rw [e2] at r1
      refine ⟨.slice none ((h' ()).toNat - (l ()).toNat) (m' - (l ()).toNat), ?_, ?_, rfl⟩
      · simp only [Instr.sliceAt, Instr.slice, Sem.run_bind, run_under hu, Result.andThen_ok, r1, run_sizeOf_of hinf, Sem.run_pure, Option.map_none, ite_self]
      · simp only [VR, hs, MsR]
        have q1 : (h' ()).toNat - (l ()).toNat = 0 := by omega
        have q2 : m' - (l ()).toNat = 0 := by omega
        rw [q1, q2]
        exact ⟨rfl, by omega, rfl⟩
    · rw [hs] at hx
      obtain ⟨off, cap, rfl, h1, h2, h3, h4⟩ := hx
      obtain ⟨m', r1, r2, r3⟩ := sb cap h3
      refine ⟨.slice (if m' = (l ()).toNat then some ⟨p.b, off, none⟩ else some (⟨p.b, off + (l ()).toNat * p.sz, none⟩ : Addr)) ((h' ()).toNat - (l ()).toNat) (m' - (l ()).toNat), ?_, ?_, rfl⟩
      · simp only [Instr.sliceAt, Instr.slice, Sem.run_bind, run_under hu, Result.andThen_ok, r1, run_sizeOf_of hinf, Sem.run_pure, Option.map_some, Addr.add_lit, hsz, hp, he]
      · simp only [VR, hs, MsR]
        by_cases hm' : m' = (l ()).toNat
        · refine ⟨off, m' - (l ()).toNat, by simp [hm'], .inl (by omega), by omega, by omega, h4⟩
        · refine ⟨off + (l ()).toNat * p.sz, m' - (l ()).toNat, by simp [hm'], .inr ?_, by omega, by omega, h4⟩
          rcases h1 with h1 | h1
          · omega
          · rw [h1, Nat.add_mul, Nat.add_assoc]
  · rename_i s
    simp only [TDok] at hd
    subst hd
    split at h <;> (try (cases h; done))
    rename_i h' hh
    have hh := bnd_ok hh hhi hhi0
    obtain rfl := hmx0 rfl
    simp only [Option.some.injEq] at h
    subst h
    obtain ⟨b0, b1, b2⟩ : 0 ≤ l () ∧ l () ≤ h' () ∧ h' () ≤ ((s ()).length : Int) := hvc (fun _ => 0 ≤ l () ∧ l () ≤ h' () ∧ h' () ≤ ((s ()).length : Int)) (List.mem_singleton.2 rfl)
    simp only [VR] at hx
    obtain ⟨bs, rfl, h1, h2⟩ := hx
    rw [← h1, ← size_of_data] at b2
    obtain ⟨m', r1, r2, r3⟩ := run_sliceBounds (P := P) (w := w) (isS := false) (len := bs.size) (cap := bs.size) (l := l ()) (h := h' ()) (m := h' ()) (by rcases hl with ⟨e1, e2⟩ | e1; exact .inl ⟨e1, by rw [e2]⟩; exact .inr e1)
      (by rcases hh with ⟨e1, e2⟩ | e1; exact .inl ⟨e1, by rw [e2]; simp only; rw [← h1, ← size_of_data]⟩; exact .inr e1) (.inl ⟨rfl, rfl⟩) (.inl rfl) b0 b1 (by omega) b2 (Nat.le_refl _)
    refine ⟨.string (bs.extract (l ()).toNat (h' ()).toNat), ?_, ?_, rfl⟩
    · simp only [Instr.sliceAt, Instr.slice, Sem.run_bind, run_under hu, Result.andThen_ok, r1, Option.isSome_none, Bool.false_eq_true, if_false, Sem.run_pure]
    · simp only [VR]
      refine ⟨_, rfl, ?_, ?_⟩
      · rw [Lib.extract_data, h1]
      · simp only [ByteArray.size_extract]; omega
theorem indexStr_ok (hT : ∀ t i, T t = some i → TIok P t i) {t : Nat} {ti : TI} (ht : tget T t = some ti) (htd : ti.td = .str) {s : Unit → List UInt8} {k : IntKind} {n : Unit → Int} {u v : Value} (hx : VR w I σ (.str s) u) (hy : VR w I σ (.int k n) v)
    (h0 : 0 ≤ n ()) (h1 : n () < ((s ()).length : Int)) : ∃ r, (Instr.index t u v).run P w = .ok r w ∧ VR w I σ (.int .u8 fun _ => ((lk (s ()) (n ()).toNat).toNat : Int)) r := by
  obtain ⟨d, hu, hd, _⟩ := under_of hT ht
  rw [htd] at hd
  simp only [TDok] at hd
  subst hd
  simp only [VR] at hx hy
  obtain ⟨bs, rfl, e1, e2⟩ := hx
  obtain ⟨rfl, _⟩ := hy
  have hlt : (n ()).toNat < bs.size := by rw [size_of_data, e1]; omega
  have hb : bs[(n ()).toNat]? = some bs[(n ()).toNat] := by simp [hlt]
  have hl : lk (s ()) (n ()).toNat = bs[(n ()).toNat] := by
    have : (s ())[(n ()).toNat]? = some bs[(n ()).toNat] := by
      rw [← e1]
      have hlt' : (n ()).toNat < bs.data.size := hlt
      simp only [Array.getElem?_toList, Array.getElem?_eq_getElem hlt']
      rfl
    simp [lk, List.getD, this]
  refine ⟨.int .u8 (bs[(n ()).toNat].toNat : Int), ?_, ?_⟩
  · simp only [Instr.index, asIntOf, Sem.run_bind, Sem.run_pure, Result.andThen_ok, run_under hu, if_pos h0, hb]
  · simp only [VR, hl, true_and]
    rw [wf_iff]
    have := bs[(n ()).toNat].toNat_lt
    simp [IntKind.min, IntKind.max, IntKind.signed, IntKind.bits]
    omega
/-! ### aggregates -/
theorem VRs.lset : ∀ {cs : List AV} {us : List Value} {v : AV} {u : Value} (i : Nat), VRs w I σ cs us → VR w I σ v u → VRs w I σ (Am.lset cs i v) (us.set i u)
  | [], us, v, u, i, h, _ => by simp only [VRs] at h; simp [h, Am.lset, VRs]
  | c :: cs, us, v, u, 0, h, hv => by
    simp only [VRs] at h
    obtain ⟨x, us', rfl, _, h⟩ := h
    simp only [Am.lset, List.set_cons_zero, VRs]
    exact ⟨u, us', rfl, hv, h⟩
  | c :: cs, us, v, u, i + 1, h, hv => by
    simp only [VRs] at h
    obtain ⟨x, us', rfl, hx, h⟩ := h
    simp only [Am.lset, List.set_cons_succ, VRs]
    exact ⟨x, _, rfl, hx, VRs.lset i h hv⟩
theorem lset_length (cs : List AV) (i : Nat) (v : AV) : (lset cs i v).length = cs.length := by rw [lset_eq]; simp
theorem lput_length : ∀ (vs cs : List AV) (off : Nat), (lput cs off vs).length = cs.length
  | [], _, _ => rfl
  | v :: vs, cs, off => by rw [lput, lput_length vs, lset_length]
/-- cells laid one behind the other -/
theorem VRs.lput : ∀ (vs : List AV) (ws : List Value) (cs : List AV) (us : Array Value) (off k : Nat), VRs w I σ vs ws → VRs w I σ cs us.toList →
    VRs w I σ (Am.lput cs (off + k) vs) ((ws.zipIdx k).foldl (fun (cs : Array Value) (x : Value × Nat) => cs.setIfInBounds (off + x.2) x.1) us).toList
  | [], ws, cs, us, off, k, h, h' => by simp only [VRs] at h; simpa [h, Am.lput] using h'
  | v :: vs, ws, cs, us, off, k, h, h' => by
    simp only [VRs] at h
    obtain ⟨u, ws', rfl, hu, h⟩ := h
    simp only [Am.lput, List.zipIdx_cons, List.foldl_cons]
    exact VRs.lput vs ws' _ _ off (k + 1) h (by rw [Array.toList_setIfInBounds]; exact VRs.lset (off + k) h' hu)
theorem VR.plain : ∀ {v : AV} {u : Value}, plain1 v = true → VR w I σ v u → u.cells = #[u] ∧ u.oneCell' = true
  | .un, _, h, _ => by simp [plain1] at h
  | .udf, _, h, _ => by simp [plain1] at h
  | .agg _, _, h, _ => by simp [plain1] at h
  | .tup _, _, h, _ => by simp [plain1] at h
  | .int k n, _, _, h => by simp only [VR] at h; obtain ⟨rfl, _⟩ := h; exact ⟨rfl, rfl⟩
  | .bool b, _, _, h => by simp only [VR] at h; subst h; exact ⟨rfl, rfl⟩
  | .str s, _, _, h => by simp only [VR] at h; obtain ⟨_, rfl, _⟩ := h; exact ⟨rfl, rfl⟩
  | .nils, _, _, h => by simp only [VR] at h; subst h; exact ⟨rfl, rfl⟩
  | .nilp, _, _, h => by simp only [VR] at h; subst h; exact ⟨rfl, rfl⟩
  | .nilf, _, _, h => by simp only [VR] at h; subst h; exact ⟨rfl, rfl⟩
  | .yl _, _, _, h => by simp only [VR] at h; subst h; exact ⟨rfl, rfl⟩
  | .sl nn e xs, _, _, h => by
    simp only [VR, Dat] at h
    obtain ⟨⟨_, _, _, rfl, _⟩, _⟩ := h
    exact ⟨rfl, rfl⟩
  | .pt cs, _, _, h => by simp only [VR] at h; obtain ⟨_, _, rfl, _⟩ := h; exact ⟨rfl, rfl⟩
  | .ms n lo len, _, _, h => by
    simp only [VR] at h
    unfold MsR at h
    split at h
    · exact h.elim
    · obtain ⟨rfl, _⟩ := h; exact ⟨rfl, rfl⟩
    · obtain ⟨_, _, rfl, _⟩ := h; exact ⟨rfl, rfl⟩
  | .mp n off, _, _, h => by
    simp only [VR] at h
    unfold PtR at h
    split at h
    · subst h; exact ⟨rfl, rfl⟩
    · exact h.elim
  | .me n i off, _, _, h => by
    simp only [VR] at h
    unfold PtR at h
    split at h
    · subst h; exact ⟨rfl, rfl⟩
    · exact h.elim
  | .ax n off c i, _, _, h => by
    simp only [VR] at h
    unfold PtR at h
    split at h
    · subst h; exact ⟨rfl, rfl⟩
    · exact h.elim
  | .fn f cs, _, _, h => by simp only [VR] at h; obtain ⟨_, rfl, _⟩ := h; exact ⟨rfl, rfl⟩
theorem VRs.ones : ∀ {vs : List AV} {us : List Value}, plains vs = true → VRs w I σ vs us → ∀ u ∈ us, u.oneCell' = true
  | [], us, _, h => by simp only [VRs] at h; simp [h]
  | v :: vs, us, hp, h => by
    unfold plains at hp
    split at hp
    · rename_i h1
      simp only [VRs] at h
      obtain ⟨u, us', rfl, hu, h⟩ := h
      intro x hx
      rcases List.mem_cons.1 hx with rfl | hx
      · exact (VR.plain h1 hu).2
      · exact VRs.ones hp h x hx
    · cases hp
theorem cellsOf_ok {v : AV} {u : Value} (hp : plains (cellsOf v) = true) (h : VR w I σ v u) : VRs w I σ (cellsOf v) u.cells.toList ∧ ∀ c ∈ u.cells.toList, c.oneCell' = true := by
  have key : VRs w I σ (cellsOf v) u.cells.toList := by
    unfold cellsOf
    split
    · simp only [VR] at h
      obtain ⟨us, rfl, h⟩ := h
      exact h
    · rename_i hne
      have hp' : plain1 v = true := by
        unfold cellsOf at hp
        split at hp
        · exact (hne _ rfl).elim
        · unfold plains at hp
          split at hp
          · assumption
          · cases hp
      rw [(VR.plain hp' h).1]
      simp only [VRs]
      exact ⟨u, [], rfl, h, rfl⟩
  exact ⟨key, VRs.ones hp key⟩
/-- the parts of an aggregate, as the machine lays them -/
theorem fill_ok (place : Nat → Option (Nat × Nat)) (fs : List (Nat × Nat × Nat)) (hpl : ∀ i off ft sz, fget fs i = some (off, ft, sz) → place i = some (off, sz)) :
    ∀ (ps : List (Nat × AV)) (qs : List (Nat × Value)) (cs cs' : List AV) (us : Array Value), buildAv fs cs ps = some cs' → ps.length = qs.length → (∀ (j i : Nat) (v : AV), ps[j]? = some (i, v) → ∃ u, qs[j]? = some (i, u) ∧ VR w I σ v u) → VRs w I σ cs us.toList →
    ∃ us', Instr.fill place us qs = some us' ∧ VRs w I σ cs' us'.toList
  | [], qs, cs, cs', us, h, hl, _, hv => by
    simp only [buildAv, Option.some.injEq] at h
    subst h
    cases qs with
    | nil => exact ⟨us, rfl, hv⟩
    | cons q qs => simp at hl
  | (i, v) :: ps, [], cs, cs', us, h, hl, _, hv => by simp at hl
  | (i, v) :: ps, (i', u) :: qs, cs, cs', us, h, hl, hps, hv => by
    obtain ⟨u', e, hu⟩ := hps 0 i v rfl
    simp only [List.getElem?_cons_zero, Option.some.injEq, Prod.mk.injEq] at e
    obtain ⟨rfl, rfl⟩ := e
    unfold buildAv at h
    split at h <;> (try (cases h; done))
    rename_i off ft sz hf
    split at h <;> (try (cases h; done))
    rename_i h1 h2 h3
    rw [llen_eq] at h1 h3
    have h1 := Nat.eq_of_beq_eq_true h1
    have h3 := Nat.le_of_ble_eq_true h3
    obtain ⟨g1, g2⟩ := cellsOf_ok h2 hu
    have l1 := VRs.length g1
    have l2 := VRs.length hv
    simp only [Array.length_toList] at l1 l2
    simp only [Instr.fill, hpl _ _ _ _ hf]
    rw [if_neg (by simp; omega)]
    refine fill_ok place fs hpl ps qs _ cs' _ h (by simpa using hl) (fun j i v hj => by simpa using hps (j + 1) i v (by simpa using hj)) ?_
    have := VRs.lput (cellsOf v) u.cells.toList cs us off 0 g1 hv
    simp only [Nat.add_zero] at this
    rw [← Array.foldl_toList, Array.toList_zipIdx]
    exact this
theorem pairs_ok (h : EnvR w I σ env a.tmps) : ∀ (ps : List (Nat × Operand)), (pairs env ps).length = (ps.map fun (i, x) => (i, a.eval x)).length ∧ ∀ (j i : Nat) (v : AV), (pairs env ps)[j]? = some (i, v) → ∃ u, (ps.map fun (i, x) => (i, a.eval x))[j]? = some (i, u) ∧ VR w I σ v u
  | [] => ⟨rfl, by simp [pairs]⟩
  | (k, x) :: ps => by
    obtain ⟨h1, h2⟩ := pairs_ok h ps
    refine ⟨by simp [pairs, h1], fun j i v hj => ?_⟩
    cases j with
    | zero =>
      simp only [pairs, List.getElem?_cons_zero, Option.some.injEq, Prod.mk.injEq] at hj
      obtain ⟨rfl, rfl⟩ := hj
      exact ⟨_, rfl, opv_ok h x⟩
    | succ j => simpa using h2 j i v (by simpa [pairs] using hj)
end
end Go.Am
/- One operation: memory that is written. -/
namespace Go.Am
set_option linter.all false
set_option linter.deprecated false
section
variable {P : Program} {o : Oper} {a : Act} {w w' : World} {I : Nat → Prop} {σ : Sig} {M : MS} {key : Nat} {env : List AV} {T : TT}

theorem mget_mset (M : MS) (k : Nat) (x : MObj) (j : Nat) : mget (mset M k x) j = if k = j then some x else mget M j := by
  induction M with
  | nil =>
    simp only [mset, mget]
    split
    · rename_i h; rw [if_pos (Nat.eq_of_beq_eq_true h)]
    · rename_i h; rw [if_neg (Nat.ne_of_beq_eq_false h)]
  | cons p M ih =>
    obtain ⟨k', y⟩ := p
    simp only [mset]
    split
    · rename_i h
      have h := Nat.eq_of_beq_eq_true h
      subst h
      simp only [mget]
      split
      · rename_i h; rw [if_pos (Nat.eq_of_beq_eq_true h)]
      · rename_i h; rw [if_neg (Nat.ne_of_beq_eq_false h)]
    · rename_i h
      have h := Nat.ne_of_beq_eq_false h
      simp only [mget, ih]
      split
      · rename_i h2
        have h2 := Nat.eq_of_beq_eq_true h2
        subst h2
        rw [if_neg (fun e => h e.symm)]
      · rfl
theorem mget_mdel (M : MS) (k j : Nat) : mget (mdel M k) j = if k = j then none else mget M j := by
  induction M with
  | nil => simp [mdel, mget]
  | cons p M ih =>
    obtain ⟨k', y⟩ := p
    simp only [mdel]
    split
    · rename_i h
      have h := Nat.eq_of_beq_eq_true h
      subst h
      rw [ih]
      split
      · rfl
      · rename_i e
        simp only [mget]
        split
        · rename_i h2; exact (e (Nat.eq_of_beq_eq_true h2)).elim
        · rfl
    · rename_i h
      have h := Nat.ne_of_beq_eq_false h
      simp only [mget, ih]
      split
      · rename_i h2
        have h2 := Nat.eq_of_beq_eq_true h2
        subst h2
        rw [if_neg (fun e => h e.symm)]
      · rfl
def Sig.upd (σ : Sig) (k : Nat) (p : Option Pl) : Sig := fun j => if j = k then some p else σ j
theorem Sig.upd_same (σ : Sig) (k : Nat) (p : Option Pl) : σ.upd k p k = some p := by simp [Sig.upd]
theorem Sig.upd_other (σ : Sig) {k j : Nat} (p : Option Pl) (h : j ≠ k) : σ.upd k p j = σ j := by simp [Sig.upd, h]
theorem Ok.unset (h : Ok w I σ M) {k : Nat} (hk : σ k = none) : mget M k = none := by
  cases hm : mget M k with
  | none => rfl
  | some x =>
    obtain ⟨p, hp, _⟩ := h.obj k x hm
    rw [hk] at hp
    cases hp
theorem Ok.blk_lt (h : Ok w I σ M) {b : Nat} (hb : Owned σ M b) : b < w.heap.size := by
  obtain ⟨k, x, p, hm, _, hs, hf⟩ := hb
  obtain ⟨q, hq, ho⟩ := h.obj k x hm
  rw [hs] at hq
  cases hq
  exact ho.foot_lt hf
/-- a world with one block more, and nothing else turned (but for draws) -/
structure More (w w' : World) (x : Obj) : Prop where
  os : w'.os = w.os
  tape : w'.tape = w.tape
  output : w'.output = w.output
  heap : w'.heap = w.heap.push x
theorem More.alloc (w : World) (x : Obj) : More w (w.alloc x) x := ⟨rfl, rfl, rfl, rfl⟩
theorem More.size {x : Obj} (h : More w w' x) : w'.heap.size = w.heap.size + 1 := by rw [h.heap]; simp
theorem More.old {x : Obj} (h : More w w' x) {b : Nat} (hb : b < w.heap.size) : w'.heap[b]? = w.heap[b]? := by
  rw [h.heap, Array.getElem?_push, if_neg (by omega)]
theorem More.new {x : Obj} (h : More w w' x) : w'.heap[w.heap.size]? = some x := by rw [h.heap]; simp
/-- a new object -/
theorem Post.alloc (hok : Ok w I σ M) (hfree : σ key = none) {x : Obj} (hm : More w w' x) {cap sz : Nat} {y : MObj} {val : AV} {v : Value} (hy : owns y)
    (ho : OR w' I (σ.upd key (some (.one w.heap.size cap sz))) (some (.one w.heap.size cap sz)) y) (hv : VR w' I (σ.upd key (some (.one w.heap.size cap sz))) val v) :
    Post w I σ M key val (mset M key y) v w' := by
  have hun := hok.unset hfree
  have hsig : ∀ k p, σ k = some p → σ.upd key (some (.one w.heap.size cap sz)) k = some p := fun k p h => by
    rw [Sig.upd_other _ _ (by rintro rfl; rw [hfree] at h; cases h)]; exact h
  have K : Keep w I σ w' I (σ.upd key (some (.one w.heap.size cap sz))) := ⟨fun b hb => hm.old (hok.lt b hb), fun b hb => hb, hsig⟩
  have hown : ∀ b, Owned (σ.upd key (some (.one w.heap.size cap sz))) (mset M key y) b → b = w.heap.size ∨ Owned σ M b := by
    rintro b ⟨k, z, p, hk, hz, hs, hf⟩
    rw [mget_mset] at hk
    split at hk
    · rename_i e; subst e
      rw [Sig.upd_same] at hs
      cases hs
      exact .inl (foot_one hf).symm
    · rename_i e
      rw [Sig.upd_other _ _ (fun h => e h.symm)] at hs
      exact .inr ⟨k, z, p, hk, hz, hs, hf⟩
  refine ⟨I, σ.upd key (some (.one w.heap.size cap sz)), hv, ⟨fun b hb => by rw [hm.size]; have := hok.lt b hb; omega, fun k z hk => ?_, fun b hb hi => ?_, ?_⟩, ⟨hm.os, hm.tape, hm.output, by rw [hm.size]; omega, fun b hb _ => hm.old hb, fun _ h => h, fun _ h => .inl h, fun b hb => ?_, hsig⟩, fun k => ?_⟩
  · rw [mget_mset] at hk
    split at hk
    · rename_i e; subst e
      cases hk
      exact ⟨_, Sig.upd_same _ _ _, ho⟩
    · obtain ⟨p, hp, ho'⟩ := hok.obj k z hk
      refine ⟨p, hsig k p hp, OR.keep K (fun q b hq hf => ?_) ho'⟩
      subst hq
      exact hm.old (ho'.foot_lt hf)
  · have := hok.lt b hi
    rcases hown b hb with rfl | h
    · omega
    · exact hok.sep b h hi
  · intro k k' z z' p p' b h1 h2 o1 o2 s1 s2 e f
    rw [mget_mset] at h1 h2
    split at h1 <;> split at h2
    · rename_i e1 e2; rw [← e1, ← e2]
    · rename_i e1 e2
      subst e1
      rw [Sig.upd_same] at s1
      cases s1
      rw [Sig.upd_other _ _ (fun h => e2 h.symm)] at s2
      have := hok.blk_lt ⟨k', z', p', h2, o2, s2, f⟩
      have := foot_one e
      omega
    · rename_i e1 e2
      subst e2
      rw [Sig.upd_same] at s2
      cases s2
      rw [Sig.upd_other _ _ (fun h => e1 h.symm)] at s1
      have := hok.blk_lt ⟨k, z, p, h1, o1, s1, e⟩
      have := foot_one f
      omega
    · rename_i e1 e2
      rw [Sig.upd_other _ _ (fun h => e1 h.symm)] at s1
      rw [Sig.upd_other _ _ (fun h => e2 h.symm)] at s2
      exact hok.inj k k' z z' p p' b h1 h2 o1 o2 s1 s2 e f
  · rcases hown b hb with rfl | h
    · exact .inr (Nat.le_refl _)
    · exact .inl h
  · by_cases h : k = key
    · exact .inr (by omega)
    · exact .inl (Sig.upd_other _ _ h)
/-- one block's content turned -/
structure Turned (w w' : World) (b : Nat) : Prop where
  os : w'.os = w.os
  tape : w'.tape = w.tape
  output : w'.output = w.output
  size : w'.heap.size = w.heap.size
  other : ∀ k, k ≠ b → w'.heap[k]? = w.heap[k]?
/-- it owns one block -/
def single : MObj → Prop
  | .dp .. => False
  | _ => True
theorem single.foot {o : MObj} (h : single o) {p : Pl} {b : Nat} (hf : foot o p b) : p.b = b := by
  cases o <;> first | exact hf | exact h.elim
theorem Post.turned (hok : Ok w I σ M) {k : Nat} {x y : MObj} {p : Pl} (hx : mget M k = some x) (hxo : owns x) (hp : σ k = some (some p)) (ht : Turned w w' p.b) {val : AV} {v : Value} (hy : owns y)
    (ho : OR w' I σ (some p) y) (hv : VR w' I σ val v) (hsy : single y := by trivial) : Post w I σ M key val (mset M k y) v w' := by
  have hk : Owned σ M p.b := ⟨k, x, p, hx, hxo, hp, foot_b x p⟩
  have K : Keep w I σ w' I σ := ⟨fun b hb => ht.other b (by rintro rfl; exact hok.sep _ hk hb), fun b hb => hb, fun _ _ h => h⟩
  have hown : ∀ b, Owned σ (mset M k y) b → Owned σ M b := by
    rintro b ⟨j, z, q, hj, hz, hs, hf⟩
    rw [mget_mset] at hj
    split at hj
    · rename_i e; subst e
      cases hj
      rw [hp] at hs
      cases hs
      rw [← hsy.foot hf]
      exact hk
    · exact ⟨j, z, q, hj, hz, hs, hf⟩
  refine ⟨I, σ, hv, ⟨fun b hb => by rw [ht.size]; exact hok.lt b hb, fun j z hj => ?_, fun b hb hi => hok.sep b (hown b hb) hi, ?_⟩,
    ⟨ht.os, ht.tape, ht.output, by rw [ht.size]; omega, fun b _ hb => ht.other b (by rintro rfl; exact hb hk), fun _ h => h, fun _ h => .inl h, fun b hb => .inl (hown b hb), fun _ _ h => h⟩, fun _ => .inl rfl⟩
  · rw [mget_mset] at hj
    split at hj
    · rename_i e; subst e
      cases hj
      exact ⟨_, hp, ho⟩
    · rename_i e
      obtain ⟨q, hq, ho'⟩ := hok.obj j z hj
      refine ⟨q, hq, OR.keep K (fun r b hr hf => ?_) ho'⟩
      subst hr
      apply ht.other
      intro e'
      subst e'
      by_cases hz : owns z
      · exact e (hok.inj k j x z p r _ hx hj hxo hz hp hq (foot_b x p) hf)
      · cases z with
        | imm nn e2 xs => exact hok.sep _ hk (hf ▸ ho'.2)
        | _ => exact hz trivial
  · intro j j' z z' q q' b h1 h2 o1 o2 s1 s2 e f
    rw [mget_mset] at h1 h2
    split at h1 <;> split at h2
    · rename_i e1 e2; rw [← e1, ← e2]
    · rename_i e1 e2
      subst e1
      cases h1
      rw [hp] at s1
      cases s1
      have hb := hsy.foot e
      subst hb
      exact hok.inj k j' x z' p q' _ hx h2 hxo o2 hp s2 (foot_b x p) f
    · rename_i e1 e2
      subst e2
      cases h2
      rw [hp] at s2
      cases s2
      have hb := hsy.foot f
      subst hb
      exact hok.inj j k z x q p _ h1 hx o1 hxo s1 hp e (foot_b x p)
    · exact hok.inj j j' z z' q q' b h1 h2 o1 o2 s1 s2 e f
end
end Go.Am
/- One operation: stores, new objects. -/
namespace Go.Am
set_option linter.all false
set_option linter.deprecated false
section
variable {P : Program} {o : Oper} {a : Act} {w w' : World} {I : Nat → Prop} {σ : Sig} {M : MS} {key : Nat} {env : List AV} {T : TT}

theorem Turned.refl (w : World) (b : Nat) : Turned w w b := ⟨rfl, rfl, rfl, rfl, fun _ _ => rfl⟩
theorem Turned.trans {w w' w'' : World} {b : Nat} (h : Turned w w' b) (k : Turned w' w'' b) : Turned w w'' b :=
  ⟨k.os.trans h.os, k.tape.trans h.tape, k.output.trans h.output, k.size.trans h.size, fun j hj => (k.other j hj).trans (h.other j hj)⟩
def Splice (cs : Array Value) (o : Nat) (vs : List Value) (cs' : Array Value) : Prop :=
  cs'.size = cs.size ∧ ∀ j : Nat, cs'[j]? = if o ≤ j ∧ j < o + vs.length then vs[j - o]? else cs[j]?
theorem run_storeCells_splice (b o : Nat) : ∀ (vs : List Value) (i : Nat) (w : World) (cs : Array Value) (t : TypeId) (fz : Nat × Nat), w.heap[b]? = some (.cells cs t fz) → unfz (o + i) (o + i + vs.length) fz → o + i + vs.length ≤ cs.size → (∀ v ∈ vs, v.oneCell' = true) →
    ∃ w' cs', (storeCells ⟨b, o, none⟩ vs i).run P w = .ok () w' ∧ Turned w w' b ∧ w'.heap[b]? = some (.cells cs' t fz) ∧ Splice cs (o + i) vs cs'
  | [], i, w, cs, t, fz, hh, _, _, _ => ⟨w, cs, rfl, .refl w b, hh, rfl, fun j => by rw [if_neg (by simp)]⟩
  | v :: vs, i, w, cs, t, fz, hh, hf, hl, h1 => by
    simp only [List.length_cons] at hl
    have hb : b < w.heap.size := (Array.getElem?_eq_some_iff.1 hh).1
    have hc : w.cell? ⟨b, o + i, none⟩ = some cs[o + i] := by
      rw [cell_of_row w b (o + i) cs t fz hh]
      exact Array.getElem?_eq_getElem (by omega)
    have hfz : w.frozen? ⟨b, o + i, none⟩ = false := by
      simp only [World.frozen?, hh]
      have := hf (o + i) (Nat.le_refl _) (by simp)
      simp only [Bool.and_eq_false_iff, decide_eq_false_iff_not]
      omega
    have hst : (store ((⟨b, o, none⟩ : Addr).add i) v).run P w = .ok () (w.setCell ⟨b, o + i, none⟩ v) := by
      rw [Addr.add_lit, run_store P w _ v _ (h1 v (by simp))]
      simp [hc, hfz]
    have hh' : (w.setCell ⟨b, o + i, none⟩ v).heap[b]? = some (.cells (cs.setIfInBounds (o + i) v) t fz) := by
      simp [World.setCell, Array.getElem?_modify, hh]
    have ht : Turned w (w.setCell ⟨b, o + i, none⟩ v) b := ⟨rfl, rfl, rfl, by simp, fun k hk => heap_setCell_other w ⟨b, o + i, none⟩ k v hk⟩
    obtain ⟨w', cs', r1, r2, r3, r4, r5⟩ := run_storeCells_splice b o vs (i + 1) _ _ t fz hh' (fun k h1 h2 => hf k (by omega) (by simp only [List.length_cons]; omega)) (by simp; omega) (fun x hx => h1 x (by simp [hx]))
    refine ⟨w', cs', ?_, ht.trans r2, r3, by simpa using r4, fun j => ?_⟩
    · simp only [storeCells, Sem.run_bind, hst, Result.andThen_ok, r1]
    · rw [r5 j]
      simp only [List.length_cons]
      by_cases hj : o + i = j
      · subst hj
        rw [if_neg (by omega), if_pos (by omega), Array.getElem?_setIfInBounds_self_of_lt (by omega)]
        simp
      · rw [Array.getElem?_setIfInBounds_ne hj]
        by_cases h2 : o + (i + 1) ≤ j ∧ j < o + (i + 1) + vs.length
        · rw [if_pos h2, if_pos (by omega)]
          obtain ⟨n, rfl⟩ : ∃ n, j = o + i + 1 + n := ⟨j - (o + i + 1), by omega⟩
          rw [show o + i + 1 + n - (o + (i + 1)) = n by omega, show o + i + 1 + n - (o + i) = n + 1 by omega]
          rfl
        · rw [if_neg h2, if_neg (by omega)]
theorem run_storeVar_of {t : TypeId} {i : TI} (hi : TIok P t i) {v : Value} (hv : v.cells.size = i.size) (h1 : ∀ c ∈ v.cells.toList, c.oneCell' = true) {b off : Nat} {cs : Array Value} {ty : TypeId} {fz : Nat × Nat}
    (hh : w.heap[b]? = some (.cells cs ty fz)) (hf : unfz off (off + i.size) fz) (hl : off + i.size ≤ cs.size) :
    ∃ w' cs', (Instr.storeAt t (.pointer (some ⟨b, off, none⟩)) v).run P w = .ok () w' ∧ Turned w w' b ∧ w'.heap[b]? = some (.cells cs' ty fz) ∧ Splice cs off v.cells.toList cs' := by
  obtain ⟨inf, z, hinf, hs, _⟩ := hi.info
  obtain ⟨w', cs', r1, r2, r3, r4⟩ := run_storeCells_splice (P := P) b off v.cells.toList 0 w cs ty fz hh (by simpa [hv] using hf) (by simp; omega) h1
  refine ⟨w', cs', ?_, r2, r3, by simpa using r4⟩
  simp only [Instr.storeAt, Instr.sureAddr, storeVar, Sem.run_bind, Sem.run_pure, Result.andThen_ok, run_sizeOf_of hinf, hs]
  rw [if_neg (by simp [hv])]
  exact r1
theorem Splice.unfrozen {cs cs' : Array Value} {o : Nat} {vs : List Value} {fz : Nat × Nat} (h : Splice cs o vs cs') (hf : Am.unfrozen cs fz) : Am.unfrozen cs' fz := by
  unfold Am.unfrozen at *
  rw [h.1]
  exact hf
theorem Pin.splice {p : Pl} {cs cs' : Array Value} {o : Nat} {vs : List Value} {t : TypeId} {fz : Nat × Nat} (h : Splice cs o vs cs') (hp : Pin p cs t fz) (h1 : vs = [] ∨ (p.o ≤ o ∧ o + vs.length ≤ p.o + p.cap * p.sz)) : Pin p cs' t fz := by
  refine ⟨fun hn => h.unfrozen (hp.1 hn), fun q hq => ?_⟩
  obtain ⟨g1, g2, g3, g4⟩ := hp.2 q hq
  refine ⟨g1, g2, h.1.trans g3, fun k hk => ?_⟩
  rw [h.2 k, if_neg (by rcases h1 with rfl | h1 <;> simp <;> omega)]
  exact g4 k hk
theorem unfz.mono {a b a' b' : Nat} {fz : Nat × Nat} (h : unfz a b fz) (h1 : a ≤ a') (h2 : b' ≤ b) : unfz a' b' fz := fun k g1 g2 => h k (by omega) (by omega)
/-- an object's cells behind a store -/
theorem VRs.splice : ∀ {vs cs : List AV} {us ws : List Value} {us' : List Value} {off : Nat}, VRs w I σ cs us → VRs w I σ vs ws → us'.length = us.length → (∀ j : Nat, us'[j]? = if off ≤ j ∧ j < off + ws.length then ws[j - off]? else us[j]?) →
    off + ws.length ≤ us.length → VRs w I σ (Am.lput cs off vs) us'
  | [], cs, us, ws, us', off, h, hv, hl, hj, _ => by
    simp only [VRs] at hv
    subst hv
    have : us' = us := List.ext_getElem? fun j => by rw [hj j, if_neg (by simp)]
    rw [this]
    exact h
  | v :: vs, cs, us, ws, us', off, h, hv, hl, hj, hb => by
    simp only [VRs] at hv
    obtain ⟨u, ws', rfl, hu, hv⟩ := hv
    simp only [Am.lput]
    refine VRs.splice (us := us.set off u) (VRs.lset off h hu) hv (by simpa using hl) (fun j => ?_) (by simp at hb ⊢; omega)
    rw [hj j]
    simp only [List.length_cons] at hb ⊢
    by_cases he : off = j
    · subst he
      rw [if_pos (by omega), if_neg (by omega), List.getElem?_set_self (by omega)]
      simp
    · rw [List.getElem?_set_ne he]
      by_cases h2 : off + 1 ≤ j ∧ j < off + 1 + ws'.length
      · rw [if_pos h2, if_pos (by omega)]
        obtain ⟨n, rfl⟩ : ∃ n, j = off + 1 + n := ⟨j - (off + 1), by omega⟩
        rw [show off + 1 + n - (off + 1) = n by omega, show off + 1 + n - off = n + 1 by omega]
        rfl
      · rw [if_neg h2, if_neg (by omega)]
mutual
theorem shEq_ok : ∀ {s t : Sh}, shEq s t = true → s = t
  | .int k, .int k', h => by simp only [shEq, decide_eq_true_eq] at h; rw [h]
  | .bool, .bool, _ => rfl
  | .str, .str, _ => rfl
  | .slice e, .slice e', h => by
    have := shEqs_ok (s := e) (t := e') (by simpa [shEq] using h)
    rw [this]
  | .ptr e, .ptr e', h => by
    have := shEqs_ok (s := e) (t := e') (by simpa [shEq] using h)
    rw [this]
  | .other, .other, _ => rfl
  | .int _, .bool, h => by simp [shEq] at h
  | .int _, .str, h => by simp [shEq] at h
  | .int _, .slice _, h => by simp [shEq] at h
  | .int _, .ptr _, h => by simp [shEq] at h
  | .int _, .other, h => by simp [shEq] at h
  | .bool, .int _, h => by simp [shEq] at h
  | .bool, .str, h => by simp [shEq] at h
  | .bool, .slice _, h => by simp [shEq] at h
  | .bool, .ptr _, h => by simp [shEq] at h
  | .bool, .other, h => by simp [shEq] at h
  | .str, .int _, h => by simp [shEq] at h
  | .str, .bool, h => by simp [shEq] at h
  | .str, .slice _, h => by simp [shEq] at h
  | .str, .ptr _, h => by simp [shEq] at h
  | .str, .other, h => by simp [shEq] at h
  | .slice _, .int _, h => by simp [shEq] at h
  | .slice _, .bool, h => by simp [shEq] at h
  | .slice _, .str, h => by simp [shEq] at h
  | .slice _, .ptr _, h => by simp [shEq] at h
  | .slice _, .other, h => by simp [shEq] at h
  | .ptr _, .int _, h => by simp [shEq] at h
  | .ptr _, .bool, h => by simp [shEq] at h
  | .ptr _, .str, h => by simp [shEq] at h
  | .ptr _, .slice _, h => by simp [shEq] at h
  | .ptr _, .other, h => by simp [shEq] at h
  | .other, .int _, h => by simp [shEq] at h
  | .other, .bool, h => by simp [shEq] at h
  | .other, .str, h => by simp [shEq] at h
  | .other, .slice _, h => by simp [shEq] at h
  | .other, .ptr _, h => by simp [shEq] at h
theorem shEqs_ok : ∀ {s t : List Sh}, shEqs s t = true → s = t
  | [], [], _ => rfl
  | s :: ss, t :: ts, h => by
    unfold shEqs at h
    split at h
    · rename_i h1
      rw [shEq_ok h1, shEqs_ok h]
    · cases h
  | [], _ :: _, h => by simp [shEqs] at h
  | _ :: _, [], h => by simp [shEqs] at h
end
theorem enc_ok {s : Sh} {x : AV} {d : Unit → D} {v : Value} (h : enc s x = some d) (hv : VR w I σ x v) : Dat w I s (d ()) v := by
  unfold enc at h
  split at h <;> (try (cases h; done))
  · split at h
    · rename_i hk
      simp only [decide_eq_true_eq] at hk
      simp only [Option.some.injEq] at h
      subst h hk
      simpa only [VR, Dat, D.toInt] using hv
    · cases h
  · simp only [Option.some.injEq] at h
    subst h
    simpa only [VR, Dat, D.toBool] using hv
  · simp only [Option.some.injEq] at h
    subst h
    simpa only [VR, Dat, D.toStr] using hv
  · simp only [Option.some.injEq] at h
    subst h
    simp only [VR] at hv
    subst hv
    simp only [Dat, D.toList]
    exact ⟨none, 0, 0, rfl, rfl, Nat.le_refl _, Nat.zero_le _, fun _ => rfl, by simp, fun i hi => by omega⟩
  · split at h
    · rename_i he
      simp only [Option.some.injEq] at h
      subst h
      simp only [VR] at hv
      rw [← shEqs_ok he]
      exact hv.1
    · cases h
end
end Go.Am
/- One operation: what is lent, and frozen; new objects. -/
namespace Go.Am
set_option linter.all false
set_option linter.deprecated false
section
variable {P : Program} {o : Oper} {a : Act} {w w' : World} {I : Nat → Prop} {σ : Sig} {M : MS} {key : Nat} {env : List AV} {T : TT}

def Lent (σ : Sig) (l : List Nat) (b : Nat) : Prop := ∃ k ∈ l, ∃ p, σ k = some (some p) ∧ p.b = b
def LentOk (M : MS) (l : List Nat) : Prop := ∀ k ∈ l, ∃ nn e xs, mget M k = some (.row nn e xs) ∨ mget M k = some (.imm nn e xs)
def Also (I J : Nat → Prop) : Nat → Prop := fun b => I b ∨ J b
theorem Keep.also (J : Nat → Prop) : Keep w I σ w (Also I J) σ := ⟨fun _ _ => rfl, fun _ h => .inl h, fun _ _ h => h⟩
theorem Keep.more {J J' : Nat → Prop} (h : ∀ b, J b → J' b) : Keep w (Also I J) σ w (Also I J') σ := ⟨fun _ _ => rfl, fun _ h' => h'.imp id (h _), fun _ _ h => h⟩
/-- a mutable row that reads as a slice -/
theorem row_as_slice {e : List Sh} {xs : List (List D)} {p : Option Pl} {n : Nat} (hs : σ n = some p) (hr : (∃ q, p = some q ∧ RowR w I q e xs) ∨ (p = none ∧ xs = [] ∧ 0 < e.length)) {lo len : Nat} {v : Value} (hv : MsR (σ n) lo len v) (hl : lo + len ≤ xs.length)
    {J : Nat → Prop} (hI : ∀ b, I b → J b) (hJ : ∀ q, p = some q → J q.b) : Dat w J (.slice e) (.list ((xs.drop lo).take len)) v := by
  rw [hs] at hv
  rcases hr with ⟨q, rfl, cs, t, fz, hh, h1, h2, h3, h4, h5, h6, h7⟩ | ⟨rfl, rfl, h0⟩
  · obtain ⟨off, cap, rfl, g1, g2, g3, g4⟩ := hv
    simp only [Dat, D.toList]
    refine ⟨_, _, _, rfl, by simp; omega, g3, by omega, by simp, h4, fun i hi => ⟨q.b, off, rfl, hJ q rfl, ?_⟩⟩
    have g1 : off = q.o + lo * q.sz := by rcases g1 with g1 | g1 <;> omega
    have e1 : lk ((xs.drop lo).take len) i = lk xs (lo + i) := by
      simp only [lk, List.getD, List.getElem?_take, List.getElem?_drop]
      rw [if_pos hi]
    have := h7 (lo + i) (by omega)
    rw [e1, g1, ← h3]
    rw [Nat.add_mul, ← Nat.add_assoc] at this
    exact DatC.keep' (fun _ _ => rfl) hI e 0 _ _ _ rfl this
  · obtain ⟨rfl, e1, e2⟩ := hv
    simp only [Dat, D.toList]
    exact ⟨none, 0, 0, rfl, by simp, Nat.le_refl _, Nat.zero_le _, fun _ => rfl, h0, fun i hi => by omega⟩
theorem ok_row (hok : Ok w I σ M) {n : Nat} {nn : Bool} {e : List Sh} {xs : Unit → List (List D)} (h : mget M n = some (.row nn e xs) ∨ mget M n = some (.imm nn e xs)) :
    ∃ p, σ n = some p ∧ ((∃ q, p = some q ∧ RowR w I q e (xs ())) ∨ (p = none ∧ xs () = [] ∧ 0 < e.length)) := by
  rcases h with h | h <;> obtain ⟨p, hp, ho⟩ := hok.obj n _ h <;> refine ⟨p, hp, ?_⟩ <;> cases p with
  | none => exact .inr ⟨rfl, ho.2.1, ho.2.2⟩
  | some q => exact .inl ⟨q, rfl, ho.1⟩
theorem row_pin (hok : Ok w I σ M) {n : Nat} {nn : Bool} {e : List Sh} {xs : Unit → List (List D)} (h : mget M n = some (.row nn e xs)) {q : Pl} (hs : σ n = some (some q)) : nn = true → q.pin = none := by
  obtain ⟨p, hp, ho⟩ := hok.obj n _ h
  rw [hs] at hp
  cases hp
  exact ho.2
mutual
theorem ro_ok (hok : Ok w I σ M) : ∀ (v v' : AV) (l : List Nat) (vc : List (Unit → Prop)) (u : Value), ro M v = some (v', l, vc) → (∀ p ∈ vc, p ()) → VR w I σ v u → VR w (Also I (Lent σ l)) σ v' u ∧ LentOk M l
  | .ms n lo len, v', l, vc, u, h, hvc, hv => by
    unfold ro at h
    split at h <;> (try (cases h; done)) <;> rename_i hm <;> simp only [Option.some.injEq, Prod.mk.injEq] at h <;> obtain ⟨rfl, rfl, rfl⟩ := h
    · rename_i nn e xs
      refine ⟨?_, fun k hk => by simp only [List.mem_singleton] at hk; subst hk; exact ⟨_, _, _, .inl hm⟩⟩
      obtain ⟨p, hp, hr⟩ := ok_row hok (.inl hm)
      simp only [VR] at hv ⊢
      refine ⟨row_as_slice hp hr hv (hvc _ (List.mem_singleton.2 rfl)) (fun b h => .inl h) (fun q hq => .inr ⟨n, by simp, q, by rw [hp, hq], rfl⟩), by simp⟩
    · rename_i nn e xs
      refine ⟨?_, fun k hk => by simp only [List.mem_singleton] at hk; subst hk; exact ⟨_, _, _, .inr hm⟩⟩
      obtain ⟨p, hp, hr⟩ := ok_row hok (.inr hm)
      simp only [VR] at hv ⊢
      refine ⟨row_as_slice hp hr hv (hvc _ (List.mem_singleton.2 rfl)) (fun b h => .inl h) (fun q hq => .inr ⟨n, by simp, q, by rw [hp, hq], rfl⟩), by simp⟩
  | .agg cs, v', l, vc, u, h, hvc, hv => by
    unfold ro at h
    split at h <;> (try (cases h; done))
    rename_i cs' l' vc' h1
    simp only [Option.some.injEq, Prod.mk.injEq] at h
    obtain ⟨rfl, rfl, rfl⟩ := h
    simp only [VR] at hv ⊢
    obtain ⟨us, rfl, hv⟩ := hv
    obtain ⟨h2, h3⟩ := ros_ok hok cs cs' _ _ us.toList h1 hvc hv
    exact ⟨⟨us, rfl, h2⟩, h3⟩
  | .fn f cs, v', l, vc, u, h, hvc, hv => by
    unfold ro at h
    split at h <;> (try (cases h; done))
    rename_i cs' l' vc' h1
    simp only [Option.some.injEq, Prod.mk.injEq] at h
    obtain ⟨rfl, rfl, rfl⟩ := h
    simp only [VR] at hv ⊢
    obtain ⟨us, rfl, hv⟩ := hv
    obtain ⟨h2, h3⟩ := ros_ok hok cs cs' _ _ us.toList h1 hvc hv
    exact ⟨⟨us, rfl, h2⟩, h3⟩
  | .mp .., _, _, _, _, h, _, _ => by simp [ro] at h
  | .me .., _, _, _, _, h, _, _ => by simp [ro] at h
  | .ax .., _, _, _, _, h, _, _ => by simp [ro] at h
  | .un, _, _, _, _, h, _, _ => by simp [ro] at h
  | .udf, _, _, _, _, h, _, _ => by simp [ro] at h
  | .int k n, v', l, vc, u, h, _, hv => by
    simp only [ro, Option.some.injEq, Prod.mk.injEq] at h; obtain ⟨rfl, rfl, rfl⟩ := h; exact ⟨VR.keep (.also _) _ _ hv, fun _ h => by cases h⟩
  | .bool b, v', l, vc, u, h, _, hv => by
    simp only [ro, Option.some.injEq, Prod.mk.injEq] at h; obtain ⟨rfl, rfl, rfl⟩ := h; exact ⟨VR.keep (.also _) _ _ hv, fun _ h => by cases h⟩
  | .str s, v', l, vc, u, h, _, hv => by
    simp only [ro, Option.some.injEq, Prod.mk.injEq] at h; obtain ⟨rfl, rfl, rfl⟩ := h; exact ⟨VR.keep (.also _) _ _ hv, fun _ h => by cases h⟩
  | .nils, v', l, vc, u, h, _, hv => by
    simp only [ro, Option.some.injEq, Prod.mk.injEq] at h; obtain ⟨rfl, rfl, rfl⟩ := h; exact ⟨VR.keep (.also _) _ _ hv, fun _ h => by cases h⟩
  | .nilp, v', l, vc, u, h, _, hv => by
    simp only [ro, Option.some.injEq, Prod.mk.injEq] at h; obtain ⟨rfl, rfl, rfl⟩ := h; exact ⟨VR.keep (.also _) _ _ hv, fun _ h => by cases h⟩
  | .nilf, v', l, vc, u, h, _, hv => by
    simp only [ro, Option.some.injEq, Prod.mk.injEq] at h; obtain ⟨rfl, rfl, rfl⟩ := h; exact ⟨VR.keep (.also _) _ _ hv, fun _ h => by cases h⟩
  | .yl _, v', l, vc, u, h, _, hv => by
    simp only [ro, Option.some.injEq, Prod.mk.injEq] at h; obtain ⟨rfl, rfl, rfl⟩ := h; exact ⟨VR.keep (.also _) _ _ hv, fun _ h => by cases h⟩
  | .sl nn e xs, v', l, vc, u, h, _, hv => by
    simp only [ro, Option.some.injEq, Prod.mk.injEq] at h; obtain ⟨rfl, rfl, rfl⟩ := h; exact ⟨VR.keep (.also _) _ _ hv, fun _ h => by cases h⟩
  | .pt cs, v', l, vc, u, h, _, hv => by
    simp only [ro, Option.some.injEq, Prod.mk.injEq] at h; obtain ⟨rfl, rfl, rfl⟩ := h; exact ⟨VR.keep (.also _) _ _ hv, fun _ h => by cases h⟩
  | .tup cs, v', l, vc, u, h, _, hv => by
    simp only [ro, Option.some.injEq, Prod.mk.injEq] at h; obtain ⟨rfl, rfl, rfl⟩ := h; exact ⟨VR.keep (.also _) _ _ hv, fun _ h => by cases h⟩
theorem ros_ok (hok : Ok w I σ M) : ∀ (vs vs' : List AV) (l : List Nat) (vc : List (Unit → Prop)) (us : List Value), ros M vs = some (vs', l, vc) → (∀ p ∈ vc, p ()) → VRs w I σ vs us → VRs w (Also I (Lent σ l)) σ vs' us ∧ LentOk M l
  | [], vs', l, vc, us, h, _, hv => by
    simp only [ros, Option.some.injEq, Prod.mk.injEq] at h
    obtain ⟨rfl, rfl, rfl⟩ := h
    exact ⟨VRs.keep (.also _) _ _ hv, fun _ h => by cases h⟩
  | v :: vs, vs', l, vc, us, h, hvc, hv => by
    unfold ros at h
    split at h <;> (try (cases h; done))
    rename_i v1 r1 c1 vs1 r2 c2 h1 h2
    simp only [Option.some.injEq, Prod.mk.injEq] at h
    obtain ⟨rfl, rfl, rfl⟩ := h
    simp only [VRs] at hv
    obtain ⟨u, us', rfl, hu, hv⟩ := hv
    obtain ⟨g1, g2⟩ := ro_ok hok v v1 r1 c1 u h1 (fun p hp => hvc p (List.mem_append_left _ hp)) hu
    obtain ⟨g3, g4⟩ := ros_ok hok vs vs1 r2 c2 us' h2 (fun p hp => hvc p (List.mem_append_right _ hp)) hv
    refine ⟨?_, fun k hk => (List.mem_append.1 hk).elim (g2 k) (g4 k)⟩
    simp only [VRs]
    exact ⟨u, us', rfl, VR.keep (.more fun b ⟨k, hk, r⟩ => ⟨k, List.mem_append_left _ hk, r⟩) _ _ g1, VRs.keep (.more fun b ⟨k, hk, r⟩ => ⟨k, List.mem_append_right _ hk, r⟩) _ _ g3⟩
end
/-! ### freezing -/
theorem nmem_iff (l : List Nat) (n : Nat) : nmem l n = true ↔ n ∈ l := by
  induction l with
  | nil => simp [nmem]
  | cons k ks ih =>
    simp only [nmem]
    split
    · rename_i h; have := Nat.eq_of_beq_eq_true h; simp [this]
    · rename_i h; have := Nat.ne_of_beq_eq_false h; rw [ih]; simp only [List.mem_cons]; exact ⟨.inr, fun h => h.resolve_left fun e => this e.symm⟩
theorem mapply_append : ∀ (us vs : List (Nat × Option MObj)) (M : MS), mapply M (us ++ vs) = mapply (mapply M us) vs
  | [], _, _ => rfl
  | (k, some x) :: us, vs, M => by simp only [List.cons_append, mapply]; exact mapply_append us vs _
  | (k, none) :: us, vs, M => by simp only [List.cons_append, mapply]; exact mapply_append us vs _
theorem mget_freeze (M : MS) : ∀ (l : List Nat) (N : MS) (j : Nat), mget (mapply N (freeze M l)) j = if j ∈ l then (match mget M j with | some (.row nn e xs) => some (.imm nn e xs) | _ => mget N j) else mget N j
  | [], N, j => by simp [freeze, mapply]
  | k :: ks, N, j => by
    unfold freeze
    split
    · rename_i nn e xs hm
      simp only [mapply]
      rw [mget_freeze M ks]
      by_cases h1 : j ∈ ks
      · rw [if_pos h1, if_pos (List.mem_cons_of_mem _ h1)]
        split
        · rfl
        · rename_i hne
          rw [mget_mset, if_neg]
          rintro rfl
          exact hne _ _ _ hm
      · rw [if_neg h1, mget_mset]
        by_cases h2 : k = j
        · subst h2
          rw [if_pos rfl, if_pos List.mem_cons_self, hm]
        · rw [if_neg h2, if_neg]
          intro h3
          rcases List.mem_cons.1 h3 with h3 | h3
          · exact h2 h3.symm
          · exact h1 h3
    · rename_i hm
      rw [mget_freeze M ks]
      by_cases h1 : j ∈ ks
      · rw [if_pos h1, if_pos (List.mem_cons_of_mem _ h1)]
      · rw [if_neg h1]
        by_cases h2 : j = k
        · subst h2
          rw [if_pos List.mem_cons_self]
          split
          · rename_i h; exact (hm _ _ _ h).elim
          · rfl
        · rw [if_neg]
          intro h3
          rcases List.mem_cons.1 h3 with h3 | h3
          · exact h2 h3
          · exact h1 h3
theorem LentOk.foot {l : List Nat} (hl : LentOk M l) {k : Nat} (hk : k ∈ l) {x : MObj} (hm : mget M k = some x) {p : Pl} {b : Nat} (h : foot x p b) : p.b = b := by
  obtain ⟨nn, e, xs, h1 | h1⟩ := hl k hk <;> rw [hm] at h1 <;> cases h1 <;> exact h
theorem Ok.freeze (hok : Ok w I σ M) {l : List Nat} (hl : LentOk M l) : Ok w (Also I (Lent σ l)) σ (mapply M (Am.freeze M l)) ∧ Ext w I σ M w (Also I (Lent σ l)) σ (mapply M (Am.freeze M l)) ∧ ∀ b, Owned σ (mapply M (Am.freeze M l)) b → Owned σ M b := by
  have K : Keep w I σ w (Also I (Lent σ l)) σ := .also _
  have hown : ∀ b, Owned σ (mapply M (Am.freeze M l)) b → ∃ k x p, k ∉ l ∧ mget M k = some x ∧ owns x ∧ σ k = some (some p) ∧ foot x p b := by
    rintro b ⟨k, x, p, hk, hx, hp, hf⟩
    rw [mget_freeze] at hk
    split at hk
    · rename_i hkl
      split at hk
      · cases hk; exact hx.elim
      · rename_i hne
        obtain ⟨nn, e, xs, h | h⟩ := hl k hkl
        · exact (hne _ _ _ h).elim
        · rw [h] at hk; cases hk; exact hx.elim
    · rename_i hkl
      exact ⟨k, x, p, hkl, hk, hx, hp, hf⟩
  have hown' : ∀ b, Owned σ (mapply M (Am.freeze M l)) b → Owned σ M b := fun b hb => by
    obtain ⟨k, x, p, _, r⟩ := hown b hb
    exact ⟨k, x, p, r⟩
  have hlent : ∀ b, Lent σ l b → I b ∨ Owned σ M b := by
    rintro b ⟨k, hk, p, hp, rfl⟩
    obtain ⟨nn, e, xs, h | h⟩ := hl k hk
    · exact .inr ⟨k, _, p, h, trivial, hp, foot_b _ p⟩
    · obtain ⟨q, hq, ho⟩ := hok.obj k _ h
      rw [hp] at hq; cases hq
      exact .inl ho.2
  refine ⟨⟨fun b hb => ?_, fun k x hk => ?_, fun b hb hi => ?_, ?_⟩, ⟨rfl, rfl, rfl, Nat.le_refl _, fun _ _ _ => rfl, fun _ h => .inl h, fun b hb => ?_, fun b hb => .inl (hown' b hb), fun _ _ h => h⟩, hown'⟩
  · rcases hb with hb | hb
    · exact hok.lt b hb
    · rcases hlent b hb with h | h
      · exact hok.lt b h
      · exact hok.blk_lt h
  · rw [mget_freeze] at hk
    have gen : ∀ y, mget M k = some y → ∃ p, σ k = some p ∧ OR w (Also I (Lent σ l)) σ p y := fun y hy => by
      obtain ⟨p, hp, ho⟩ := hok.obj k y hy
      exact ⟨p, hp, OR.keep K (fun _ _ _ _ => rfl) ho⟩
    split at hk
    · rename_i hkl
      split at hk
      · rename_i nn e xs hm
        cases hk
        obtain ⟨p, hp, ho⟩ := gen _ hm
        refine ⟨p, hp, ?_⟩
        cases p with
        | none => exact ho
        | some q => exact ⟨ho.1, .inr ⟨k, hkl, q, hp, rfl⟩⟩
      · exact gen _ hk
    · exact gen _ hk
  · obtain ⟨k, x, p, hkl, hm, hx, hp, hf⟩ := hown b hb
    rcases hi with hi | ⟨k', hk', p', hp', e⟩
    · exact hok.sep _ ⟨k, x, p, hm, hx, hp, hf⟩ hi
    · subst e
      obtain ⟨nn, e2, xs, h | h⟩ := hl k' hk'
      · have := hok.inj k k' x _ p p' _ hm h hx trivial hp hp' hf (foot_b _ p')
        subst this
        exact hkl hk'
      · obtain ⟨q, hq, ho⟩ := hok.obj k' _ h
        rw [hp'] at hq; cases hq
        exact hok.sep _ ⟨k, x, p, hm, hx, hp, hf⟩ ho.2
  · intro k k' x x' p p' b h1 h2 o1 o2 s1 s2 e f
    have g : ∀ {j : Nat} {y : MObj}, mget (mapply M (Am.freeze M l)) j = some y → owns y → mget M j = some y := fun {j y} hj hy => by
      rw [mget_freeze] at hj
      split at hj
      · split at hj
        · cases hj; exact hy.elim
        · exact hj
      · exact hj
    exact hok.inj k k' x x' p p' b (g h1 o1) (g h2 o2) o1 o2 s1 s2 e f
  · rcases hb with hb | hb
    · exact .inl hb
    · rcases hlent b hb with h | h
      · exact .inl h
      · exact .inr (.inl h)
/-- two steps -/
theorem Ext.trans {w'' : World} {I' I'' : Nat → Prop} {σ' σ'' : Sig} {M' M'' : MS} (h : Ext w I σ M w' I' σ' M') (k : Ext w' I' σ' M' w'' I'' σ'' M'') : Ext w I σ M w'' I'' σ'' M'' := by
  refine ⟨k.os.trans h.os, k.tape.trans h.tape, k.output.trans h.output, Nat.le_trans h.size k.size, fun b hb hn => ?_, fun b hb => k.mono b (h.mono b hb), fun b hb => ?_, fun b hb => ?_, fun j p hj => k.sig j p (h.sig j p hj)⟩
  · rw [k.blk b (Nat.lt_of_lt_of_le hb h.size) (fun ho => ?_), h.blk b hb hn]
    rcases h.own b ho with h1 | h1
    · exact hn h1
    · omega
  · rcases k.fresh b hb with h1 | h1 | h1
    · exact h.fresh b h1
    · rcases h.own b h1 with h2 | h2
      · exact .inr (.inl h2)
      · exact .inr (.inr h2)
    · have := h.size; exact .inr (.inr (by omega))
  · rcases k.own b hb with h1 | h1
    · exact h.own b h1
    · have := h.size; exact .inr (by omega)
theorem Post.after {I' : Nat → Prop} {M' M'' : MS} (h : Ext w I σ M w I' σ M') {val : AV} {v : Value} (k : Post w I' σ M' key val M'' v w') : Post w I σ M key val M'' v w' := by
  obtain ⟨I2, σ2, h1, h2, h3, h4⟩ := k
  exact ⟨I2, σ2, h1, h2, h.trans h3, h4⟩
end
end Go.Am
/- One operation: rows: append, copy. -/
namespace Go.Am
set_option linter.all false
set_option linter.deprecated false
section
variable {P : Program} {o : Oper} {a : Act} {w w' : World} {I I' : Nat → Prop} {σ : Sig} {M : MS} {key : Nat} {env : List AV} {T : TT}

def DatL (w : World) (I : Nat → Prop) : List Sh → Nat → List D → List Value → Prop
  | [], _, _, cs => cs = []
  | s :: ss, j, ds, cs => ∃ u cs', cs = u :: cs' ∧ Dat w I s (lk ds j) u ∧ DatL w I ss (j + 1) ds cs'
theorem DatL.length : ∀ {e : List Sh} {j : Nat} {ds : List D} {cs : List Value}, DatL w I e j ds cs → cs.length = e.length
  | [], _, _, _, h => by simp only [DatL] at h; simp [h]
  | s :: ss, j, ds, cs, h => by
    simp only [DatL] at h
    obtain ⟨u, cs', rfl, _, h⟩ := h
    simp [DatL.length h]
theorem DatL.keep (h1 : ∀ b, I b → w'.heap[b]? = w.heap[b]?) (h2 : ∀ b, I b → I' b) : ∀ {e : List Sh} {j : Nat} {ds : List D} {cs : List Value}, DatL w I e j ds cs → DatL w' I' e j ds cs
  | [], _, _, _, h => h
  | s :: ss, j, ds, cs, h => by
    simp only [DatL] at h ⊢
    obtain ⟨u, cs', rfl, hd, h⟩ := h
    exact ⟨u, cs', rfl, Dat.keep h1 h2 s _ u hd, DatL.keep h1 h2 h⟩
theorem DatL.ones : ∀ {e : List Sh} {j : Nat} {ds : List D} {cs : List Value}, DatL w I e j ds cs → ∀ c ∈ cs, c.oneCell' = true
  | [], _, _, _, h => by simp only [DatL] at h; simp [h]
  | s :: ss, j, ds, cs, h => by
    simp only [DatL] at h
    obtain ⟨u, cs', rfl, hd, h⟩ := h
    intro c hc
    rcases List.mem_cons.1 hc with rfl | hc
    · cases s with
      | int k => simp only [Dat] at hd; rw [hd.1]; rfl
      | bool => simp only [Dat] at hd; rw [hd]; rfl
      | str => simp only [Dat] at hd; obtain ⟨_, rfl, _⟩ := hd; rfl
      | slice e => simp only [Dat] at hd; obtain ⟨_, _, _, rfl, _⟩ := hd; rfl
      | ptr e => simp [Dat] at hd
      | other => simp [Dat] at hd
    · exact DatL.ones h c hc
theorem DatC.toL {b : Nat} : ∀ (e : List Sh) (j : Nat) (ds : List D) (o : Nat), DatC w I e j ds b o → ∃ cs, DatL w I e j ds cs ∧ ∀ (i : Nat) (c : Value), cs[i]? = some c → w.cell? ⟨b, o + j + i, none⟩ = some c
  | [], _, _, _, _ => ⟨[], rfl, by simp⟩
  | s :: ss, j, ds, o, h => by
    simp only [DatC] at h
    obtain ⟨⟨u, hu, hd⟩, h⟩ := h
    obtain ⟨cs, h1, h2⟩ := DatC.toL ss (j + 1) ds o h
    refine ⟨u :: cs, ⟨u, cs, rfl, hd, h1⟩, fun i c hc => ?_⟩
    cases i with
    | zero => simp at hc; subst hc; exact hu
    | succ i =>
      have := h2 i c (by simpa using hc)
      rwa [show o + (j + 1) + i = o + j + (i + 1) by omega] at this
theorem DatL.toC {b : Nat} : ∀ (e : List Sh) (j : Nat) (ds : List D) (o : Nat) (cs : List Value), DatL w I e j ds cs → (∀ (i : Nat) (c : Value), cs[i]? = some c → w.cell? ⟨b, o + j + i, none⟩ = some c) → DatC w I e j ds b o
  | [], _, _, _, _, _, _ => trivial
  | s :: ss, j, ds, o, cs, h, hc => by
    simp only [DatL] at h
    obtain ⟨u, cs', rfl, hd, h⟩ := h
    simp only [DatC]
    refine ⟨⟨u, by simpa using hc 0 u rfl, hd⟩, DatL.toC ss (j + 1) ds o cs' h fun i c hi => ?_⟩
    have := hc (i + 1) c (by simpa using hi)
    rwa [show o + j + (i + 1) = o + (j + 1) + i by omega] at this
/-- the cells of a row's elements -/
def RowL (w : World) (I : Nat → Prop) (e : List Sh) (xs : List (List D)) (cs : List Value) : Prop :=
  cs.length = xs.length * e.length ∧ ∀ i, i < xs.length → DatL w I e 0 (lk xs i) ((cs.drop (i * e.length)).take e.length)
theorem RowL.keep {e : List Sh} {xs : List (List D)} {cs : List Value} (h1 : ∀ b, I b → w'.heap[b]? = w.heap[b]?) (h2 : ∀ b, I b → I' b) (h : RowL w I e xs cs) : RowL w' I' e xs cs :=
  ⟨h.1, fun i hi => DatL.keep h1 h2 (h.2 i hi)⟩
theorem RowL.nil (e : List Sh) : RowL w I e [] [] := ⟨by simp, by simp⟩
theorem RowL.snoc {e : List Sh} {xs : List (List D)} {cs : List Value} {ds : List D} {us : List Value} (h : RowL w I e xs cs) (hd : DatL w I e 0 ds us) : RowL w I e (xs ++ [ds]) (cs ++ us) := by
  have hl := hd.length
  refine ⟨by simp [h.1, hl, Nat.add_mul], fun i hi => ?_⟩
  simp only [List.length_append, List.length_singleton] at hi
  by_cases h1 : i < xs.length
  · have e1 : lk (xs ++ [ds]) i = lk xs i := by simp only [lk, List.getD]; rw [List.getElem?_append_left h1]
    have hle : i * e.length + e.length ≤ cs.length := by
      rw [h.1, ← Nat.succ_mul]
      exact Nat.mul_le_mul_right _ h1
    rw [e1, List.drop_append_of_le_length (by omega), List.take_append_of_le_length (by simp; omega)]
    exact h.2 i h1
  · obtain rfl : i = xs.length := by omega
    have e1 : lk (xs ++ [ds]) xs.length = ds := by simp [lk, List.getD]
    rw [e1, ← h.1, List.drop_left, List.take_of_length_le (by omega)]
    exact hd
theorem RowL.append {e : List Sh} {xs : List (List D)} {cs : List Value} : ∀ {ys : List (List D)} {ds : List Value}, RowL w I e xs cs → RowL w I e ys ds → RowL w I e (xs ++ ys) (cs ++ ds) := by
  intro ys ds h h'
  refine ⟨by simp [h.1, h'.1, Nat.add_mul], fun i hi => ?_⟩
  simp only [List.length_append] at hi
  by_cases h1 : i < xs.length
  · have e1 : lk (xs ++ ys) i = lk xs i := by simp only [lk, List.getD]; rw [List.getElem?_append_left h1]
    have hle : i * e.length + e.length ≤ cs.length := by
      rw [h.1, ← Nat.succ_mul]
      exact Nat.mul_le_mul_right _ h1
    rw [e1, List.drop_append_of_le_length (by omega), List.take_append_of_le_length (by simp; omega)]
    exact h.2 i h1
  · have e1 : lk (xs ++ ys) i = lk ys (i - xs.length) := by simp only [lk, List.getD]; rw [List.getElem?_append_right (by omega)]
    have e2 : i * e.length = cs.length + (i - xs.length) * e.length := by
      rw [h.1, ← Nat.add_mul]
      congr 1
      omega
    rw [e1, e2, List.drop_append]
    rw [show cs.length + (i - xs.length) * e.length - cs.length = (i - xs.length) * e.length by omega]
    rw [List.drop_of_length_le (show cs.length ≤ cs.length + (i - xs.length) * e.length by omega), List.nil_append]
    exact h'.2 _ (by omega)
theorem RowL.take {e : List Sh} {xs : List (List D)} {cs : List Value} (n : Nat) (hn : n ≤ xs.length) (h : RowL w I e xs cs) : RowL w I e (xs.take n) (cs.take (n * e.length)) := by
  have hle : n * e.length ≤ xs.length * e.length := Nat.mul_le_mul_right _ hn
  refine ⟨by rw [List.length_take, List.length_take, h.1, Nat.min_eq_left hle, Nat.min_eq_left hn], fun i hi => ?_⟩
  simp only [List.length_take] at hi
  have e1 : lk (xs.take n) i = lk xs i := by simp only [lk, List.getD]; rw [List.getElem?_take, if_pos (by omega)]
  have h2 : i * e.length + e.length ≤ n * e.length := by
    rw [← Nat.succ_mul]
    exact Nat.mul_le_mul_right _ (by omega)
  rw [e1, List.drop_take, List.take_take, Nat.min_eq_left (by omega)]
  exact h.2 i (by omega)
theorem RowL.drop {e : List Sh} {xs : List (List D)} {cs : List Value} (n : Nat) (hn : n ≤ xs.length) (h : RowL w I e xs cs) : RowL w I e (xs.drop n) (cs.drop (n * e.length)) := by
  refine ⟨by rw [List.length_drop, List.length_drop, h.1, ← Nat.sub_mul], fun i hi => ?_⟩
  simp only [List.length_drop] at hi
  have e1 : lk (xs.drop n) i = lk xs (n + i) := by simp only [lk, List.getD]; rw [List.getElem?_drop]
  rw [e1, List.drop_drop, ← Nat.add_mul]
  exact h.2 (n + i) (by omega)
theorem RowL.ones {e : List Sh} (h0 : 0 < e.length) {xs : List (List D)} {cs : List Value} (h : RowL w I e xs cs) : ∀ c ∈ cs, c.oneCell' = true := by
  intro c hc
  obtain ⟨j, hj, rfl⟩ := List.mem_iff_getElem.1 hc
  have hq : j / e.length < xs.length := by
    rw [Nat.div_lt_iff_lt_mul h0, ← h.1]
    exact hj
  refine (h.2 _ hq).ones _ ?_
  refine List.mem_iff_getElem?.2 ⟨j % e.length, ?_⟩
  rw [List.getElem?_take, if_pos (Nat.mod_lt _ h0), List.getElem?_drop]
  rw [Nat.div_add_mod' j e.length]
  exact List.getElem?_eq_getElem hj
/-- a block whose first cells are these -/
theorem RowL.row {e : List Sh} {xs : List (List D)} {cs : List Value} {b o : Nat} (h : RowL w I e xs cs) (hc : ∀ (j : Nat) (c : Value), cs[j]? = some c → w.cell? ⟨b, o + j, none⟩ = some c) : ∀ i, i < xs.length → DatC w I e 0 (lk xs i) b (o + i * e.length) := by
  intro i hi
  refine DatL.toC e 0 _ _ _ (h.2 i hi) fun k c hk => ?_
  rw [List.getElem?_take] at hk
  split at hk
  · rw [List.getElem?_drop] at hk
    have := hc _ c hk
    rwa [← Nat.add_assoc] at this
  · cases hk
/-- the cells of elements that lie one behind the other -/
theorem snocInd {α : Type} {p : List α → Prop} (h0 : p []) (h1 : ∀ xs x, p xs → p (xs ++ [x])) : ∀ (n : Nat) (xs : List α), xs.length = n → p xs
  | 0, xs, h => by rw [List.eq_nil_of_length_eq_zero h]; exact h0
  | n + 1, xs, h => by
    have hne : xs ≠ [] := by rintro rfl; simp at h
    rw [← List.dropLast_concat_getLast hne]
    exact h1 _ _ (snocInd h0 h1 n _ (by simp [h]))
theorem RowL.of {e : List Sh} {b off : Nat} : ∀ (xs : List (List D)), (∀ i, i < xs.length → DatC w I e 0 (lk xs i) b (off + i * e.length)) → ∃ cs, RowL w I e xs cs ∧ ∀ (j : Nat) (c : Value), cs[j]? = some c → w.cell? ⟨b, off + j, none⟩ = some c := by
  intro xs
  refine snocInd (p := fun xs => (∀ i, i < xs.length → DatC w I e 0 (lk xs i) b (off + i * e.length)) → ∃ cs, RowL w I e xs cs ∧ ∀ (j : Nat) (c : Value), cs[j]? = some c → w.cell? ⟨b, off + j, none⟩ = some c) ?_ ?_ _ xs rfl
  · exact fun _ => ⟨[], .nil e, by simp⟩
  · intro xs x ih h
    obtain ⟨cs, h1, h2⟩ := ih fun i hi => by
      have := h i (by simp; omega)
      have e1 : lk (xs ++ [x]) i = lk xs i := by simp only [lk, List.getD]; rw [List.getElem?_append_left hi]
      rwa [e1] at this
    have h3 := h xs.length (by simp)
    have e1 : lk (xs ++ [x]) xs.length = x := by simp [lk, List.getD]
    rw [e1] at h3
    obtain ⟨us, h4, h5⟩ := DatC.toL e 0 x _ h3
    refine ⟨cs ++ us, h1.snoc h4, fun j c hj => ?_⟩
    by_cases hlt : j < cs.length
    · rw [List.getElem?_append_left hlt] at hj
      exact h2 j c hj
    · rw [List.getElem?_append_right (by omega)] at hj
      have := h5 _ c hj
      rw [← h1.1] at this
      rwa [show off + cs.length + 0 + (j - cs.length) = off + j by omega] at this
theorem elems_ok (hok : Ok w I σ M) {x : AV} {e : List Sh} {xs : Unit → List (List D)} {r : List Nat} {vc : List (Unit → Prop)} {u : Value} (h : elems M x = some (e, xs, r, vc)) (hvc : ∀ p ∈ vc, p ()) (hx : VR w I σ x u) :
    ∃ ad len cap cs, u = .slice ad len cap ∧ len = (xs ()).length ∧ len ≤ maxLen ∧ 0 < e.length ∧ RowL w I e (xs ()) cs ∧ (len = 0 ∨ ∃ b off, ad = some ⟨b, off, none⟩ ∧ ∀ (j : Nat) (c : Value), cs[j]? = some c → w.cell? ⟨b, off + j, none⟩ = some c) := by
  unfold elems at h
  split at h <;> (try (cases h; done))
  · rename_i nn e' xs'
    simp only [Option.some.injEq, Prod.mk.injEq] at h
    obtain ⟨rfl, rfl, rfl, rfl⟩ := h
    simp only [VR] at hx
    have hx := hx.1
    simp only [Dat, D.toList] at hx
    obtain ⟨ad, len, cap, rfl, h1, h2, h3, h4, h5, h6⟩ := hx
    by_cases hl : len = 0
    · have e1 : xs' () = [] := List.eq_nil_of_length_eq_zero (by omega)
      exact ⟨ad, len, cap, [], rfl, h1, by omega, h5, by rw [e1]; exact .nil _, .inl hl⟩
    · obtain ⟨b, off, rfl, hb, hd⟩ := h6 0 (by omega)
      obtain ⟨cs, g1, g2⟩ := RowL.of (w := w) (I := I) (e := e') (b := b) (off := off) (xs' ()) fun i hi => by
        obtain ⟨b', off', e1, hb', hd'⟩ := h6 i (by omega)
        simp only [Option.some.injEq, Addr.mk.injEq, and_true] at e1
        obtain ⟨rfl, rfl⟩ := e1
        exact hd'
      exact ⟨_, len, cap, cs, rfl, h1, by omega, h5, g1, .inr ⟨b, off, rfl, g2⟩⟩
  · rename_i n lo len
    have key : ∀ (nn : Bool) (e' : List Sh) (xs' : Unit → List (List D)), (mget M n = some (.row nn e' xs') ∨ mget M n = some (.imm nn e' xs')) → lo () + len () ≤ (xs' ()).length →
        ∃ ad ln cap cs, u = .slice ad ln cap ∧ ln = (((xs' ()).drop (lo ())).take (len ())).length ∧ ln ≤ maxLen ∧ 0 < e'.length ∧ RowL w I e' (((xs' ()).drop (lo ())).take (len ())) cs ∧ (ln = 0 ∨ ∃ b off, ad = some ⟨b, off, none⟩ ∧ ∀ (j : Nat) (c : Value), cs[j]? = some c → w.cell? ⟨b, off + j, none⟩ = some c) := by
      intro nn e' xs' hm hl
      obtain ⟨p, hp, hr⟩ := ok_row hok hm
      simp only [VR] at hx
      rw [hp] at hx
      have hlen : (((xs' ()).drop (lo ())).take (len ())).length = len () := by rw [List.length_take, List.length_drop]; omega
      rcases hr with ⟨q, rfl, cs0, t, fz, hh, r1, r2, r3, r4, r5, r6, r7⟩ | ⟨rfl, e1, h0⟩
      · obtain ⟨off, cap, rfl, g1, g2, g3, g4⟩ := hx
        by_cases hl0 : len () = 0
        · refine ⟨_, _, _, [], rfl, hlen.symm, by omega, r4, ?_, .inl hl0⟩
          rw [hl0]
          exact .nil _
        · have g1 : off = q.o + lo () * q.sz := by rcases g1 with g1 | g1 <;> omega
          obtain ⟨cs, k1, k2⟩ := RowL.of (w := w) (I := I) (e := e') (b := q.b) (off := off) (((xs' ()).drop (lo ())).take (len ())) fun i hi => by
            rw [hlen] at hi
            have e1 : lk (((xs' ()).drop (lo ())).take (len ())) i = lk (xs' ()) (lo () + i) := by
              simp only [lk, List.getD, List.getElem?_take, List.getElem?_drop]
              rw [if_pos hi]
            have := r7 (lo () + i) (by omega)
            rw [e1, g1, ← r3, Nat.add_assoc, ← Nat.add_mul]
            exact this
          exact ⟨_, _, _, cs, rfl, hlen.symm, by omega, r4, k1, .inr ⟨q.b, off, rfl, k2⟩⟩
      · obtain ⟨rfl, e2, e3⟩ := hx
        refine ⟨none, 0, 0, [], rfl, by rw [hlen, e3], Nat.zero_le _, h0, ?_, .inl rfl⟩
        rw [e1]
        simpa using RowL.nil e'
    split at h <;> (try (cases h; done)) <;> rename_i nn e' xs' hm <;> simp only [Option.some.injEq, Prod.mk.injEq] at h <;> obtain ⟨rfl, rfl, rfl, rfl⟩ := h
    · exact key nn _ xs' (.inl hm) (hvc _ (List.mem_singleton.2 rfl))
    · exact key nn _ xs' (.inr hm) (hvc _ (List.mem_singleton.2 rfl))
end
end Go.Am
/- One operation: append. -/
namespace Go.Am
set_option linter.all false
set_option linter.deprecated false
section
variable {P : Program} {o : Oper} {a : Act} {w w' : World} {I I' : Nat → Prop} {σ : Sig} {M : MS} {key : Nat} {env : List AV} {T : TT}

theorem mset_mset (M : MS) (k : Nat) (x y : MObj) : mset (mset M k x) k y = mset M k y := by
  induction M with
  | nil => simp [mset, Nat.beq_refl]
  | cons p M ih =>
    obtain ⟨k', z⟩ := p
    simp only [mset]
    split
    · rename_i h; simp only [mset, h]
    · rename_i h; simp only [mset, h, ih]
theorem Post.after' {σ1 : Sig} {I1 : Nat → Prop} {M1 M2 : MS} (h : Ext w I σ M w I1 σ1 M1) (hs : ∀ k, σ1 k = σ k ∨ (key ≤ k ∧ k < key + 8)) {val : AV} {v : Value} (k : Post w I1 σ1 M1 key val M2 v w') : Post w I σ M key val M2 v w' := by
  obtain ⟨I2, σ2, h1, h2, h3, h4⟩ := k
  refine ⟨I2, σ2, h1, h2, h.trans h3, fun k => ?_⟩
  rcases h4 k with h5 | h5
  · rw [h5]; exact hs k
  · exact .inr h5
/-- fewer objects -/
theorem Ok.sub (hok : Ok w I σ M) {N : MS} (h : ∀ k x, mget N k = some x → mget M k = some x) : Ok w I σ N :=
  ⟨hok.lt, fun k x hk => hok.obj k x (h k x hk), fun b ⟨k, x, p, hk, r⟩ => hok.sep b ⟨k, x, p, h k x hk, r⟩, fun k k' x x' p p' b h1 h2 => hok.inj k k' x x' p p' b (h k x h1) (h k' x' h2)⟩
theorem Owned.sub {N : MS} (h : ∀ k x, mget N k = some x → mget M k = some x) {b : Nat} (hb : Owned σ N b) : Owned σ M b :=
  let ⟨k, x, p, hk, r⟩ := hb; ⟨k, x, p, h k x hk, r⟩
theorem Post.sub {N : MS} (h : ∀ k x, mget N k = some x → mget M k = some x) {val : AV} {v : Value} {M' : MS} (k : Post w I σ N key val M' v w') : Post w I σ M key val M' v w' := by
  obtain ⟨I2, σ2, h1, h2, h3, h4⟩ := k
  exact ⟨I2, σ2, h1, h2, ⟨h3.os, h3.tape, h3.output, h3.size, fun b hb hn => h3.blk b hb fun ho => hn (ho.sub h), h3.mono, fun b hb => (h3.fresh b hb).imp id fun r => r.imp (·.sub h) id, fun b hb => (h3.own b hb).imp (·.sub h) id, h3.sig⟩, h4⟩
theorem mdel_sub (M : MS) (n : Nat) : ∀ k x, mget (mdel M n) k = some x → mget M k = some x := by
  intro k x h
  rw [mget_mdel] at h
  split at h
  · cases h
  · exact h
/-- an object under another key -/
theorem Ok.rename (hok : Ok w I σ M) {n : Nat} {x : MObj} {q : Option Pl} (hx : mget M n = some x) (hq : σ n = some q) (hfree : σ key = none) :
    Ok w I (σ.upd key q) (mset (mdel M n) key x) ∧ Ext w I σ M w I (σ.upd key q) (mset (mdel M n) key x) := by
  have hne : n ≠ key := by rintro rfl; rw [hfree] at hq; cases hq
  have hsig : ∀ k p, σ k = some p → σ.upd key q k = some p := fun k p h => by
    rw [Sig.upd_other _ _ (by rintro rfl; rw [hfree] at h; cases h)]; exact h
  have K : Keep w I σ w I (σ.upd key q) := ⟨fun _ _ => rfl, fun _ h => h, hsig⟩
  have back : ∀ k y, mget (mset (mdel M n) key x) k = some y → ∃ k', mget M k' = some y ∧ σ.upd key q k = σ k' ∧ ((k = key ∧ k' = n) ∨ (k ≠ key ∧ k' = k ∧ k ≠ n)) := by
    intro k y hk
    rw [mget_mset] at hk
    split at hk
    · rename_i e; subst e
      cases hk
      exact ⟨n, hx, by rw [Sig.upd_same, hq], .inl ⟨rfl, rfl⟩⟩
    · rename_i e
      rw [mget_mdel] at hk
      split at hk
      · cases hk
      · rename_i e2
        exact ⟨k, hk, Sig.upd_other _ _ (fun h => e h.symm), .inr ⟨fun h => e h.symm, rfl, fun h => e2 h.symm⟩⟩
  have hown : ∀ b, Owned (σ.upd key q) (mset (mdel M n) key x) b → Owned σ M b := by
    rintro b ⟨k, y, p, hk, hy, hs, hf⟩
    obtain ⟨k', h1, h2, _⟩ := back k y hk
    exact ⟨k', y, p, h1, hy, h2 ▸ hs, hf⟩
  refine ⟨⟨hok.lt, fun k y hk => ?_, fun b hb => hok.sep b (hown b hb), ?_⟩, ⟨rfl, rfl, rfl, Nat.le_refl _, fun _ _ _ => rfl, fun _ h => h, fun _ h => .inl h, fun b hb => .inl (hown b hb), hsig⟩⟩
  · obtain ⟨k', h1, h2, _⟩ := back k y hk
    obtain ⟨p, hp, ho⟩ := hok.obj k' y h1
    exact ⟨p, h2.trans hp, OR.keep K (fun _ _ _ _ => rfl) ho⟩
  · intro k k' y y' p p' b h1 h2 o1 o2 s1 s2 e f
    obtain ⟨j, a1, a2, a3⟩ := back k y h1
    obtain ⟨j', b1, b2, b3⟩ := back k' y' h2
    have := hok.inj j j' y y' p p' b a1 b1 o1 o2 (a2 ▸ s1) (b2 ▸ s2) e f
    subst this
    rcases a3 with ⟨e1, e2⟩ | ⟨_, e2, e3⟩ <;> rcases b3 with ⟨f1, f2⟩ | ⟨_, f2, f3⟩ <;> omega
theorem Post.nilrow (hok : Ok w I σ M) (hfree : σ key = none) {e : List Sh} {xs : Unit → List (List D)} (hx : xs () = []) (h0 : 0 < e.length) {val : AV} {v : Value} (hv : VR w I (σ.upd key none) val v) :
    Post w I σ M key val (mset M key (.row false e xs)) v w := by
  have hun := hok.unset hfree
  have hsig : ∀ k p, σ k = some p → σ.upd key none k = some p := fun k p h => by
    rw [Sig.upd_other _ _ (by rintro rfl; rw [hfree] at h; cases h)]; exact h
  have K : Keep w I σ w I (σ.upd key none) := ⟨fun _ _ => rfl, fun _ h => h, hsig⟩
  have back : ∀ k y p, mget (mset M key (.row false e xs)) k = some y → σ.upd key none k = some (some p) → mget M k = some y ∧ σ k = some (some p) := by
    intro k y p hk hs
    rw [mget_mset] at hk
    split at hk
    · rename_i e; subst e
      rw [Sig.upd_same] at hs; cases hs
    · rename_i e
      exact ⟨hk, by rwa [Sig.upd_other _ _ (fun h => e h.symm)] at hs⟩
  have hown : ∀ b, Owned (σ.upd key none) (mset M key (.row false e xs)) b → Owned σ M b := by
    rintro b ⟨k, y, p, hk, hy, hs, hf⟩
    obtain ⟨h1, h2⟩ := back k y p hk hs
    exact ⟨k, y, p, h1, hy, h2, hf⟩
  refine ⟨I, σ.upd key none, hv, ⟨hok.lt, fun k y hk => ?_, fun b hb => hok.sep b (hown b hb), fun k k' y y' p p' b h1 h2 o1 o2 s1 s2 e f => ?_⟩,
    ⟨rfl, rfl, rfl, Nat.le_refl _, fun _ _ _ => rfl, fun _ h => h, fun _ h => .inl h, fun b hb => .inl (hown b hb), hsig⟩, fun k => ?_⟩
  · rw [mget_mset] at hk
    split at hk
    · rename_i e; subst e
      cases hk
      exact ⟨none, Sig.upd_same _ _ _, rfl, hx, h0⟩
    · obtain ⟨p, hp, ho⟩ := hok.obj k y hk
      exact ⟨p, hsig k p hp, OR.keep K (fun _ _ _ _ => rfl) ho⟩
  · obtain ⟨a1, a2⟩ := back k y p h1 s1
    obtain ⟨b1, b2⟩ := back k' y' p' h2 s2
    exact hok.inj k k' y y' p p' b a1 b1 o1 o2 a2 b2 e f
  · by_cases h : k = key
    · exact .inr (by omega)
    · exact .inl (Sig.upd_other _ _ h)
/-- a block of a new row -/
theorem row_new {cs0 : Array Value} {t : TypeId} {fz : Nat × Nat} (hm : More w w' (.cells cs0 t fz)) (hI : ∀ b, I b → b < w.heap.size) {e : List Sh} (h0 : 0 < e.length) {xs : List (List D)} {cs : List Value} {cap : Nat} (hr : RowL w I e xs cs) (hsz : cs0.size = cap * e.length) (hpre : ∀ (j : Nat) (c : Value), cs[j]? = some c → cs0[j]? = some c)
    (hl : xs.length ≤ cap) (hcap : cap ≤ maxLen) (hf : unfrozen cs0 fz) {nn : Bool} : RowR w' I (.one w.heap.size cap e.length) e xs ∧ (nn = true → (Pl.one w.heap.size cap e.length).pin = none) := by
  refine ⟨⟨cs0, t, fz, hm.new, ⟨hf.unfz (by simp [hsz]), .none rfl hf⟩, by simp [hsz], rfl, h0, hl, hcap, ?_⟩, fun _ => rfl⟩
  exact RowL.row (hr.keep (fun b hb => hm.old (hI b hb)) fun _ h => h) fun j c hc => by
    rw [cell_of_row w' w.heap.size (0 + j) cs0 t fz hm.new, Nat.zero_add]
    exact hpre j c hc
theorem append_ok (hok : Ok w I σ M) (hfree : σ key = none) (hT : ∀ t i, T t = some i → TIok P t i) {t : Nat} {ti : TI} (ht : tget T t = some ti) {el esz eb : Nat} {esh : List Sh} (htd : ti.td = .slice el esz eb esh) (ty : TypeId) {s x : AV} {e : Eff} (h : appendAv M key esh eb s x = some e)
    (hvc : ∀ p ∈ e.vc, p ()) {u v : Value} (hs : VR w I σ s u) (hx : VR w I σ x v) :
    ∃ r w', (Builtin.append_ #[t, t] ty #[u, v]).run P w = .ok r w' ∧ Post w I σ M key e.val (mapply M e.upd) r w' := by
  obtain ⟨d, hu, hd, _⟩ := under_of hT ht
  rw [htd] at hd
  obtain ⟨rfl, hesh, hes0, inf, z, hinf, hisz, hib, hiz, hzs⟩ := sz_of_slice hd
  unfold appendAv at h
  split at h <;> (try (cases h; done))
  · -- nil onto nil
    simp only [Eff.pure, Option.some.injEq] at h
    subst h
    simp only [VR] at hs hx
    subst hs hx
    refine ⟨.slice none 0 0, w, ?_, .same hok (by simp only [VR])⟩
    simp [Builtin.append_, run_under hu, run_sizeOf_of hinf, Builtin.lenOf, Builtin.firstCells]
  · rename_i x' s' s0 ss heb hnn
    have heb := Nat.le_of_ble_eq_true heb
    split at h <;> (try (cases h; done))
    rename_i e2 ys r2 v2 hel
    split at h <;> (try (cases h; done))
    · -- onto nil
      rename_i hsh
      have hsh := shEqs_ok hsh
      subst hsh
      simp only [Option.some.injEq] at h
      subst h
      have hbig : (ys ()).length ≤ big := hvc (fun _ => (ys ()).length ≤ big) List.mem_cons_self
      obtain ⟨ad, len, cap, cs, rfl, g1, g2, g3, g4, g5⟩ := elems_ok hok hel (fun p hp => hvc p (List.mem_cons_of_mem _ hp)) hx
      simp only [VR] at hs
      subst hs
      simp only [mapply]
      by_cases h0 : len = 0
      · refine ⟨.slice none 0 0, w, ?_, .nilrow hok hfree (List.eq_nil_of_length_eq_zero (by omega)) g3 ?_⟩
        · subst h0
          have hf : (Builtin.firstCells inf.size 0 (.slice ad 0 cap)).run P w = .ok #[] w := by
            cases ad with
            | none => exact run_firstCells_none w _ _ _ _
            | some b => exact run_firstCells_some w inf.size 0 b 0 cap [] (by simp) (by simp)
          simp [Builtin.append_, run_under hu, run_sizeOf_of hinf, Builtin.lenOf, hf]
        · simp only [VR, Sig.upd_same, MsR, true_and]; omega
      · rcases g5 with g5 | ⟨b, off, rfl, g5⟩
        · omega
        · have hb2 : len * inf.bytes ≤ 140737488355328 := by
            rw [hib]
            calc len * eb ≤ 1099511627776 * 128 := Nat.mul_le_mul (by unfold big at hbig; omega) heb
              _ ≤ _ := by decide
          have hrun := run_append_nil (P := P) w t ty el inf z hu hinf hiz ⟨b, off, none⟩ len cap cs (by rw [g4.1, hisz, hesh, g1]) (fun j c hc => by rw [Addr.add_lit]; exact g5 j c hc) (by omega) (by unfold maxLen at g2; omega) (by omega)
          refine ⟨_, _, hrun, ?_⟩
          have hge := grownCap_ge w len 0 el
          have hmore : More w (w.drew.alloc (.cells (cs.toArray ++ Builtin.zeroCells z.cells (grownCap w len 0 el - len)) el)) (.cells (cs.toArray ++ Builtin.zeroCells z.cells (grownCap w len 0 el - len)) el) := ⟨rfl, rfl, rfl, rfl⟩
          refine Post.alloc hok hfree hmore (cap := grownCap w len 0 el) (sz := (s0 :: ss).length) trivial ?_ ?_
          · refine row_new hmore hok.lt g3 g4 ?_ (fun j c hc => ?_) (by omega) (grownCap_le_maxLen w len 0 el g2) (by simp [unfrozen])
            · rw [Array.size_append, size_zeroCells, List.size_toArray, g4.1, hzs, hesh, ← g1, ← Nat.add_mul]
              congr 1; omega
            · rw [Array.getElem?_append_left (by simpa using (List.getElem?_eq_some_iff.1 hc).1)]
              simpa using hc
          · simp only [VR, Sig.upd_same, MsR, g1]
            exact ⟨0, _, rfl, .inr (by simp), by simp, by rw [← g1]; exact hge, by rw [← g1]; exact grownCap_le_maxLen w len 0 el g2⟩
    · -- onto a row of the call's own
      rename_i n lo len hsh
      have hsh := shEqs_ok hsh
      subst hsh
      split at h <;> (try (cases h; done))
      rename_i nn e xs hm hnm
      split at h <;> (try (cases h; done))
      rename_i hsh2
      have hsh2 := shEqs_ok hsh2
      subst hsh2
      simp only [Option.some.injEq] at h
      subst h
      have hlo : lo () = 0 := hvc (fun _ => lo () = 0) List.mem_cons_self
      have hlen : len () ≤ (xs ()).length := hvc (fun _ => len () ≤ (xs ()).length) (List.mem_cons_of_mem _ List.mem_cons_self)
      have hbig : len () + (ys ()).length ≤ big := hvc (fun _ => len () + (ys ()).length ≤ big) (List.mem_cons_of_mem _ (List.mem_cons_of_mem _ List.mem_cons_self))
      obtain ⟨ad, m, c, cs, rfl, g1, g2, g3, g4, g5⟩ := elems_ok hok hel (fun p hp => hvc p (List.mem_cons_of_mem _ (List.mem_cons_of_mem _ (List.mem_cons_of_mem _ hp)))) hx
      obtain ⟨q, hq, hr⟩ := ok_row hok (.inl hm)
      have hb2 : (len () + m) * inf.bytes ≤ 140737488355328 := by
        rw [hib]
        calc (len () + m) * eb ≤ 1099511627776 * 128 := Nat.mul_le_mul (by unfold big at hbig; omega) heb
          _ ≤ _ := by decide
      have hml : len () + m ≤ maxLen := by unfold big at hbig; unfold maxLen; omega
      simp only [mapply]
      have hfirst0 : m = 0 → ∀ w : World, (Builtin.firstCells inf.size m (.slice ad m c)).run P w = .ok #[] w := fun h0 w => by
        subst h0
        cases ad with
        | none => exact run_firstCells_none w _ _ _ _
        | some b => exact run_firstCells_some w inf.size 0 b 0 c [] (by simp) (by simp)
      simp only [VR] at hs
      rw [hq] at hs
      rcases hr with ⟨p, rfl, cs0, ct, fz, hh, r1, r2, r3, r4, r5, r6, r7⟩ | ⟨rfl, e1, _⟩
      · obtain ⟨off, cap, rfl, k1, k2, k3, k4⟩ := hs
        obtain ⟨olds, o1, o2⟩ := RowL.of (w := w) (I := I) (e := s0 :: ss) (b := p.b) (off := p.o) (xs ()) fun i hi => by rw [← r3]; exact r7 i hi
        have o3 := o1.take (len ()) hlen
        have o4 : ((olds.take (len () * (s0 :: ss).length)) ++ cs).length = (len () + m) * (s0 :: ss).length := by
          rw [List.length_append, o3.1, g4.1, List.length_take, Nat.min_eq_left hlen, ← g1, Nat.add_mul]
        have o5 : RowL w I (s0 :: ss) ((xs ()).take (len ()) ++ ys ()) (olds.take (len () * (s0 :: ss).length) ++ cs) := o3.append g4
        have o6 : olds.length = (xs ()).length * (s0 :: ss).length := o1.1
        by_cases hroom : len () + m ≤ cap
        · -- there is room
          obtain ⟨hren, hext⟩ := Ok.rename hok hm hq hfree
          have hoff : m = 0 ∨ off = p.o := by
            rcases k1 with k1 | k1
            · left; omega
            · right; rw [k1, hlo, Nat.zero_mul, Nat.add_zero]
          have hones := g4.ones (by simp)
          have hfit : (p.o ≤ off + len () * inf.size + 0 ∧ off + len () * inf.size + 0 + cs.length ≤ p.o + p.cap * p.sz) ∨ m = 0 := by
            rcases hoff with h0 | h0
            · exact .inr h0
            · left
              have hcc : (len () + m) * p.sz ≤ p.cap * p.sz := Nat.mul_le_mul_right _ (by omega)
              rw [Nat.add_mul] at hcc
              rw [h0, g4.1, ← g1, hisz, ← hesh, ← r3]
              omega
          obtain ⟨w', cs', st1, st2, st3, st4⟩ : ∃ w' cs', (storeCells ((⟨p.b, off, none⟩ : Addr).add (len () * inf.size)) cs).run P w = .ok () w' ∧ Turned w w' p.b ∧ w'.heap[p.b]? = some (.cells cs' ct fz) ∧ Splice cs0 (off + len () * inf.size) cs cs' := by
            rw [Addr.add_lit]
            rcases hfit with hfit | h0
            · have := run_storeCells_splice (P := P) p.b (off + len () * inf.size) cs 0 w cs0 ct fz hh (r1.1.mono (by omega) (by omega)) (by omega) hones
              simpa using this
            · have : cs = [] := List.eq_nil_of_length_eq_zero (by rw [g4.1, ← g1, h0]; simp)
              subst this
              exact ⟨w, cs0, rfl, .refl w _, hh, rfl, fun j => by rw [if_neg (by simp)]⟩
          refine ⟨.slice (some ⟨p.b, off, none⟩) (len () + m) cap, w', ?_, ?_⟩
          · have hf : (Builtin.firstCells inf.size m (.slice ad m c)).run P w = .ok cs.toArray w := by
              rcases g5 with g5 | ⟨b, of, rfl, g5⟩
              · rw [hfirst0 g5 w]
                have : cs = [] := List.eq_nil_of_length_eq_zero (by rw [g4.1, ← g1, g5]; simp)
                rw [this]
              · exact run_firstCells_some w inf.size m ⟨b, of, none⟩ m c cs (by rw [g4.1, ← g1, hisz, hesh]) (fun j c hc => by rw [Addr.add_lit]; exact g5 j c hc)
            simp only [Builtin.append_, List.getElem?_toArray, List.getElem?_cons_zero, List.getElem?_cons_succ, Sem.run_bind, run_under hu, Result.andThen_ok, run_sizeOf_of hinf, Sem.run_pure, Builtin.lenOf, Bool.false_eq_true, if_false, Bool.not_false, if_true, hf, if_pos hroom, st1]
          · have ht1 : mget (mset (mdel M n) key (.row nn (s0 :: ss) xs)) key = some (.row nn (s0 :: ss) xs) := by rw [mget_mset, if_pos rfl]
            have := Post.turned (key := key) hren ht1 trivial (Sig.upd_same σ key (some p)) st2 (val := .ms key (fun _ => 0) (fun _ => len () + (ys ()).length)) (v := .slice (some ⟨p.b, off, none⟩) (len () + m) cap) (y := .row nn (s0 :: ss) (fun _ => (xs ()).take (len ()) ++ ys ())) trivial ?_ ?_
            · rw [mset_mset] at this
              exact this.after' hext fun k => by
                by_cases h : k = key
                · exact .inr (by omega)
                · exact .inl (Sig.upd_other _ _ h)
            · refine ⟨⟨cs', ct, fz, st3, ⟨r1.1, r1.2.splice st4 (hfit.symm.imp (fun h0 => List.eq_nil_of_length_eq_zero (by rw [g4.1, ← g1, h0]; simp)) fun h => by simpa using h)⟩, by rw [st4.1, r2], r3, r4, by rw [List.length_append, List.length_take, Nat.min_eq_left hlen]; omega, r6, ?_⟩, row_pin hok hm hq⟩
              have hIo : ∀ b, I b → w'.heap[b]? = w.heap[b]? := fun b hb => st2.other b (by rintro rfl; exact hok.sep _ ⟨n, _, p, hm, trivial, hq, foot_b _ p⟩ hb)
              rw [r3]
              refine (o5.keep hIo fun _ h => h).row fun j c hc => ?_
              rw [cell_of_row w' p.b (p.o + j) cs' ct fz st3, st4.2 (p.o + j)]
              have hlt := (List.getElem?_eq_some_iff.1 hc).1
              rw [o4] at hlt
              have hl1 : (olds.take (len () * (s0 :: ss).length)).length = len () * (s0 :: ss).length := by rw [o3.1, List.length_take, Nat.min_eq_left hlen]
              rw [hisz, ← hesh]
              by_cases hj : j < len () * (s0 :: ss).length
              · rw [List.getElem?_append_left (by omega), List.getElem?_take, if_pos hj] at hc
                have hold := o2 j c hc
                rw [cell_of_row w p.b (p.o + j) cs0 ct fz hh] at hold
                rcases hoff with h0 | h0
                · have : cs = [] := List.eq_nil_of_length_eq_zero (by rw [g4.1, ← g1, h0]; simp)
                  subst this
                  rw [if_neg (by simp)]
                  exact hold
                · rw [if_neg (by omega)]
                  exact hold
              · rw [List.getElem?_append_right (by omega), hl1] at hc
                have hlc := (List.getElem?_eq_some_iff.1 hc).1
                rcases hoff with h0 | h0
                · exfalso
                  rw [g4.1, ← g1, h0] at hlc
                  simp at hlc
                · rw [h0, if_pos (by omega), show p.o + j - (p.o + len () * (s0 :: ss).length) = j - len () * (s0 :: ss).length by omega]
                  exact hc
            · simp only [VR, Sig.upd_same, MsR]
              refine ⟨off, cap, by rw [← g1], ?_, by omega, by omega, k4⟩
              rcases k1 with k1 | k1
              · exact .inl k1
              · right; rw [k1, hlo]
        · -- it grows
          have hcells : ∀ (j : Nat) (v : Value), (olds.take (len () * (s0 :: ss).length))[j]? = some v → w.cell? ((⟨p.b, off, none⟩ : Addr).add j) = some v := fun j v hv => by
            rw [List.getElem?_take] at hv
            split at hv
            · rename_i hj
              have hl0 : len () ≠ 0 := by rintro h0; rw [h0] at hj; simp at hj
              have hoff : off = p.o := by
                rcases k1 with k1 | k1
                · omega
                · rw [k1, hlo, Nat.zero_mul, Nat.add_zero]
              rw [Addr.add_lit, hoff]
              exact o2 j v hv
            · cases hv
          have hm0 : m ≠ 0 := by rintro rfl; omega
          rcases g5 with g5 | ⟨b, of, rfl, g5⟩
          · exact (hm0 g5).elim
          have hrun := run_append_grow (P := P) w t ty el inf z hu hinf hiz ⟨p.b, off, none⟩ (len ()) cap (olds.take (len () * (s0 :: ss).length)) (by rw [o3.1, List.length_take, Nat.min_eq_left hlen, hisz, hesh]) hcells
            ⟨b, of, none⟩ m c cs (by rw [g4.1, hisz, hesh, g1]) (fun j c hc => by rw [Addr.add_lit]; exact g5 j c hc) (by omega) (by unfold maxLen at hml; omega) (growslice_fits (by omega) hb2)
          refine ⟨_, _, hrun, Post.sub (mdel_sub M n) ?_⟩
          have hge := grownCap_ge w (len () + m) cap el
          have hmore : ∀ x, More w (w.drew.alloc x) x := fun x => ⟨rfl, rfl, rfl, rfl⟩
          refine Post.alloc (hok.sub (mdel_sub M n)) hfree (hmore _) (cap := grownCap w (len () + m) cap el) (sz := (s0 :: ss).length) trivial ?_ ?_
          · refine row_new (hmore _) hok.lt g3 o5 ?_ (fun j c hc => ?_) (by rw [List.length_append, List.length_take, Nat.min_eq_left hlen, ← g1]; exact hge) (grownCap_le_maxLen w _ _ el hml) (by simp [unfrozen])
            · rw [Array.size_append, Array.size_append, size_zeroCells, List.size_toArray, List.size_toArray, ← List.length_append, o4, hzs, hesh, ← Nat.add_mul]
              congr 1; omega
            · rw [Array.getElem?_append_left (by rw [Array.size_append, List.size_toArray, List.size_toArray, ← List.length_append]; exact (List.getElem?_eq_some_iff.1 hc).1)]
              simpa using hc
          · simp only [VR, Sig.upd_same, MsR]
            exact ⟨0, _, by rw [← g1], .inr (by simp), by simp, by rw [← g1]; exact hge, grownCap_le_maxLen w _ _ el hml⟩
      · -- a nil row
        obtain ⟨rfl, _, e3⟩ := hs
        have hl0 : len () = 0 := e3
        by_cases h0 : m = 0
        · refine ⟨.slice none 0 0, w, ?_, Post.sub (mdel_sub M n) ?_⟩
          · have hf := hfirst0 h0 w
            subst h0
            simp [Builtin.append_, run_under hu, run_sizeOf_of hinf, Builtin.lenOf, hf]
          · obtain ⟨nn', rfl⟩ : ∃ x, x = nn := ⟨_, rfl⟩
            obtain ⟨p, hp, ho⟩ := hok.obj n _ hm
            rw [hq] at hp
            cases hp
            have hnn : nn' = false := ho.1
            subst hnn
            refine Post.nilrow (hok.sub (mdel_sub M n)) hfree ?_ g3 ?_
            · show (xs ()).take (len ()) ++ ys () = []
              rw [hl0, List.take_zero, List.nil_append]
              exact List.eq_nil_of_length_eq_zero (by omega)
            · simp only [VR, Sig.upd_same, MsR, true_and]; omega
        · rcases g5 with g5 | ⟨b, off, rfl, g5⟩
          · omega
          · have hrun := run_append_nil (P := P) w t ty el inf z hu hinf hiz ⟨b, off, none⟩ m c cs (by rw [g4.1, hisz, hesh, g1]) (fun j c hc => by rw [Addr.add_lit]; exact g5 j c hc) (by omega) (by unfold maxLen at g2; omega) (by rw [hl0, Nat.zero_add] at hb2; omega)
            refine ⟨_, _, hrun, Post.sub (mdel_sub M n) ?_⟩
            have hge := grownCap_ge w m 0 el
            have hmore : ∀ x, More w (w.drew.alloc x) x := fun x => ⟨rfl, rfl, rfl, rfl⟩
            have e4 : (xs ()).take (len ()) ++ ys () = ys () := by rw [hl0, List.take_zero, List.nil_append]
            refine Post.alloc (hok.sub (mdel_sub M n)) hfree (hmore _) (cap := grownCap w m 0 el) (sz := (s0 :: ss).length) trivial ?_ ?_
            · refine row_new (hmore _) hok.lt g3 (by rw [e4]; exact g4) ?_ (fun j c hc => ?_) (by show ((xs ()).take (len ()) ++ ys ()).length ≤ _; rw [e4]; omega) (grownCap_le_maxLen w m 0 el g2) (by simp [unfrozen])
              · rw [Array.size_append, size_zeroCells, List.size_toArray, g4.1, hzs, hesh, ← g1, ← Nat.add_mul]
                congr 1; omega
              · rw [Array.getElem?_append_left (by simpa using (List.getElem?_eq_some_iff.1 hc).1)]
                simpa using hc
            · simp only [VR, Sig.upd_same, MsR, g1, hl0, Nat.zero_add]
              exact ⟨0, _, rfl, .inr (by simp), by simp, by rw [← g1]; exact hge, by rw [← g1]; exact grownCap_le_maxLen w m 0 el g2⟩
end
end Go.Am
