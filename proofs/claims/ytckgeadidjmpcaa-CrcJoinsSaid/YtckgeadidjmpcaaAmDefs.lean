/- The abstract machine: symbolic values, mutable objects, and what an operation does to them. -/
import Derived.WalkKit
namespace Go.Am
set_option linter.all false
set_option linter.deprecated false

inductive Sh where
  | int (k : IntKind) | bool | str | slice (e : List Sh) | ptr (e : List Sh) | other
inductive D where
  | un | int (n : Int) | bool (b : Bool) | str (s : List UInt8) | list (xs : List (List D)) | ptr (cs : List D)
instance : Inhabited D := ⟨.un⟩
def D.toInt : D → Int | .int n => n | _ => 0
def D.toBool : D → Bool | .bool b => b | _ => false
def D.toStr : D → List UInt8 | .str s => s | _ => []
def D.toList : D → List (List D) | .list xs => xs | _ => []
def D.toCells : D → List D | .ptr cs => cs | _ => []
def lk {α : Type} [Inhabited α] (xs : List α) (i : Nat) : α := xs.getD i default

/-- symbolic values -/
inductive AV where
  | un | udf
  | int (k : IntKind) (n : Unit → Int)
  | bool (b : Unit → Bool)
  | str (s : Unit → List UInt8)
  | nils | nilp | nilf
  | sl (nn : Bool) (e : List Sh) (xs : Unit → List (List D))
  | pt (cs : List AV)
  | ms (n : Nat) (lo len : Unit → Nat)
  | mp (n off : Nat)
  | me (n : Nat) (i : Unit → Nat) (off : Nat)
  | ax (n off cnt : Nat) (i : Unit → Nat)
  | agg (cs : List AV) | tup (vs : List AV)
  | fn (f : Nat) (caps : List AV)
inductive MObj where
  | row (nn : Bool) (e : List Sh) (xs : Unit → List (List D))
  | imm (nn : Bool) (e : List Sh) (xs : Unit → List (List D))
  | obj (cs : List AV)
abbrev MS := List (Nat × MObj)

/-! types -/
inductive TD where
  | int (k : IntKind) | bool | str | slice (elem : Nat) (esz ebytes : Nat) (esh : List Sh) | ptr (elem : Nat)
  | struct (fs : List (Nat × Nat × Nat)) (cmp : Bool) | array (n elem esz : Nat) | func | other
structure TI where
  size : Nat
  agg : Bool
  zero : List AV
  td : TD
abbrev TL := List (Nat × TI)
def tget' : TL → Nat → Option TI
  | [], _ => none
  | (k, i) :: T, t => match Nat.beq k t with | true => some i | false => tget' T t
abbrev TT := Nat → Option TI
def tget (T : TT) (t : Nat) : Option TI := T t

def lget : List AV → Nat → AV
  | [], _ => .un
  | v :: _, 0 => v
  | _ :: vs, n + 1 => lget vs n
def lset : List AV → Nat → AV → List AV
  | [], _, _ => []
  | _ :: vs, 0, v => v :: vs
  | u :: vs, n + 1, v => u :: lset vs n v
def ldrop : List AV → Nat → List AV
  | vs, 0 => vs
  | [], _ + 1 => []
  | _ :: vs, n + 1 => ldrop vs n
def ltake : List AV → Nat → List AV
  | _, 0 => []
  | [], _ + 1 => []
  | v :: vs, n + 1 => v :: ltake vs n
def lapp : List AV → List AV → List AV
  | [], ys => ys
  | x :: xs, ys => x :: lapp xs ys
def llen : List AV → Nat
  | [] => 0
  | _ :: vs => llen vs + 1
def mget : MS → Nat → Option MObj
  | [], _ => none
  | (k, o) :: M, n => match Nat.beq k n with | true => some o | false => mget M n
def mset : MS → Nat → MObj → MS
  | [], n, o => [(n, o)]
  | (k, p) :: M, n, o => match Nat.beq k n with | true => (k, o) :: M | false => (k, p) :: mset M n o
def mdel : MS → Nat → MS
  | [], _ => []
  | (k, p) :: M, n => match Nat.beq k n with | true => mdel M n | false => (k, p) :: mdel M n

/-- what is proved of a datum: cells behind a shape -/
def av : Sh → (Unit → D) → AV
  | .int k, d => .int k (fun _ => (d ()).toInt)
  | .bool, d => .bool (fun _ => (d ()).toBool)
  | .str, d => .str (fun _ => (d ()).toStr)
  | .slice e, d => .sl false e (fun _ => (d ()).toList)
  | _, _ => .un
def avs (e : List Sh) (ds : Unit → List D) : List AV := go e 0
where go : List Sh → Nat → List AV
  | [], _ => []
  | s :: ss, j => av s (fun _ => lk (ds ()) j) :: go ss (j + 1)
def wfB (k : IntKind) (n : Int) : Bool := decide (k.min ≤ n) && decide (n ≤ k.max)
/-- constants -/
def cv : Value → AV
  | .int k n => match wfB k n with | true => .int k (fun _ => n) | false => .un
  | .bool b => .bool (fun _ => b)
  | .string s => match Nat.ble s.size 1099511627776 with | true => .str (fun _ => s.data.toList) | false => .un
  | .slice none 0 0 => .nils
  | .pointer none => .nilp
  | .nilFunc => .nilf
  | _ => .un
def opv (env : List AV) : Operand → AV
  | .tmp t => lget env t
  | .const v => cv v
  | .func f => .fn f []
  | .global _ => .un
def opvs (env : List AV) : List Operand → List AV
  | [] => []
  | x :: xs => opv env x :: opvs env xs

structure Eff where
  vc : List (Unit → Prop)
  val : AV
  rd : List Nat
  upd : List (Nat × Option MObj)
def Eff.pure (v : AV) : Option Eff := some ⟨[], v, [], []⟩
def Eff.chk (p : Unit → Prop) (v : AV) : Option Eff := some ⟨[p], v, [], []⟩
def mapply : MS → List (Nat × Option MObj) → MS
  | M, [] => M
  | M, (k, some o) :: us => mapply (mset M k o) us
  | M, (k, none) :: us => mapply (mdel M k) us

mutual
def shEq : Sh → Sh → Bool
  | .int k, .int k' => decide (k = k')
  | .bool, .bool => true
  | .str, .str => true
  | .slice e, .slice e' => shEqs e e'
  | .ptr e, .ptr e' => shEqs e e'
  | .other, .other => true
  | _, _ => false
def shEqs : List Sh → List Sh → Bool
  | [], [] => true
  | s :: ss, t :: ts => match shEq s t with | true => shEqs ss ts | false => false
  | _, _ => false
end
/-- a value that may be laid into a row's cell of a shape -/
def enc : Sh → AV → Option (Unit → D)
  | .int k, .int k' n => match decide (k = k') with | true => some (fun _ => .int (n ())) | false => none
  | .bool, .bool b => some (fun _ => .bool (b ()))
  | .str, .str s => some (fun _ => .str (s ()))
  | .slice (_ :: _), .nils => some (fun _ => .list [])
  | .slice e, .sl _ e' xs => match shEqs e' e with | true => some (fun _ => .list (xs ())) | false => none
  | _, _ => none
def encs : List Sh → List AV → Option (List (Unit → D))
  | [], [] => some []
  | s :: ss, v :: vs => match enc s v, encs ss vs with | some d, some ds => some (d :: ds) | _, _ => none
  | _, _ => none
def dall (ds : List (Unit → D)) : List D := ds.map (fun d => d ())
/-- the cells that a value takes up -/
def cellsOf : AV → List AV
  | .agg cs => cs
  | v => [v]

/-! scalar operations -/
def ibits (op : BinOp) (k : IntKind) (x y : Int) : Int :=
  let a := BitVec.ofInt k.bits x
  let b := BitVec.ofInt k.bits y
  match op with
  | .and => k.wrap (a &&& b).toNat
  | .or => k.wrap (a ||| b).toNat
  | .xor => k.wrap (a ^^^ b).toNat
  | .andNot => k.wrap (a &&& ~~~b).toNat
  | _ => 0
def ishl (k : IntKind) (x y : Int) : Int := k.wrap (x * 2 ^ (min y.toNat k.bits))
def ishr (k : IntKind) (x y : Int) : Int := x.fdiv (2 ^ (min y.toNat k.bits))
def binInt (op : BinOp) (k : IntKind) (a : Unit → Int) (k' : IntKind) (b : Unit → Int) : Option Eff :=
  match op with
  | .shl => Eff.chk (fun _ => 0 ≤ b ()) (.int k fun _ => ishl k (a ()) (b ()))
  | .shr => Eff.chk (fun _ => 0 ≤ b ()) (.int k fun _ => ishr k (a ()) (b ()))
  | _ => match decide (k = k') with
    | false => none
    | true => match op with
      | .add => Eff.pure (.int k fun _ => k.wrap (a () + b ()))
      | .sub => Eff.pure (.int k fun _ => k.wrap (a () - b ()))
      | .mul => Eff.pure (.int k fun _ => k.wrap (a () * b ()))
      | .quo => Eff.chk (fun _ => b () ≠ 0) (.int k fun _ => k.wrap ((a ()).tdiv (b ())))
      | .rem => Eff.chk (fun _ => b () ≠ 0) (.int k fun _ => (a ()).tmod (b ()))
      | .and => Eff.pure (.int k fun _ => ibits .and k (a ()) (b ()))
      | .or => Eff.pure (.int k fun _ => ibits .or k (a ()) (b ()))
      | .xor => Eff.pure (.int k fun _ => ibits .xor k (a ()) (b ()))
      | .andNot => Eff.pure (.int k fun _ => ibits .andNot k (a ()) (b ()))
      | .eql => Eff.pure (.bool fun _ => a () == b ())
      | .neq => Eff.pure (.bool fun _ => a () != b ())
      | .lss => Eff.pure (.bool fun _ => decide (a () < b ()))
      | .leq => Eff.pure (.bool fun _ => decide (a () ≤ b ()))
      | .gtr => Eff.pure (.bool fun _ => decide (b () < a ()))
      | .geq => Eff.pure (.bool fun _ => decide (b () ≤ a ()))
      | _ => none
def isNil : AV → Option Bool
  | .nils | .nilp | .nilf => some true
  | .sl true _ _ | .pt _ | .mp .. | .me .. | .fn .. => some false
  | _ => none
/-- a slice, a pointer, a function held against nil -/
def nilCmp : TD → AV → AV → Option Bool
  | .slice .., .nils, .nils => some true
  | .slice .., .sl true _ _, .nils => some false
  | .ptr _, .nilp, .nilp => some true
  | .ptr _, .pt _, .nilp => some false
  | .ptr _, .mp .., .nilp => some false
  | .func, .nilf, .nilf => some true
  | .func, .fn .., .nilf => some false
  | _, _, _ => none
def loadAv (ti : TI) (cs : List AV) : AV := match ti.agg with | true => .agg (ltake cs ti.size) | false => lget cs 0
mutual
/-- '==' between two values of a type -/
def eqAv (T : TT) : Nat → Nat → AV → AV → Option (Unit → Bool)
  | 0, _, _, _ => none
  | d + 1, t, x, y => match tget T t with
    | none => none
    | some ti => match ti.td, x, y with
      | .bool, .bool a, .bool b => some (fun _ => a () == b ())
      | .int _, .int k a, .int k' b => match decide (k = k') with | true => some (fun _ => a () == b ()) | false => none
      | .str, .str a, .str b => some (fun _ => a () == b ())
      | .struct fs true, .agg xs, .agg ys => eqFs T d fs xs ys
      | td, x, y => match nilCmp td x y with
        | some b => some (fun _ => b)
        | none => none
def eqFs (T : TT) : Nat → List (Nat × Nat × Nat) → List AV → List AV → Option (Unit → Bool)
  | _, [], _, _ => some (fun _ => true)
  | d, (off, ft, sz) :: fs, xs, ys => match tget T ft with
    | none => none
    | some fi => match Nat.ble (off + sz) (llen xs), Nat.ble (off + sz) (llen ys), Nat.ble 1 sz, eqAv T d ft (loadAv fi (ldrop xs off)) (loadAv fi (ldrop ys off)), eqFs T d fs xs ys with
      | true, true, true, some a, some b => some (fun _ => a () && b ())
      | _, _, _, _, _ => none
end
def binAv (T : TT) (t : Nat) (op : BinOp) (x y : AV) : Option Eff :=
  match x, y with
  | .int k a, .int k' b => binInt op k a k' b
  | .str a, .str b => match op with
    | .eql => Eff.pure (.bool fun _ => a () == b ())
    | .neq => Eff.pure (.bool fun _ => a () != b ())
    | .add => Eff.chk (fun _ => (a ()).length + (b ()).length ≤ 1099511627776) (.str fun _ => a () ++ b ())
    | .lss => Eff.pure (.bool fun _ => Op.bytesLess (a ()) (b ()))
    | .leq => Eff.pure (.bool fun _ => Op.bytesLess (a ()) (b ()) || a () == b ())
    | .gtr => Eff.pure (.bool fun _ => !(Op.bytesLess (a ()) (b ()) || a () == b ()))
    | .geq => Eff.pure (.bool fun _ => !(Op.bytesLess (a ()) (b ())))
    | _ => none
  | x, y => match op, eqAv T 40 t x y with
    | .eql, some b => Eff.pure (.bool b)
    | .neq, some b => Eff.pure (.bool fun _ => !(b ()))
    | _, _ => none
def unAv (op : UnOp) (x : AV) : Option Eff :=
  match op, x with
  | .not, .bool b => Eff.pure (.bool fun _ => !(b ()))
  | .neg, .int k n => Eff.pure (.int k fun _ => k.wrap (0 - n ()))
  | .xor, .int k n => Eff.pure (.int k fun _ => ibits .xor k (if k.signed then -1 else k.max) (n ()))
  | _, _ => none

def big : Nat := 1099511627776
/-! memory -/
/-- cells that are integers of one kind -/
def ints : List AV → Option (IntKind × List (Unit → Int))
  | [] => none
  | [.int k f] => some (k, [f])
  | .int k f :: vs => match ints vs with
    | some (k', fs) => match decide (k = k') with | true => some (k, f :: fs) | false => none
    | none => none
  | _ => none
def load1 (M : MS) (ti : TI) : AV → Option Eff
  | .pt cs => match Nat.ble ti.size (llen cs), Nat.ble 1 ti.size with | true, true => Eff.pure (loadAv ti cs) | _, _ => none
  | .mp n off => match mget M n with
    | some (.obj cs) => match Nat.ble (off + ti.size) (llen cs), Nat.ble 1 ti.size with
      | true, true => some ⟨[], loadAv ti (ldrop cs off), [n], []⟩ | _, _ => none
    | _ => none
  | .me n i off => match mget M n with
    | some (.row _ e xs) | some (.imm _ e xs) => match Nat.ble (off + ti.size) e.length, Nat.ble 1 ti.size with
      | true, true => some ⟨[fun _ => i () < (xs ()).length], loadAv ti (ldrop (avs e (fun _ => lk (xs ()) (i ()))) off), [n], []⟩ | _, _ => none
    | _ => none
  | .ax n off cnt i => match mget M n, Nat.beq ti.size 1, ti.agg with
    | some (.obj cs), true, false => match Nat.ble (off + cnt) (llen cs), ints (ltake (ldrop cs off) cnt) with
      | true, some (k, fs) => some ⟨[fun _ => i () < cnt], .int k (fun _ => lk (fs.map fun f => f ()) (i ())), [n], []⟩
      | _, _ => none
    | _, _, _ => none
  | _ => none
def lput : List AV → Nat → List AV → List AV
  | cs, _, [] => cs
  | cs, off, v :: vs => lput (lset cs off v) (off + 1) vs
def setCells (ds : List D) (off : Nat) : List D → List D
  | [] => ds
  | d :: rest => setCells (ds.set off d) (off + 1) rest
def plain1 : AV → Bool
  | .agg _ | .tup _ | .un | .udf => false
  | _ => true
def plains : List AV → Bool
  | [] => true
  | v :: vs => match plain1 v with | true => plains vs | false => false
def eshAt : List Sh → Nat → Nat → List Sh
  | _, _, 0 => []
  | [], _, _ => []
  | s :: ss, 0, n + 1 => s :: eshAt ss 0 n
  | _ :: ss, o + 1, n => eshAt ss o n
def nmem : List Nat → Nat → Bool
  | [], _ => false
  | k :: ks, n => match Nat.beq k n with | true => true | false => nmem ks n
mutual
def ro (M : MS) : AV → Option (AV × List Nat × List (Unit → Prop))
  | .ms n lo len => match mget M n with
    | some (.row _ e xs) | some (.imm _ e xs) => some (.sl false e (fun _ => ((xs ()).drop (lo ())).take (len ())), [n], [fun _ => lo () + len () ≤ (xs ()).length])
    | _ => none
  | .agg cs => match ros M cs with | some (cs, r, v) => some (.agg cs, r, v) | none => none
  | .fn f cs => match ros M cs with | some (cs, r, v) => some (.fn f cs, r, v) | none => none
  | .mp .. | .me .. | .ax .. | .un | .udf => none
  | v => some (v, [], [])
def ros (M : MS) : List AV → Option (List AV × List Nat × List (Unit → Prop))
  | [] => some ([], [], [])
  | v :: vs => match ro M v, ros M vs with
    | some (v, r, c), some (vs, r', c') => some (v :: vs, r ++ r', c ++ c')
    | _, _ => none
end
/-- rows that were lent to a call whose answer may hold on to them are frozen -/
def freeze (M : MS) : List Nat → List (Nat × Option MObj)
  | [] => []
  | k :: ks => match mget M k with
    | some (.row nn e xs) => (k, some (.imm nn e xs)) :: freeze M ks
    | _ => freeze M ks
def store1 (M : MS) (ti : TI) (x : AV) : AV → Option Eff
  | .mp n off => match mget M n with
    | some (.obj cs) => match Nat.ble (off + ti.size) (llen cs), Nat.beq (llen (cellsOf x)) ti.size, plains (cellsOf x) with
      | true, true, true => some ⟨[], .un, [n], [(n, some (.obj (lput cs off (cellsOf x))))]⟩ | _, _, _ => none
    | _ => none
  | .me n i off => match mget M n with
    | some (.row nn e xs) => match ros M (cellsOf x) with
      | none => none
      | some (cs, lent, vc) => match Nat.beq (llen (cellsOf x)) ti.size, Nat.beq ((eshAt e off ti.size).length) ti.size, encs (eshAt e off ti.size) cs, nmem lent n with
        | true, true, some ds, false => match Nat.beq off 0, Nat.beq ti.size e.length, Nat.ble 1 ti.size with
          | true, true, true => some ⟨(fun _ => i () < (xs ()).length) :: vc, .un, n :: lent,
            freeze M lent ++ [(n, some (.row nn e (fun _ => (xs ()).set (i ()) (dall ds))))]⟩
          | _, _, true => some ⟨(fun _ => i () < (xs ()).length) :: (fun _ => (lk (xs ()) (i ())).length = e.length) :: vc, .un, n :: lent,
            freeze M lent ++ [(n, some (.row nn e (fun _ => (xs ()).set (i ()) (setCells (lk (xs ()) (i ())) off (dall ds)))))]⟩
          | _, _, _ => none
        | _, _, _, _ => none
    | _ => none
  | _ => none
/-- the elements of a slice -/
def elems (M : MS) : AV → Option (List Sh × (Unit → List (List D)) × List Nat × List (Unit → Prop))
  | .sl _ e xs => some (e, xs, [], [])
  | .ms n lo len => match mget M n with
    | some (.row _ e xs) | some (.imm _ e xs) => some (e, (fun _ => ((xs ()).drop (lo ())).take (len ())), [n], [fun _ => lo () + len () ≤ (xs ()).length])
    | _ => none
  | _ => none
def lenAv : TD → AV → Option Eff
  | .slice .., .sl _ _ xs => Eff.pure (.int .i64 fun _ => ((xs ()).length : Int))
  | .slice .., .ms _ _ len => Eff.pure (.int .i64 fun _ => (len () : Int))
  | .str, .str s => Eff.pure (.int .i64 fun _ => ((s ()).length : Int))
  | .slice .., .nils => Eff.pure (.int .i64 fun _ => 0)
  | _, _ => none
def appendAv (M : MS) (key : Nat) (esh : List Sh) (eb : Nat) (s x : AV) : Option Eff :=
  match Nat.ble eb 128, esh, x, s with
  | true, _ :: _, .nils, .nils => Eff.pure .nils
  | true, _ :: _, x, s => match elems M x with
    | none => none
    | some (e2, ys, r2, v2) => match shEqs e2 esh, s with
      | true, .nils => some ⟨(fun _ => (ys ()).length ≤ big) :: v2, .ms key (fun _ => 0) (fun _ => (ys ()).length), r2, [(key, some (.row false esh ys))]⟩
      | true, .ms n lo len => match mget M n, nmem r2 n with
        | some (.row nn e xs), false => match shEqs e esh with
          | true => some ⟨(fun _ => lo () = 0) :: (fun _ => len () ≤ (xs ()).length) :: (fun _ => len () + (ys ()).length ≤ big) :: v2,
              .ms key (fun _ => 0) (fun _ => len () + (ys ()).length), n :: r2, [(n, none), (key, some (.row nn e (fun _ => (xs ()).take (len ()) ++ ys ())))]⟩
          | false => none
        | _, _ => none
      | _, _ => none
  | _, _, _, _ => none
/-- so many zeros put behind -/
def appendZ (M : MS) (key : Nat) (esh : List Sh) (eb : Nat) (ds : List (Unit → D)) (s : AV) (n : Unit → Int) : Option Eff :=
  match Nat.ble eb 128, s with
  | true, .ms k lo len => match mget M k with
    | some (.row nn e xs) => match shEqs e esh with
      | true => some ⟨[fun _ => lo () = 0, fun _ => len () ≤ (xs ()).length, fun _ => 0 ≤ n () ∧ (len () : Int) + n () ≤ big],
          .ms key (fun _ => 0) (fun _ => len () + (n ()).toNat), [k], [(k, none), (key, some (.row nn e (fun _ => (xs ()).take (len ()) ++ List.replicate (n ()).toNat (dall ds))))]⟩
      | false => none
    | _ => none
  | _, _ => none
def bnd (dflt : Unit → Int) : Option AV → Option (Unit → Int)
  | none => some dflt
  | some (.int _ n) => some n
  | some _ => none
def rowSz (M : MS) (n : Nat) : Option Nat :=
  match mget M n with
  | some (.row _ e _) | some (.imm _ e _) => some e.length
  | _ => none
def sliceAv (M : MS) (td : TD) (x : AV) (lo hi mx : Option AV) : Option Eff :=
  match bnd (fun _ => 0) lo with
  | none => none
  | some l => match td, x with
    | .slice _ sz _ _, .sl _ e xs => match bnd (fun _ => ((xs ()).length : Int)) hi with
      | none => none
      | some h => match bnd h mx, Nat.beq e.length sz with
        | some m, true => some ⟨[fun _ => 0 ≤ l () ∧ l () ≤ h () ∧ h () ≤ m () ∧ m () ≤ ((xs ()).length : Int)],
            .sl false e (fun _ => ((xs ()).drop (l ()).toNat).take ((h ()).toNat - (l ()).toNat)), [], []⟩
        | _, _ => none
    | .slice _ sz _ _, .ms n s0 len => match bnd (fun _ => (len () : Int)) hi with
      | none => none
      | some h => match bnd h mx, rowSz M n with
        | some m, some z => match Nat.beq z sz with
          | true => some ⟨[fun _ => 0 ≤ l () ∧ l () ≤ h () ∧ h () ≤ m () ∧ m () ≤ (len () : Int)],
            .ms n (fun _ => s0 () + (l ()).toNat) (fun _ => (h ()).toNat - (l ()).toNat), [n], []⟩
          | false => none
        | _, _ => none
    | .str, .str s => match bnd (fun _ => ((s ()).length : Int)) hi, mx with
      | some h, none => some ⟨[fun _ => 0 ≤ l () ∧ l () ≤ h () ∧ h () ≤ ((s ()).length : Int)],
            .str (fun _ => ((s ()).drop (l ()).toNat).take ((h ()).toNat - (l ()).toNat)), [], []⟩
      | _, _ => none
    | _, _ => none
def indexAddrAv (M : MS) (td : TD) (x i : AV) : Option Eff :=
  match td, x, i with
  | .slice _ sz _ _, .sl _ e xs, .int _ n => match Nat.beq e.length sz with
    | true => Eff.chk (fun _ => 0 ≤ n () ∧ n () < ((xs ()).length : Int)) (.pt (avs e (fun _ => lk (xs ()) (n ()).toNat)))
    | false => none
  | .slice _ sz _ _, .ms k lo len, .int _ n => match rowSz M k with
    | some z => match Nat.beq z sz with
      | true => some ⟨[fun _ => 0 ≤ n () ∧ n () < (len () : Int)], .me k (fun _ => lo () + (n ()).toNat) 0, [k], []⟩
      | false => none
    | none => none
  | .array cnt _ 1, .mp k off, .int _ n => Eff.chk (fun _ => 0 ≤ n () ∧ n () < (cnt : Int)) (.ax k off cnt (fun _ => (n ()).toNat))
  | _, _, _ => none
def fieldAddrAv (off : Nat) : AV → Option AV
  | .pt cs => some (.pt (ldrop cs off))
  | .mp n o => some (.mp n (o + off))
  | .me n i o => some (.me n i (o + off))
  | _ => none
def fget : List (Nat × Nat × Nat) → Nat → Option (Nat × Nat × Nat)
  | [], _ => none
  | f :: _, 0 => some f
  | _ :: fs, n + 1 => fget fs n
def buildAv (fs : List (Nat × Nat × Nat)) : List AV → List (Nat × AV) → Option (List AV)
  | cs, [] => some cs
  | cs, (i, v) :: rest => match fget fs i with
    | none => none
    | some (off, _, sz) => match Nat.beq (llen (cellsOf v)) sz, plains (cellsOf v), Nat.ble (off + sz) (llen cs) with
      | true, true, true => buildAv fs (lput cs off (cellsOf v)) rest
      | _, _, _ => none
/-- the places of an array's elements -/
def places (sz : Nat) : Nat → Nat → List (Nat × Nat × Nat)
  | _, 0 => []
  | i, n + 1 => (i * sz, 0, sz) :: places sz (i + 1) n
def rep (zs : List AV) : Nat → List AV
  | 0 => []
  | n + 1 => lapp zs (rep zs n)
def chunk (sz : Nat) : Nat → List (Unit → D) → List (List (Unit → D))
  | 0, _ => []
  | n + 1, ds => ds.take sz :: chunk sz n (ds.drop sz)
def repSh (e : List Sh) : Nat → List Sh
  | 0 => []
  | n + 1 => e ++ repSh e n
def convAv (M : MS) (key : Nat) (T : TT) (src dst : Nat) (x : AV) : Option Eff :=
  match tget T src, tget T dst with
  | some si, some di => match di.td, x with
    | .int k, .int _ n => Eff.pure (.int k fun _ => k.wrap (n ()))
    | .str, .str s => Eff.pure (.str s)
    | .slice el 1 1 [.int .u8], .str s => match si.td, tget T el with
      | .str, some ⟨_, _, _, .int .u8⟩ => some ⟨[fun _ => (s ()).length ≤ big], .ms key (fun _ => 0) (fun _ => (s ()).length), [],
        [(key, some (.row true [.int .u8] (fun _ => (s ()).map fun b => [D.int b.toNat])))]⟩
      | _, _ => none
    | .str, .nils => match si.td with
      | .slice el _ _ _ => match tget T el with
        | some ⟨_, _, _, .int .u8⟩ => Eff.pure (.str fun _ => [])
        | _ => none
      | _ => none
    | .str, x => match si.td with
      | .slice el _ _ _ => match tget T el, elems M x with
        | some ⟨_, _, _, .int .u8⟩, some ([.int .u8], xs, r, vc) => some ⟨vc, .str (fun _ => (xs ()).map fun c => UInt8.ofNat (lk c 0).toInt.toNat), r, []⟩
        | _, _ => none
      | _ => none
    | .slice el _ _ _, .ms n lo len => match Nat.beq src dst, mget M n, tget T el with
      | true, some (.row true e xs), some ⟨_, _, _, .int .u8⟩ => some ⟨[], .ms n lo len, [n], [(n, some (.row true e xs))]⟩
      | _, _, _ => none
    | _, _ => none
  | _, _ => none
def minInts (k : IntKind) : (Unit → Int) → List AV → Option (Unit → Int)
  | a, [] => some a
  | a, .int k' b :: vs => match decide (k = k') with | true => minInts k (fun _ => min (a ()) (b ())) vs | false => none
  | _, _ => none
def builtinAv (M : MS) (key : Nat) (T : TT) (b : Builtin) (ats : List Nat) (args : List AV) : Option Eff :=
  match b, args with
  | .len, [x] => match ats with
    | t :: _ => match tget T t with | some ti => lenAv ti.td x | none => none
    | [] => none
  | .append, [s, x] => match ats with
    | [t, t'] => match tget T t with
      | some ti => match ti.td with
        | .slice el _ eb esh => match Nat.beq t t' with
          | true => appendAv M key esh eb s x
          | false => match tget T t', tget T el, x with
            | some ⟨_, _, _, .int .i64⟩, some ei, .int .i64 n => match encs esh ei.zero with
              | some ds => appendZ M key esh eb ds s n
              | none => none
            | _, _, _ => none
        | _ => none
      | none => none
    | _ => none
  | .min, .int k a :: vs => match minInts k a vs with | some n => Eff.pure (.int k n) | none => none
  | .copy, [.ms n lo len, src] => match mget M n, elems M src with
    | some (.row nn e xs), some (e2, ys, r, vc) => match nmem r n, shEqs e2 e with
      | false, true => match ats with
        | t :: _ => match tget T t with
          | some ti => match ti.td with
            | .slice _ esz _ _ => match Nat.beq e.length esz with
              | true => some ⟨(fun _ => lo () + len () ≤ (xs ()).length) :: vc, .int .i64 (fun _ => ((min (len ()) (ys ()).length : Nat) : Int)), n :: r,
                [(n, some (.row nn e (fun _ => (xs ()).take (lo ()) ++ (ys ()).take (len ()) ++ (xs ()).drop (lo () + min (len ()) (ys ()).length))))]⟩
              | false => none
            | _ => none
          | none => none
        | [] => none
      | _, _ => none
    | _, _ => none
  | _, _ => none

/-! contracts and calls -/
inductive Mode where
  | ro | mut
/-- what a contract says of a call: canonical arguments and objects in; conditions, the value, the objects behind -/
structure Res where
  vc : List (Unit → Prop)
  val : AV
  objs : List (Nat × Option MObj)
/-- .. where the answer is one of several: for each choice d that is possible -/
structure NRes where
  pre : List (Unit → Prop)
  ok : D → Prop
  res : D → AV × List (Nat × Option MObj)
structure Contract where
  modes : List Mode
  fn : List AV → MS → Option Res
  nfn : List AV → MS → Option NRes := fun _ _ => none
abbrev Ctx := Nat → Option Contract
def cget (G : Ctx) (f : Nat) : Option Contract := G f
def modeArgs (M : MS) : List Mode → List AV → Option (List AV × List Nat × List (Unit → Prop))
  | [], [] => some ([], [], [])
  | .ro :: ms, v :: vs => match ro M v, modeArgs M ms vs with
    | some (v, r, c), some (vs, r', c') => some (v :: vs, r ++ r', c ++ c')
    | _, _ => none
  | .mut :: ms, v :: vs => match modeArgs M ms vs with
    | some (vs, r', c') => some (v :: vs, r', c')
    | _ => none
  | _, _ => none
mutual
def keysOf : AV → List Nat → List Nat
  | .ms n _ _, ks | .mp n _, ks | .me n _ _, ks | .ax n _ _ _, ks => match nmem ks n with | true => ks | false => ks ++ [n]
  | .agg cs, ks | .tup cs, ks | .fn _ cs, ks | .pt cs, ks => keysOfs cs ks
  | _, ks => ks
def keysOfs : List AV → List Nat → List Nat
  | [], ks => ks
  | v :: vs, ks => keysOfs vs (keysOf v ks)
end
def reach (M : MS) : Nat → Nat → List Nat → List Nat
  | 0, _, ks => ks
  | f + 1, i, ks => match ks[i]? with
    | none => ks
    | some k => match mget M k with
      | some (.obj cs) => reach M f (i + 1) (keysOfs cs ks)
      | _ => reach M f (i + 1) ks
def kidx : List Nat → Nat → Nat → Option Nat
  | [], _, _ => none
  | k :: ks, n, i => match Nat.beq k n with | true => some i | false => kidx ks n (i + 1)
mutual
def renC (ks : List Nat) : AV → Option AV
  | .ms n lo len => match kidx ks n 0 with | some i => some (.ms i lo len) | none => none
  | .mp n off => match kidx ks n 0 with | some i => some (.mp i off) | none => none
  | .me n i off => match kidx ks n 0 with | some j => some (.me j i off) | none => none
  | .ax n off c i => match kidx ks n 0 with | some j => some (.ax j off c i) | none => none
  | .agg cs => match renCs ks cs with | some cs => some (.agg cs) | none => none
  | .tup cs => match renCs ks cs with | some cs => some (.tup cs) | none => none
  | .fn f cs => match renCs ks cs with | some cs => some (.fn f cs) | none => none
  | .pt cs => match renCs ks cs with | some cs => some (.pt cs) | none => none
  | v => some v
def renCs (ks : List Nat) : List AV → Option (List AV)
  | [] => some []
  | v :: vs => match renC ks v, renCs ks vs with | some v, some vs => some (v :: vs) | _, _ => none
end
mutual
def ren (f : Nat → Nat) : AV → AV
  | .ms n lo len => .ms (f n) lo len
  | .mp n off => .mp (f n) off
  | .me n i off => .me (f n) i off
  | .ax n off c i => .ax (f n) off c i
  | .agg cs => .agg (rens f cs)
  | .tup cs => .tup (rens f cs)
  | .fn g cs => .fn g (rens f cs)
  | .pt cs => .pt (rens f cs)
  | v => v
def rens (f : Nat → Nat) : List AV → List AV
  | [] => []
  | v :: vs => ren f v :: rens f vs
end
def renO (f : Nat → Nat) : MObj → MObj
  | .obj cs => .obj (rens f cs)
  | o => o
def subM (M : MS) (ks : List Nat) : List Nat → Nat → Option MS
  | [], _ => some []
  | k :: rest, i => match mget M k with
    | some (.obj cs) => match renCs ks cs, subM M ks rest (i + 1) with
      | some cs, some S => some ((i, .obj cs) :: S)
      | _, _ => none
    | some o => match subM M ks rest (i + 1) with
      | some S => some ((i, o) :: S)
      | none => none
    | none => none
def back (ks : List Nat) (m base i : Nat) : Nat := match Nat.blt i m with | true => ks.getD i 0 | false => base + (i - m)
def renUpd (f : Nat → Nat) : List (Nat × Option MObj) → List (Nat × Option MObj)
  | [] => []
  | (k, some o) :: us => (f k, some (renO f o)) :: renUpd f us
  | (k, none) :: us => (f k, none) :: renUpd f us
def nodupB : List Nat → Bool
  | [] => true
  | k :: ks => match nmem ks k with | true => false | false => nodupB ks
def disj : List Nat → List Nat → Bool
  | [], _ => true
  | k :: ks, l => match nmem l k with | true => false | false => disj ks l
mutual
/-- its keys are below a number -/
def kltV (n : Nat) : AV → Bool
  | .ms k _ _ | .mp k _ | .me k _ _ | .ax k _ _ _ => Nat.blt k n
  | .agg cs | .tup cs | .fn _ cs | .pt cs => kltVs n cs
  | _ => true
def kltVs (n : Nat) : List AV → Bool
  | [] => true
  | v :: vs => match kltV n v with | true => kltVs n vs | false => false
end
def kltU (n : Nat) : List (Nat × Option MObj) → Bool
  | [] => true
  | (k, o) :: us => match Nat.blt k n, (match o with | some (.obj cs) => kltVs n cs | _ => true) with | true, true => kltU n us | _, _ => false
mutual
/-- it leads into no memory but by keys -/
def flatV : AV → Bool
  | .sl .. | .pt _ => false
  | .agg cs | .tup cs | .fn _ cs => flatVs cs
  | _ => true
def flatVs : List AV → Bool
  | [] => true
  | v :: vs => match flatV v with | true => flatVs vs | false => false
end
def flatSh : List Sh → Bool
  | [] => true
  | .int _ :: ss | .bool :: ss | .str :: ss => flatSh ss
  | _ => false
def flatM : MS → Bool
  | [] => true
  | (_, .row _ e _) :: M => match flatSh e with | true => flatM M | false => false
  | (_, .obj cs) :: M => match flatVs cs with | true => flatM M | false => false
  | (_, .imm ..) :: _ => false
def noLent (lent : List Nat) (v : AV) (M : MS) : Bool :=
  match lent with
  | [] => true
  | _ => match flatV v with | true => flatM M | false => false
def callAv (M : MS) (base : Nat) (C : Contract) (args : List AV) : Option Eff :=
  match modeArgs M C.modes args with
  | none => none
  | some (args, lent, vc0) =>
    let ks := reach M 40 0 (keysOfs args [])
    match renCs ks args, subM M ks ks 0, nodupB ks, disj lent ks with
    | some cargs, some cM, true, true => match C.fn cargs cM with
      | none => none
      | some r =>
        let m := ks.length
        let f := back ks m base
        match kltV (m + 8) r.val, kltU (m + 8) r.objs with
        | true, true => some ⟨vc0 ++ r.vc, ren f r.val, lent ++ ks, (match noLent lent r.val (mapply cM r.objs) with | true => [] | false => freeze M lent) ++ renUpd f r.objs⟩
        | _, _ => none
    | _, _, _, _ => none
/-- an effect that is one of several -/
structure NEff where
  pre : List (Unit → Prop)
  ok : D → Prop
  eff : D → Option Eff
def callRes (M : MS) (base : Nat) (ks lent : List Nat) (cM : MS) (val : AV) (objs : List (Nat × Option MObj)) : Option Eff :=
  match kltV (ks.length + 8) val, kltU (ks.length + 8) objs with
  | true, true => some ⟨[], ren (back ks ks.length base) val, lent ++ ks, (match noLent lent val (mapply cM objs) with | true => [] | false => freeze M lent) ++ renUpd (back ks ks.length base) objs⟩
  | _, _ => none
def callNv (M : MS) (base : Nat) (C : Contract) (args : List AV) : Option NEff :=
  match modeArgs M C.modes args with
  | none => none
  | some (args, lent, vc0) =>
    let ks := reach M 40 0 (keysOfs args [])
    match renCs ks args, subM M ks ks 0, nodupB ks, disj lent ks with
    | some cargs, some cM, true, true => match C.nfn cargs cM with
      | none => none
      | some r => some ⟨vc0 ++ r.pre, r.ok, fun d => callRes M base ks lent cM (r.res d).1 (r.res d).2⟩
    | _, _, _, _ => none
/-- a slice held against nil, of which it is not known whether it is there -/
def nilN (M : MS) (b : Bool) : TD → AV → AV → Option NEff
  | .slice .., .sl false _ xs, .nils => some ⟨[], fun d => d.toBool = true → xs () = [], fun d => some ⟨[], .bool (fun _ => d.toBool == b), [], []⟩⟩
  | .slice .., .ms n _ len, .nils => match mget M n with
    | some (.row true _ _) | some (.imm true _ _) => some ⟨[], fun d => d.toBool = false, fun d => some ⟨[], .bool (fun _ => d.toBool == b), [n], []⟩⟩
    | some (.row false _ _) | some (.imm false _ _) => some ⟨[], fun d => d.toBool = true → len () = 0, fun d => some ⟨[], .bool (fun _ => d.toBool == b), [n], []⟩⟩
    | _ => none
  | _, _, _ => none
def omap (env : List AV) : Option Operand → Option AV
  | none => none
  | some x => some (opv env x)
def natOp : AV → Option AV
  | v => some v

def pairs (env : List AV) : List (Nat × Operand) → List (Nat × AV)
  | [] => []
  | (i, x) :: ps => (i, opv env x) :: pairs env ps
def pickAv (res : Option Bool) (c a b : AV) : Option Eff :=
  match res with
  | some true => Eff.pure a
  | some false => Eff.pure b
  | none => match c, a, b with
    | .bool c, .bool a, .bool b => Eff.pure (.bool fun _ => bif c () then a () else b ())
    | _, _, _ => none
def rget : List (Nat × Bool) → Nat → Option Bool
  | [], _ => none
  | (k, b) :: r, n => match Nat.beq k n with | true => some b | false => rget r n
def rdel : List (Nat × Bool) → Option Nat → List (Nat × Bool)
  | r, none => r
  | [], _ => []
  | (k, b) :: r, some n => match Nat.beq k n with | true => rdel r (some n) | false => (k, b) :: rdel r (some n)
def resOf (res : List (Nat × Bool)) : Operand → Option Bool
  | .tmp t => rget res t
  | .const (.bool b) => some b
  | _ => none

/-- what an operation does -/
def aop (T : TT) (G : Ctx) (env : List AV) (res : List (Nat × Bool)) (M : MS) (base : Nat) (o : Op) : Option Eff :=
  match o with
  | .move x | .assign x => Eff.pure (opv env x)
  | .pick c a b => pickAv (resOf res c) (opv env c) (opv env a) (opv env b)
  | .alloc t => match tget T t with
    | some ti => some ⟨[], .mp base 0, [], [(base, some (.obj ti.zero))]⟩
    | none => none
  | .box t x => match tget T t with
    | some ti => match Nat.beq (llen (cellsOf (opv env x))) ti.size, plains (cellsOf (opv env x)) with
      | true, true => some ⟨[], .mp base 0, [], [(base, some (.obj (cellsOf (opv env x))))]⟩
      | _, _ => none
    | none => none
  | .build t parts => match tget T t with
    | some ti => match ti.td with
      | .struct fs _ => match buildAv fs ti.zero (pairs env parts.toList) with | some cs => Eff.pure (.agg cs) | none => none
      | .array n _ sz => match buildAv (places sz 0 n) ti.zero (pairs env parts.toList) with | some cs => Eff.pure (.agg cs) | none => none
      | _ => none
    | none => none
  | .buildSlice t len parts => match tget T t with
    | some ti => match ti.td with
      | .slice el sz _ esh => match tget T el with
        | some ei => match buildAv (places sz 0 len) (rep ei.zero len) (pairs env parts.toList) with
          | some cs => match ros M cs with
            | none => none
            | some (cs, lent, vc) => match encs (repSh esh len) cs with
              | some ds => match Nat.ble (len * sz) 16777216, ei.zero with
                | true, _ :: _ => some ⟨vc, .ms base (fun _ => 0) (fun _ => len), lent, freeze M lent ++ [(base, some (.row true esh (fun _ => (chunk sz len ds).map dall)))]⟩
                | _, _ => none
              | none => none
          | none => none
        | none => none
      | _ => none
    | none => none
  | .load t a => match tget T t with
    | some ti => load1 M ti (opv env a)
    | none => none
  | .store t a x => match tget T t with
    | some ti => store1 M ti (opv env x) (opv env a)
    | none => none
  | .nilCheck x => match isNil (opv env x) with | some false => Eff.pure (opv env x) | _ => none
  | .binOp op t x y _ => binAv T t op (opv env x) (opv env y)
  | .unOp op _ x => unAv op (opv env x)
  | .convert s d x => convAv M base T s d (opv env x)
  | .makeFunc (.func f) first caps => match first.toList with
    | [] => Eff.pure (.fn f (opvs env caps.toList))
    | _ => none
  | .makeSlice t l c => match tget T t, opv env l, opv env c with
    | some ti, .int .i64 n, .int .i64 m => match ti.td with
      | .slice el _ eb esh => match tget T el, Nat.ble eb 128 with
        | some ei, true => match encs esh ei.zero with
          | some ds => some ⟨[fun _ => n () = m (), fun _ => 0 ≤ n () ∧ n () ≤ big], .ms base (fun _ => 0) (fun _ => (n ()).toNat), [], [(base, some (.row true esh (fun _ => List.replicate (n ()).toNat (dall ds))))]⟩
          | none => none
        | _, _ => none
      | _ => none
    | _, _, _ => none
  | .slice t x lo hi mx => match tget T t with
    | some ti => match hi, mx with
      | none, some _ => none
      | _, _ => sliceAv M ti.td (opv env x) (omap env lo) (omap env hi) (omap env mx)
    | none => none
  | .fieldAddr s x f => match tget T s with
    | some ti => match ti.td with
      | .struct fs _ => match fget fs f with
        | some (off, _, sz) => match Nat.ble 1 sz, fieldAddrAv off (opv env x) with
          | true, some v => Eff.pure v
          | _, _ => none
        | none => none
      | _ => none
    | none => none
  | .field s x f => match tget T s, opv env x with
    | some ti, .agg cs => match ti.td with
      | .struct fs _ => match fget fs f with
        | some (off, ft, sz) => match tget T ft, Nat.ble (off + sz) (llen cs), Nat.ble 1 sz with
          | some fi, true, true => Eff.pure (loadAv fi (ldrop cs off))
          | _, _, _ => none
        | none => none
      | _ => none
    | _, _ => none
  | .indexAddr t x i => match tget T t with
    | some ti => indexAddrAv M ti.td (opv env x) (opv env i)
    | none => none
  | .index t x i => match tget T t, opv env x, opv env i with
    | some ⟨_, _, _, .str⟩, .str s, .int _ n => Eff.chk (fun _ => 0 ≤ n () ∧ n () < ((s ()).length : Int)) (.int .u8 fun _ => ((lk (s ()) (n ()).toNat).toNat : Int))
    | _, _, _ => none
  | .extract x i => match opv env x with
    | .tup vs => match Nat.blt i (llen vs) with | true => Eff.pure (lget vs i) | false => none
    | _ => none
  | .call c => match c.callee with
    | .builtin b => builtinAv M base T b c.argTypes.toList (opvs env c.args.toList)
    | .value f => match opv env f with
      | .fn g caps => match cget G g with
        | some C => callAv M base C (lapp (opvs env c.args.toList) caps)
        | none => none
      | _ => none
    | _ => none
  | _ => none

/-- what an operation does, if it is one of several things -/
def nop (T : TT) (G : Ctx) (env : List AV) (M : MS) (base : Nat) (o : Op) : Option NEff :=
  match o with
  | .binOp .eql t x y _ => match tget T t with | some ti => nilN M true ti.td (opv env x) (opv env y) | none => none
  | .binOp .neq t x y _ => match tget T t with | some ti => nilN M false ti.td (opv env x) (opv env y) | none => none
  | .call c => match c.callee with
    | .value f => match opv env f with
      | .fn g caps => match cget G g with
        | some C => callNv M base C (lapp (opvs env c.args.toList) caps)
        | none => none
      | _ => none
    | _ => none
  | _ => none

/-! regions and code -/
structure AState where
  env : List AV
  M : MS
  nx : Nat
structure RS where
  env : List AV
  M : MS
  res : List (Nat × Bool)
  log : List (Nat × List Nat × List Nat)
inductive Hold (p : Unit → Prop) : Prop where
  | mk : p () → Hold p
structure Split (b : Unit → Bool) (X Y : Unit → Prop) : Prop where
  t : b () = true → X ()
  f : b () = false → Y ()
def vcs : List (Unit → Prop) → Prop → Prop
  | [], r => r
  | p :: ps, r => Hold p ∧ vcs ps r
def lset? (env : List AV) : Option Nat → AV → List AV
  | none, _ => env
  | some d, v => lset env d v
def ukeys : List (Nat × Option MObj) → List Nat
  | [] => []
  | (k, _) :: us => k :: ukeys us
def logOf (i : Nat) (e : Eff) (l : List (Nat × List Nat × List Nat)) : List (Nat × List Nat × List Nat) :=
  match e.rd, e.upd with
  | [], [] => l
  | rd, us => (i, rd, ukeys us) :: l
/-- one operation that is wanted -/
def wop (T : TT) (G : Ctx) (i base : Nat) (o : Oper) (r : RS) (K : RS → Prop) : Prop :=
  match aop T G r.env r.res r.M (base + 8 * i) o.op with
  | none => False
  | some e => vcs e.vc (K ⟨lset? r.env o.dst e.val, mapply r.M e.upd, rdel r.res o.dst, logOf i e r.log⟩)
def gslot (ops : List Oper) (j : Nat) : Option Nat := match ops[j]? with | some o => o.dst | none => none
def skipR (o : Oper) (r : RS) : RS := ⟨lset? r.env o.dst .udf, r.M, rdel r.res o.dst, r.log⟩
def beqB : Bool → Bool → Bool
  | true, true => true
  | false, false => true
  | _, _ => false
def wops (T : TT) (G : Ctx) (all : List Oper) (base : Nat) : List Oper → Nat → RS → (RS → Prop) → Prop
  | [], _, r, K => K r
  | o :: os, i, r, K => match o.guard with
    | none => wop T G i base o r (fun r => wops T G all base os (i + 1) r K)
    | some (j, want) => match gslot all j with
      | none => False
      | some d => match rget r.res d with
        | some b => match beqB b want with
          | true => wop T G i base o r (fun r => wops T G all base os (i + 1) r K)
          | false => wops T G all base os (i + 1) (skipR o r) K
        | none => match lget r.env d with
          | .bool f => match want with
            | true => Split f (fun _ => wop T G i base o ⟨r.env, r.M, (d, true) :: r.res, r.log⟩ (fun r => wops T G all base os (i + 1) r K))
                (fun _ => wops T G all base os (i + 1) (skipR o ⟨r.env, r.M, (d, false) :: r.res, r.log⟩) K)
            | false => Split f (fun _ => wops T G all base os (i + 1) (skipR o ⟨r.env, r.M, (d, true) :: r.res, r.log⟩) K)
                (fun _ => wop T G i base o ⟨r.env, r.M, (d, false) :: r.res, r.log⟩ (fun r => wops T G all base os (i + 1) r K))
          | .udf => wops T G all base os (i + 1) (skipR o r) K
          | _ => False
/-- one operation that is wanted, of a region in the text's order -/
def wopN (T : TT) (G : Ctx) (i base : Nat) (o : Oper) (r : RS) (K : RS → Prop) : Prop :=
  match aop T G r.env r.res r.M (base + 8 * i) o.op with
  | some e => vcs e.vc (K ⟨lset? r.env o.dst e.val, mapply r.M e.upd, rdel r.res o.dst, []⟩)
  | none => match nop T G r.env r.M (base + 8 * i) o.op with
    | none => False
    | some n => vcs n.pre (∀ d, n.ok d → match n.eff d with
      | none => False
      | some e => K ⟨lset? r.env o.dst e.val, mapply r.M e.upd, rdel r.res o.dst, []⟩)
def wopsN (T : TT) (G : Ctx) (all : List Oper) (base : Nat) : List Oper → Nat → RS → (RS → Prop) → Prop
  | [], _, r, K => K r
  | o :: os, i, r, K => match o.guard with
    | none => wopN T G i base o r (fun r => wopsN T G all base os (i + 1) r K)
    | some (j, want) => match gslot all j with
      | none => False
      | some d => match rget r.res d with
        | some b => match beqB b want with
          | true => wopN T G i base o r (fun r => wopsN T G all base os (i + 1) r K)
          | false => wopsN T G all base os (i + 1) (skipR o r) K
        | none => match lget r.env d with
          | .bool f => match want with
            | true => Split f (fun _ => wopN T G i base o ⟨r.env, r.M, (d, true) :: r.res, []⟩ (fun r => wopsN T G all base os (i + 1) r K))
                (fun _ => wopsN T G all base os (i + 1) (skipR o ⟨r.env, r.M, (d, false) :: r.res, []⟩) K)
            | false => Split f (fun _ => wopsN T G all base os (i + 1) (skipR o ⟨r.env, r.M, (d, true) :: r.res, []⟩) K)
                (fun _ => wopN T G i base o ⟨r.env, r.M, (d, false) :: r.res, []⟩ (fun r => wopsN T G all base os (i + 1) r K))
          | .udf => wopsN T G all base os (i + 1) (skipR o r) K
          | _ => False
/-- the ancestors of an operation -/
def ancGo (ops : List Oper) : Nat → List Nat → List Nat
  | 0, acc => acc
  | i + 1, acc => match nmem acc i with
    | false => ancGo ops i acc
    | true => ancGo ops i (acc ++ (match ops[i]? with | some o => (o.after.toList.filter (fun e => Region.binds .any e)).map (·.on) | none => []))
def anc (ops : List Oper) (j : Nat) : List Nat := ancGo ops (j + 1) [j]
def okPair (ops : List Oper) (x y : Nat × List Nat × List Nat) : Bool :=
  (disj x.2.2 y.2.1 && disj x.2.2 y.2.2 && disj y.2.2 x.2.1) || nmem (anc ops y.1) x.1 || nmem (anc ops x.1) y.1
def okLog (ops : List Oper) : List (Nat × List Nat × List Nat) → Bool
  | [] => true
  | x :: l => l.all (okPair ops x) && okLog ops l

inductive AExit where
  | normal | exit (id : Nat) | ret
inductive LoopP (B : AState → (AExit → AState → Prop) → Prop) (Fit : AState → AState → Prop) (Q : AExit → AState → Prop) (s : AState) : Prop where
  | mk (ι : Type) (inv : ι → AState) (μ : ι → Nat) (x : ι) (start : Fit s (inv x))
      (round : ∀ x, B (inv x) (fun e s' => match e with | .normal => ∃ y, μ y < μ x ∧ Fit s' (inv y) | e => Q e s')) : LoopP B Fit Q s

/-! fitting one state into another -/
def kget : List (Nat × Option Nat) → Nat → Option (Option Nat)
  | [], _ => none
  | (k, v) :: l, n => match Nat.beq k n with | true => some v | false => kget l n
structure Fs where
  map : List (Nat × Option Nat)   -- wanted key ↦ the key that is there (none: a nil row)
  todo : List Nat
  vc : List (Unit → Prop)
  froz : List Nat
def Fs.bindKey (f : Fs) (want : Nat) (have_ : Option Nat) : Option Fs :=
  match kget f.map want with
  | none => some { f with map := (want, have_) :: f.map, todo := f.todo ++ [want] }
  | some h => match h, have_ with
    | some a, some b => match Nat.beq a b with | true => some f | false => none
    | none, none => some f
    | _, _ => none
def Fs.add (f : Fs) (p : Unit → Prop) : Fs := { f with vc := f.vc ++ [p] }
def leB (a b : Bool) : Bool := match b with
  | false => true
  | true => a
mutual
def fitV (M : MS) : AV → AV → Fs → Option Fs
  | _, .un, f => some f
  | .udf, .udf, f => some f
  | .int k a, .int k' b, f => match decide (k = k') with | true => some (f.add fun _ => a () = b ()) | false => none
  | .bool a, .bool b, f => some (f.add fun _ => a () = b ())
  | .str a, .str b, f => some (f.add fun _ => a () = b ())
  | .nils, .nils, f => some f
  | .nilp, .nilp, f => some f
  | .nilf, .nilf, f => some f
  | .nils, .sl false (_ :: _) ys, f => some (f.add fun _ => ys () = [])
  | .sl nn e xs, .sl nn' e' ys, f => match leB nn nn', shEqs e e' with
    | true, true => some (f.add fun _ => xs () = ys ())
    | _, _ => none
  | .pt cs, .pt ds, f => fitVs M cs ds f
  | .nils, .ms m lo len, f => match f.bindKey m none with
    | some f => some (f.add fun _ => lo () = 0 ∧ len () = 0)
    | none => none
  | .ms n lo len, .ms m lo' len', f => match f.bindKey m (some n) with
    | some f => some (f.add fun _ => lo () = lo' () ∧ len () = len' ())
    | none => none
  | .ms n lo len, .sl false e' ys, f => match mget M n with
    | some (.row _ e xs) | some (.imm _ e xs) => match shEqs e e' with
      | true => some { (f.add fun _ => lo () + len () ≤ (xs ()).length ∧ ((xs ()).drop (lo ())).take (len ()) = ys ()) with froz := f.froz ++ [n] }
      | false => none
    | _ => none
  | .mp n off, .mp m off', f => match Nat.beq off off' with | true => f.bindKey m (some n) | false => none
  | .agg cs, .agg ds, f => fitVs M cs ds f
  | .tup cs, .tup ds, f => fitVs M cs ds f
  | .fn g cs, .fn g' ds, f => match Nat.beq g g' with | true => fitVs M cs ds f | false => none
  | _, _, _ => none
def fitVs (M : MS) : List AV → List AV → Fs → Option Fs
  | [], [], f => some f
  | v :: vs, u :: us, f => match fitV M v u f with | some f => fitVs M vs us f | none => none
  | _, _, _ => none
end
def fitO (M : MS) (a : Nat) : MObj → MObj → Fs → Option Fs
  | .row nn e xs, .row nn' e' ys, f => match leB nn nn', shEqs e e' with
    | true, true => some (f.add fun _ => xs () = ys ())
    | _, _ => none
  | .imm nn e xs, .imm nn' e' ys, f => match leB nn nn', shEqs e e' with
    | true, true => some (f.add fun _ => xs () = ys ())
    | _, _ => none
  | .row nn e xs, .imm nn' e' ys, f => match leB nn nn', shEqs e e' with
    | true, true => some { (f.add fun _ => xs () = ys ()) with froz := f.froz ++ [a] }
    | _, _ => none
  | .obj cs, .obj ds, f => fitVs M cs ds f
  | _, _, _ => none
def fitObjs (M M' : MS) : Nat → Fs → Option Fs
  | 0, _ => none
  | n + 1, f => match f.todo with
    | [] => some f
    | k :: ks => match kget f.map k, mget M' k with
      | some (some a), some o' => match mget M a with
        | some o => match fitO M a o o' { f with todo := ks } with
          | some f => fitObjs M M' n f
          | none => none
        | none => none
      | some none, some (.row false (_ :: _) ys) => fitObjs M M' n ({ f with todo := ks }.add fun _ => ys () = [])
      | _, _ => none
def isImm : Option MObj → Bool
  | some (.imm ..) => true
  | _ => false
def diffKey (a : Nat) : List (Nat × Option Nat) → Bool
  | [] => true
  | (_, some b) :: l => match Nat.beq a b with | true => false | false => diffKey a l
  | (_, none) :: l => diffKey a l
/-- no two wanted keys stand for one; none that is frozen is wanted as mutable; the objects that came with the call keep their numbers -/
def keysOk (M' : MS) (froz : List Nat) (m nx : Nat) : List (Nat × Option Nat) → Bool
  | [] => true
  | (k, none) :: l => match Nat.ble m k, Nat.blt k nx with | true, true => keysOk M' froz m nx l | _, _ => false
  | (k, some a) :: l => match Nat.blt k nx, diffKey a l, (match nmem froz a with | true => isImm (mget M' k) | false => true), (match Nat.blt k m with | true => Nat.beq k a | false => Nat.ble m a) with
    | true, true, true, true => keysOk M' froz m nx l
    | _, _, _, _ => false
def covers (map : List (Nat × Option Nat)) : MS → Bool
  | [] => true
  | (k, _) :: M => match kget map k with | some _ => covers map M | none => false
/-- the objects that came with the call, ahead of all -/
def pins (m : Nat) : MS → Fs → Option Fs
  | [], f => some f
  | (k, _) :: M, f => match Nat.blt k m with
    | true => match f.bindKey k (some k) with | some f => pins m M f | none => none
    | false => pins m M f
def holds : List (Unit → Prop) → Prop
  | [] => True
  | [p] => Hold p
  | p :: ps => Hold p ∧ holds ps
def fitEnv (m : Nat) (M : MS) (env : List AV) (M' : MS) (env' : List AV) (nx' : Nat) : Option (List (Unit → Prop)) :=
  match pins m M' ⟨[], [], [], []⟩ with
  | none => none
  | some f => match fitVs M env env' f with
    | none => none
    | some f => match fitObjs M M' 60 f with
      | none => none
      | some f => match keysOk M' f.froz m nx' f.map, covers f.map M', Nat.ble m nx' with
        | true, true, true => some f.vc
        | _, _, _ => none
def fit (m : Nat) (s s' : AState) : Prop :=
  match fitEnv m s.M s.env s'.M s'.env s'.nx with
  | some vc => holds vc
  | none => False

def awp (T : TT) (G : Ctx) (m : Nat) : Code → (AExit → AState → Prop) → AState → Prop
  | .skip, Q, s => Q .normal s
  | .ret, Q, s => Q .ret s
  | .exit id, Q, s => Q (.exit id) s
  | .seq a b, Q, s => awp T G m a (fun e s => match e with | .normal => awp T G m b Q s | e => Q e s) s
  | .block id c, Q, s => awp T G m c (fun e s => match e with
      | .exit i => match Nat.beq i id with | true => Q .normal s | false => Q (.exit i) s
      | e => Q e s) s
  | .cond c x y, Q, s => match opv s.env c with
    | .bool b => Split b (fun _ => awp T G m x Q s) (fun _ => awp T G m y Q s)
    | _ => False
  | .loop c, Q, s => LoopP (fun s Q => awp T G m c Q s) (fit m) Q s
  | .region _ ops draw, Q, s => match draw with
    | false => wopsN T G ops.toList s.nx ops.toList 0 ⟨s.env, s.M, [], []⟩ (fun r => Q .normal ⟨r.env, r.M, s.nx + 8 * ops.toList.length⟩)
    | true => wops T G ops.toList s.nx ops.toList 0 ⟨s.env, s.M, [], []⟩ (fun r => match okLog ops.toList r.log with
      | true => Q .normal ⟨r.env, r.M, s.nx + 8 * ops.toList.length⟩
      | false => False)
  | _, _, _ => False
end Go.Am
