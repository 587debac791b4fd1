/- The abstract machine: values, memory, operations, code. Nothing of Go's model is said here. -/
import GoSem.Op.IntArith
namespace Go.AM
set_option linter.unusedVariables false
set_option linter.unusedSimpArgs false

/-- A value: numbers, Booleans, slices of blocks, slices and pointers into memory that came in (by what it holds), functions, flat rows of cells. -/
inductive AV where
  | int (k : IntKind) (n : Int)
  | bool (b : Bool)
  | nils
  | sl (b off n s : Nat)
  | ro (cs : List AV) (n : Nat)
  | ptr (b off : Nat)
  | rop (cs : List AV) (off : Nat)
  | nilp
  | fn (f : Nat) (caps : List AV)
  | nilf
  | agg (cs : List AV)
  | tup (vs : List AV)
  | junk
  deriving Inhabited

structure AH where
  blk : Nat → Option (List AV)
  next : Nat

namespace AH
def set (h : AH) (b : Nat) (cs : List AV) : AH := { h with blk := fun x => if x = b then some cs else h.blk x }
def del (h : AH) (b : Nat) : AH := { h with blk := fun x => if x = b then none else h.blk x }
def new (h : AH) (cs : List AV) : AH := { blk := fun x => if x = h.next then some cs else h.blk x, next := h.next + 1 }
end AH

abbrev Fr := List AV
abbrev O := Option (AV × AH)

inductive AO where
  | t (n : Nat)
  | c (v : AV)
  deriving Inhabited

-- What stands between a step and the next piece of code is laid open before any code ('abbrev', recursors in place): the kernel compares the pieces as they stand.
noncomputable abbrev Fr.at (fr : Fr) (n : Nat) : AV := List.rec (motive := fun _ => Nat → AV) (fun _ => .junk) (fun v _ ih n => Nat.rec (motive := fun _ => AV) v (fun m _ => ih m) n) fr n
noncomputable abbrev Fr.put (fr : Fr) (n : Nat) (v : AV) : Fr := List.rec (motive := fun _ => Nat → Fr) (fun _ => []) (fun x r ih n => Nat.rec (motive := fun _ => Fr) (v :: r) (fun m _ => x :: ih m) n) fr n
noncomputable abbrev ev (fr : Fr) (x : AO) : AV := AO.rec (motive := fun _ => AV) (fun n => fr.at n) (fun v => v) x
noncomputable abbrev evs (fr : Fr) (l : List AO) : List AV := List.rec (motive := fun _ => List AV) [] (fun x _ ih => ev fr x :: ih) l

inductive ABin where
  | add | sub | mul | quo | rem | and | or | xor | andNot | shl | shr | eql | neq | lss | leq | gtr | geq
  deriving Inhabited, DecidableEq

/-- An operation; sizes are cells, 'bytes' the bytes of an element. -/
inductive AOp where
  | move (x : AO)
  | pick (c a b : AO)
  | new (cs : List AV)
  | box (x : AO)
  | build (zero : List AV) (parts : List (Nat × Nat × AO))
  | buildS (n s : Nat) (zero : List AV) (parts : List (Nat × Nat × AO))
  | load (n : Option Nat) (p : AO)
  | store (n : Nat) (p x : AO)
  | nilck (x : AO)
  | bin (o : ABin) (x y : AO)
  | eqa (neg : Bool) (x y : AO)
  | eqb (neg : Bool) (x y : AO)
  | isnil (neg : Bool) (x : AO)
  | not (x : AO)
  | neg (x : AO)
  | conv (k : IntKind) (x : AO)
  | mkfn (f : Nat) (caps : List AO)
  | mkS (s bytes : Nat) (zero : List AV) (n : AO)
  | slice (s : Nat) (x : AO) (lo hi : Option AO)
  | fld (off : Nat) (p : AO)
  | field (off : Nat) (n : Option Nat) (x : AO)
  | idx (s : Nat) (x i : AO)
  | idxA (len s : Nat) (p i : AO)
  | extract (x : AO) (i : Nat)
  | call (f : Nat) (args : List AO)
  | callv (f : AO) (args : List AO)
  | len (x : AO)
  | app (s bytes : Nat) (x y : AO)
  | clear (s : Nat) (zero : List AV) (x : AO)
  | copy (s : Nat) (x y : AO)
  | min (x y : AO)
  | max (x y : AO)
  deriving Inhabited

inductive ASh where
  | any
  | int (k : IntKind)
  | bool
  deriving Inhabited

structure Chk where
  dst : Nat
  n : Option Nat
  p : AO
  guard : Option (Nat × Bool)
  deriving Inhabited

structure AOper where
  ix : Nat
  dst : Option Nat
  op : AOp
  sh : ASh
  guard : Option (Nat × Bool)
  chk : List Chk
  deriving Inhabited

abbrev Msk := List (Nat × ASh)

inductive AC where
  | skip
  | reg (draw : Option (List Nat)) (ops : List AOper)
  | seq (m : Option Msk) (a b : AC)
  | cond (c : AO) (a b : AC)
  | block (id : Nat) (a : AC)
  | loop (m : Msk) (a : AC)
  | exit (id : Nat)
  | ret
  deriving Inhabited

inductive ARes where
  | tmp (t : Nat)
  | cell (t : Nat) (n : Option Nat)
  deriving Inhabited

structure AF where
  params : Msk
  ntmps : Nat
  res : List ARes
  body : AC
  deriving Inhabited

/-! ### Operations -/
def maxRoom : Nat := 2 ^ 40
/-- So many elements of so many bytes have room. -/
def Room (n bytes : Nat) : Prop := n ≤ maxRoom ∧ n * bytes ≤ maxRoom
instance (n bytes : Nat) : Decidable (Room n bytes) := by unfold Room; infer_instance
def zeros (n : Nat) : List AV := List.replicate n (.int .i64 0)
def cellsOf : AV → Option (List AV)
  | .agg cs => some cs
  | .tup _ => none
  | .junk => none
  | v => some [v]
def slen : AV → Option Nat
  | .nils => some 0
  | .sl _ _ n _ => some n
  | .ro _ n => some n
  | _ => none
def aIdx (s : Nat) (x : AV) (k : Int) : Option AV :=
  match x with
  | .sl b off n s' => if 0 ≤ k ∧ k < n ∧ s' = s then some (.ptr b (off + k.toNat * s)) else none
  | .ro cs n => if 0 ≤ k ∧ k < n then some (.rop cs (k.toNat * s)) else none
  | _ => none
def aIdxA (len s : Nat) (x : AV) (k : Int) : Option AV :=
  match x with
  | .ptr b off => if 0 ≤ k ∧ k < len then some (.ptr b (off + k.toNat * s)) else none
  | .rop cs off => if 0 ≤ k ∧ k < len then some (.rop cs (off + k.toNat * s)) else none
  | _ => none
def aFld (o : Nat) (x : AV) : Option AV :=
  match x with
  | .ptr b off => some (.ptr b (off + o))
  | .rop cs off => some (.rop cs (off + o))
  | _ => none
/-- The cells from a pointer on. -/
def aCells (h : AH) : AV → Option (List AV)
  | .ptr b off => (h.blk b).map (·.drop off)
  | .rop cs off => some (cs.drop off)
  | _ => none
def take1 (n : Option Nat) (cs : List AV) : Option AV :=
  match n with
  | none => cs.head?
  | some n => if n ≤ cs.length then some (.agg (cs.take n)) else none
def aLd (h : AH) (n : Option Nat) (p : AV) : Option AV := (aCells h p).bind (take1 n)
def splice (cs : List AV) (o : Nat) (vs : List AV) : List AV := cs.take o ++ vs ++ cs.drop (o + vs.length)
def aSt (h : AH) (n : Nat) (p v : AV) : Option AH :=
  match p with
  | .ptr b off => (h.blk b).bind fun cs => (cellsOf v).bind fun vs => if vs.length = n ∧ off + n ≤ cs.length then some (h.set b (splice cs off vs)) else none
  | _ => none
def fillA (cs : List AV) : List (Nat × Nat × AV) → Option (List AV)
  | [] => some cs
  | (off, n, v) :: r => (cellsOf v).bind fun vs => if vs.length = n ∧ off + n ≤ cs.length then fillA (splice cs off vs) r else none
/-- All cells of a slice. -/
def rdS (h : AH) (s : Nat) : AV → Option (List AV)
  | .nils => some []
  | .sl b off n s' => if s' = s then (h.blk b).bind fun cs => if off + n * s ≤ cs.length then some ((cs.drop off).take (n * s)) else none else none
  | .ro cs n => if n * s = cs.length then some cs else none
  | _ => none
def aApp (h : AH) (s bytes : Nat) (x y : AV) : Option (AV × AH) :=
  (rdS h s y).bind fun vs => (slen y).bind fun m =>
    match x with
    | .nils => if m = 0 then some (.nils, h) else if Room m bytes then some (.sl h.next 0 m s, h.new vs) else none
    | .sl b 0 n s' => (h.blk b).bind fun cs => if s' = s ∧ cs.length = n * s ∧ Room (n + m) bytes then some (.sl h.next 0 (n + m) s, (h.del b).new (cs ++ vs)) else none
    | _ => none
def aMkS (h : AH) (s bytes : Nat) (zero : List AV) (n : Int) : Option (AV × AH) :=
  if 0 ≤ n ∧ Room n.toNat bytes then some (.sl h.next 0 n.toNat s, h.new (List.replicate n.toNat zero).flatten) else none
def aSlice (s : Nat) (x : AV) (lo hi : Option Int) : Option AV :=
  (slen x).bind fun n =>
    let l := lo.getD 0
    let u := hi.getD n
    if 0 ≤ l ∧ l ≤ u ∧ u ≤ n then
      match x with
      | .nils => some .nils
      | .sl b off _ s' => if s' = s then some (.sl b (off + l.toNat * s) (u - l).toNat s) else none
      | .ro cs _ => some (.ro ((cs.drop (l.toNat * s)).take ((u - l).toNat * s)) (u - l).toNat)
      | _ => none
    else none
def aClear (h : AH) (s : Nat) (zero : List AV) (x : AV) : Option AH :=
  match x with
  | .nils => some h
  | .sl b off n s' => (h.blk b).bind fun cs => if s' = s ∧ off + n * s ≤ cs.length then some (h.set b (splice cs off (List.replicate n zero).flatten)) else none
  | _ => none
def aBits (o : ABin) (k : IntKind) (x y : Int) : Int :=
  k.wrap (match o with
    | .and => (BitVec.ofInt k.bits x &&& BitVec.ofInt k.bits y).toNat
    | .or => (BitVec.ofInt k.bits x ||| BitVec.ofInt k.bits y).toNat
    | .xor => (BitVec.ofInt k.bits x ^^^ BitVec.ofInt k.bits y).toNat
    | _ => (BitVec.ofInt k.bits x &&& ~~~BitVec.ofInt k.bits y).toNat : Nat)
def aField (off : Nat) (n : Option Nat) (x : AV) : Option AV :=
  match x with
  | .agg cs => take1 n (cs.drop off)
  | _ => none
/-- Two flat values of whole numbers and Booleans are equal. -/
def eqF : List AV → List AV → Option Bool
  | [], [] => some true
  | .int k a :: r, .int k' b :: s => if k = k' then if a = b then eqF r s else some false else none
  | .bool a :: r, .bool b :: s => if a = b then eqF r s else some false
  | _, _ => none

def kEq : IntKind → IntKind → Bool
  | .i8, .i8 => true
  | .i16, .i16 => true
  | .i32, .i32 => true
  | .i64, .i64 => true
  | .u8, .u8 => true
  | .u16, .u16 => true
  | .u32, .u32 => true
  | .u64, .u64 => true
  | _, _ => false

/-! ### Steps in continuation form -/
abbrev asB (v : AV) (K : Bool → O) : O := match v with
  | .bool b => K b
  | _ => none
abbrev asI (v : AV) (K : IntKind → Int → O) : O := match v with
  | .int k n => K k n
  | _ => none
abbrev asK (k : IntKind) (v : AV) (K : Int → O) : O := match v with
  | .int k' n => bif kEq k k' then K n else none
  | _ => none
abbrev asSh (s : ASh) (v : AV) (K : AV → O) : O := match s with
  | .any => K v
  | .int k => asK k v fun n => K (.int k n)
  | .bool => asB v fun b => K (.bool b)
open Classical in
/-- Go on if something holds. -/
noncomputable def need (p : Prop) (x : O) : O := if p then x else none
def pCells (v : AV) (K : List AV → O) : O := (cellsOf v).bind K
def pNew (h : AH) (cs : List AV) (K : Nat → AH → O) : O := K h.next (h.new cs)
def pFill (z : List AV) (ps : List (Nat × Nat × AV)) (K : List AV → O) : O := (fillA z ps).bind K
def pLd (h : AH) (n : Option Nat) (p : AV) (K : AV → O) : O := (aLd h n p).bind K
def pSt (h : AH) (n : Nat) (p v : AV) (K : AH → O) : O := (aSt h n p v).bind K
def pNil (v : AV) (K : AV → O) : O := match v with
  | .ptr b o => K (.ptr b o)
  | .rop cs o => K (.rop cs o)
  | .fn f c => K (.fn f c)
  | _ => none
def pEq (x y : AV) (K : Bool → O) : O := match x, y with
  | .agg cs, .agg ds => (eqF cs ds).bind K
  | _, _ => none
def pIsNil (x : AV) (K : Bool → O) : O := match x with
  | .nils => K true
  | .sl _ _ _ _ => K false
  | _ => none
def pMkS (h : AH) (s b : Nat) (z : List AV) (n : Int) (K : AV → AH → O) : O := (aMkS h s b z n).bind fun p => K p.1 p.2
def pSlice (s : Nat) (x : AV) (lo hi : Option Int) (K : AV → O) : O := (aSlice s x lo hi).bind K
def pFld (o : Nat) (x : AV) (K : AV → O) : O := (aFld o x).bind K
def pField (o : Nat) (n : Option Nat) (x : AV) (K : AV → O) : O := (aField o n x).bind K
def pIdx (s : Nat) (x : AV) (i : Int) (K : AV → O) : O := (aIdx s x i).bind K
def pIdxA (l s : Nat) (x : AV) (i : Int) (K : AV → O) : O := (aIdxA l s x i).bind K
def pExtract (x : AV) (i : Nat) (K : AV → O) : O := match x with
  | .tup vs => (vs[i]?).bind K
  | _ => none
def pCall (call : Nat → List AV → AH → O) (f : Nat) (xs : List AV) (h : AH) (K : AV → AH → O) : O := (call f xs h).bind fun p => K p.1 p.2
def pCallI (call : Nat → List AV → AH → O) (k : IntKind) (f : Nat) (xs : List AV) (h : AH) (K : Int → AH → O) : O := (call f xs h).bind fun p => asK k p.1 fun n => K n p.2
def pCallB (call : Nat → List AV → AH → O) (f : Nat) (xs : List AV) (h : AH) (K : Bool → AH → O) : O := (call f xs h).bind fun p => asB p.1 fun b => K b p.2
def pFun (f : AV) (K : Nat → List AV → O) : O := match f with
  | .fn f cs => K f cs
  | _ => none
def pLen (x : AV) (K : Nat → O) : O := (slen x).bind K
def pApp (h : AH) (s b : Nat) (x y : AV) (K : AV → AH → O) : O := (aApp h s b x y).bind fun p => K p.1 p.2
def pClear (h : AH) (s : Nat) (z : List AV) (x : AV) (K : AH → O) : O := (aClear h s z x).bind K
def pShift (o : ABin) (k : IntKind) (a b : Int) (K : Int → O) : O :=
  if b < 0 then none else match o with
    | .shl => K (k.wrap (a * 2 ^ (min b.toNat k.bits)))
    | _ => K (a.fdiv (2 ^ (min b.toNat k.bits)))
def pBin (o : ABin) (k k' : IntKind) (a b : Int) (K : AV → O) : O :=
  match o with
  | .add => bif kEq k k' then K (.int k (k.wrap (a + b))) else none
  | .sub => bif kEq k k' then K (.int k (k.wrap (a - b))) else none
  | .mul => bif kEq k k' then K (.int k (k.wrap (a * b))) else none
  | .quo => bif kEq k k' then if b = 0 then none else K (.int k (k.wrap (a.tdiv b))) else none
  | .rem => bif kEq k k' then if b = 0 then none else K (.int k (a.tmod b)) else none
  | .eql => bif kEq k k' then K (.bool (a == b)) else none
  | .neq => bif kEq k k' then K (.bool (a != b)) else none
  | .lss => bif kEq k k' then K (.bool (decide (a < b))) else none
  | .leq => bif kEq k k' then K (.bool (decide (a ≤ b))) else none
  | .gtr => bif kEq k k' then K (.bool (decide (a > b))) else none
  | .geq => bif kEq k k' then K (.bool (decide (a ≥ b))) else none
  | .shl => pShift .shl k a b fun n => K (.int k n)
  | .shr => pShift .shr k a b fun n => K (.int k n)
  | .and => bif kEq k k' then K (.int k (aBits .and k a b)) else none
  | .or => bif kEq k k' then K (.int k (aBits .or k a b)) else none
  | .xor => bif kEq k k' then K (.int k (aBits .xor k a b)) else none
  | .andNot => bif kEq k k' then K (.int k (aBits .andNot k a b)) else none

noncomputable abbrev optI (fr : Fr) (x : Option AO) (K : Option Int → O) : O := match x with
  | none => K none
  | some x => asI (ev fr x) fun _ n => K (some n)
noncomputable abbrev partsOf (fr : Fr) (l : List (Nat × Nat × AO)) : List (Nat × Nat × AV) := List.rec (motive := fun _ => List (Nat × Nat × AV)) [] (fun p _ ih => (p.1, p.2.1, ev fr p.2.2) :: ih) l
noncomputable def aop (call : Nat → List AV → AH → O) (sh : ASh) (op : AOp) (fr : Fr) (h : AH) (K : AV → AH → O) : O :=
  match op with
  | .move x => K (ev fr x) h
  | .pick c a b => asB (ev fr c) fun t => bif t then K (ev fr a) h else K (ev fr b) h
  | .new cs => pNew h cs fun b h' => K (.ptr b 0) h'
  | .box x => pCells (ev fr x) fun cs => pNew h cs fun b h' => K (.ptr b 0) h'
  | .build z ps => pFill z (partsOf fr ps) fun cs => K (.agg cs) h
  | .buildS n s z ps => pFill z (partsOf fr ps) fun cs => pNew h cs fun b h' => K (.sl b 0 n s) h'
  | .load n p => pLd h n (ev fr p) fun v => asSh sh v fun v => K v h
  | .store n p x => pSt h n (ev fr p) (ev fr x) fun h' => K .junk h'
  | .nilck x => pNil (ev fr x) fun v => K v h
  | .bin o x y => asI (ev fr x) fun k a => asI (ev fr y) fun k' b => pBin o k k' a b fun v => K v h
  | .eqa ng x y => pEq (ev fr x) (ev fr y) fun t => K (.bool (t != ng)) h
  | .eqb ng x y => asB (ev fr x) fun a => asB (ev fr y) fun b => K (.bool ((a == b) != ng)) h
  | .isnil ng x => pIsNil (ev fr x) fun t => K (.bool (t != ng)) h
  | .not x => asB (ev fr x) fun t => K (.bool (!t)) h
  | .neg x => asI (ev fr x) fun k n => K (.int k (k.wrap (0 - n))) h
  | .conv k x => asI (ev fr x) fun _ n => K (.int k (k.wrap n)) h
  | .mkfn f cs => K (.fn f (evs fr cs)) h
  | .mkS s b z n => asI (ev fr n) fun _ n => pMkS h s b z n fun v h' => K v h'
  | .slice s x lo hi => optI fr lo fun lo => optI fr hi fun hi => pSlice s (ev fr x) lo hi fun v => K v h
  | .fld o p => pFld o (ev fr p) fun v => K v h
  | .field o n x => pField o n (ev fr x) fun v => asSh sh v fun v => K v h
  | .idx s x i => asI (ev fr i) fun _ i => pIdx s (ev fr x) i fun v => K v h
  | .idxA l s x i => asI (ev fr i) fun _ i => pIdxA l s (ev fr x) i fun v => K v h
  | .extract x i => pExtract (ev fr x) i fun v => asSh sh v fun v => K v h
  | .call f xs => match sh with
    | .any => pCall call f (evs fr xs) h fun v h' => K v h'
    | .int k => pCallI call k f (evs fr xs) h fun n h' => K (.int k n) h'
    | .bool => pCallB call f (evs fr xs) h fun b h' => K (.bool b) h'
  | .callv f xs => pFun (ev fr f) fun f cs => match sh with
    | .any => pCall call f (evs fr xs ++ cs) h fun v h' => K v h'
    | .int k => pCallI call k f (evs fr xs ++ cs) h fun n h' => K (.int k n) h'
    | .bool => pCallB call f (evs fr xs ++ cs) h fun b h' => K (.bool b) h'
  | .len x => pLen (ev fr x) fun n => K (.int .i64 n) h
  | .app s b x y => pApp h s b (ev fr x) (ev fr y) fun v h' => K v h'
  | .clear s z x => pClear h s z (ev fr x) fun h' => K (.tup []) h'
  | .copy _ _ _ => none
  | .min x y => asI (ev fr x) fun k a => asI (ev fr y) fun _ b => K (.int k (if b < a then b else a)) h
  | .max x y => asI (ev fr x) fun k a => asI (ev fr y) fun _ b => K (.int k (if b > a then b else a)) h

noncomputable abbrev putO (fr : Fr) (d : Option Nat) (v : AV) : Fr := match d with
  | none => fr
  | some d => fr.put d v
noncomputable def rechk (h' : AH) (fr : Fr) : List Chk → O → O
  | [], x => x
  | c :: r, x => match c.guard with
    | none => need (aLd h' c.n (ev fr c.p) = some (fr.at c.dst)) (rechk h' fr r x)
    | some (t, want) => asB (fr.at t) fun b =>
      bif b then (bif want then need (aLd h' c.n (ev fr c.p) = some (fr.at c.dst)) (rechk h' fr r x) else rechk h' fr r x)
      else (bif want then rechk h' fr r x else need (aLd h' c.n (ev fr c.p) = some (fr.at c.dst)) (rechk h' fr r x))
noncomputable def stepG (call : Nat → List AV → AH → O) (o : AOper) (K : Fr → AH → O) (fr : Fr) (h : AH) : O :=
  aop call o.sh o.op fr h fun v h' => rechk h' fr o.chk (K (putO fr o.dst v) h')
/-- A guard is decided once: its slot holds the constant from there on. -/
noncomputable def stepO (call : Nat → List AV → AH → O) (o : AOper) (K : Fr → AH → O) (fr : Fr) (h : AH) : O :=
  match o.guard with
  | none => stepG call o K fr h
  | some (t, want) => asB (fr.at t) fun b =>
    bif b then (bif want then stepG call o K (fr.put t (.bool true)) h else K (putO (fr.put t (.bool true)) o.dst .junk) h)
    else (bif want then K (putO (fr.put t (.bool false)) o.dst .junk) h else stepG call o K (fr.put t (.bool false)) h)
noncomputable def execOps (call : Nat → List AV → AH → O) : List AOper → (Fr → AH → O) → Fr → AH → O
  | [], K, fr, h => K fr h
  | o :: r, K, fr, h => stepO call o (fun fr h => execOps call r K fr h) fr h

inductive Ex where
  | normal
  | exit (id : Nat)
  | ret

noncomputable abbrev junkF (fr : Fr) : Fr := List.rec (motive := fun _ => Fr) [] (fun _ _ ih => .junk :: ih) fr
noncomputable abbrev normGo (fr : Fr) (m : Msk) (base : Fr) (K : Fr → O) : O := List.rec (motive := fun _ => Fr → O) (fun base => K base) (fun p _ ih base => asSh p.2 (fr.at p.1) fun v => ih (base.put p.1 v)) m base
/-- Only some slots are kept, of known shapes. -/
noncomputable abbrev norm (m : Msk) (fr : Fr) (K : Fr → O) : O := normGo fr m (junkF fr) K
noncomputable abbrev normO (m : Option Msk) (fr : Fr) (K : Fr → O) : O := match m with
  | none => K fr
  | some m => norm m fr K
abbrev KX := Ex → Fr → AH → O
noncomputable abbrev seqK (m : Option Msk) (next : Fr → AH → O) (K : KX) : KX
  | .normal, fr, h => normO m fr fun fr => next fr h
  | .exit j, fr, h => K (.exit j) fr h
  | .ret, fr, h => K .ret fr h
noncomputable abbrev blockK (id : Nat) (K : KX) : KX
  | .normal, fr, h => K .normal fr h
  | .exit j, fr, h => bif Nat.beq j id then K .normal fr h else K (.exit j) fr h
  | .ret, fr, h => K .ret fr h
noncomputable abbrev loopK (m : Msk) (again : Fr → AH → O) (K : KX) : KX
  | .normal, fr, h => norm m fr fun fr => again fr h
  | .exit j, fr, h => K (.exit j) fr h
  | .ret, fr, h => K .ret fr h
noncomputable def loopE (b : KX → Fr → AH → O) (m : Msk) : Nat → KX → Fr → AH → O
  | 0, _, _, _ => none
  | n + 1, K, fr, h => b (loopK m (loopE b m n K) K) fr h
noncomputable def exec (call : Nat → List AV → AH → O) (k : Nat) : AC → KX → Fr → AH → O
  | .skip, K, fr, h => K .normal fr h
  | .reg _ ops, K, fr, h => execOps call ops (K .normal) fr h
  | .seq m a b, K, fr, h => exec call k a (seqK m (exec call k b K) K) fr h
  | .cond c a b, K, fr, h => asB (ev fr c) fun t => bif t then exec call k a K fr h else exec call k b K fr h
  | .block id a, K, fr, h => exec call k a (blockK id K) fr h
  | .loop m a, K, fr, h => norm m fr fun fr => loopE (exec call k a) m k K fr h
  | .exit id, K, fr, h => K (.exit id) fr h
  | .ret, K, fr, h => K .ret fr h

noncomputable def resOne (fr : Fr) (h : AH) : ARes → Option AV
  | .tmp t => some (fr.at t)
  | .cell t n => aLd h n (fr.at t)
noncomputable def resAll (fr : Fr) (h : AH) : List ARes → Option (List AV)
  | [] => some []
  | r :: rs => (resOne fr h r).bind fun v => (resAll fr h rs).bind fun vs => some (v :: vs)
noncomputable def resOf (rs : List ARes) (fr : Fr) (h : AH) : O :=
  match rs with
  | [.tmp t] => some (fr.at t, h)
  | [r] => (resOne fr h r).bind fun v => some (v, h)
  | rs => (resAll fr h rs).bind fun vs => some (.tup vs, h)
noncomputable def fin (rs : List ARes) : KX
  | .normal, fr, h => resOf rs fr h
  | .ret, fr, h => resOf rs fr h
  | .exit _, _, _ => none
def frame (f : AF) (args : List AV) : Fr := args ++ List.replicate (f.ntmps - args.length) .junk
noncomputable def run (T : Nat → Option AF) : Nat → Nat → List AV → AH → O
  | 0, _, _, _ => none
  | k + 1, f, args, h => match T f with
    | none => none
    | some F => norm F.params (frame F args) fun fr => exec (run T k) k F.body (fin F.res) fr h
end Go.AM
