/-
  Operations that only read: what they come to.
-/
import Derived.Test.YtgfkepebfaiepaaGreatDoorBxB
namespace Go.Proofs.YtgfkepebfaiepaaGreatDoor.Ax
open Go.RowKit
def opd (e : Env) : Operand → AV
 | .tmp t => e.get t
 | .const (.string s) => .iv (.str s.data.toList)
 | .const v => .iv (.v v)
 | .global g => match gfind globs g with
   | some cs => .iv (.pp cs)
   | none => .iv (.v (.pointer (some ⟨g, 0, none⟩)))
 | .func f => .iv (.v (.func (.func f) #[] #[]))
inductive Cnd where
 | le (a b : Int)
 | lt (a b : Int)
 | nle (a b : Nat)
 | nlt (a b : Nat)
@[reducible] def Cnd.P : Cnd → Prop
  | .le a b => a ≤ b
  | .lt a b => a < b
  | .nle a b => a ≤ b
  | .nlt a b => a < b
inductive ROut where
 | no
 | one (cs : List Cnd) (v : AV)
 | opt (o : Option AV) (s : AV → AV) (n : AV)
noncomputable def ands (cs : List Cnd) (q : Prop) : Prop := List.rec q (fun c _ ih => match c with
 | .le a b => a ≤ b ∧ ih
 | .lt a b => a < b ∧ ih
 | .nle a b => a ≤ b ∧ ih
 | .nlt a b => a < b ∧ ih) cs
theorem ands_nil (q : Prop) : ands [] q = q := rfl
theorem ands_cons (c : Cnd) (cs : List Cnd) (q : Prop) : ands (c :: cs) q = (c.P ∧ ands cs q) := by cases c <;> rfl
def ROut.K : ROut → (AV → Prop) → Prop
 | .no, _ => False
 | .one cs v, K => ands cs (K v)
 | .opt o s n, K => (∀ x, o = some x → K (s x)) ∧ (o = none → K n)
def inK : IntKind → Int → List Cnd
 | .i8, n => [.le (-128) n, .le n 127]
 | .i16, n => [.le (-32768) n, .le n 32767]
 | .i32, n => [.le (-2147483648) n, .le n 2147483647]
 | .i64, n => [.le (-9223372036854775808) n, .le n 9223372036854775807]
 | .u8, n => [.le 0 n, .le n 255]
 | .u16, n => [.le 0 n, .le n 65535]
 | .u32, n => [.le 0 n, .le n 4294967295]
 | .u64, n => [.le 0 n, .le n 18446744073709551615]
def wrK : IntKind → Int → Int
 | .u8, n => n % 256
 | .u16, n => n % 65536
 | .u32, n => n % 4294967296
 | .u64, n => n % 18446744073709551616
 | k, n => k.wrap n
def arK (wr : Bool) (k : IntKind) (n : Int) : ROut := bif wr then .one [] (.int k (wrK k n)) else .one (inK k n) (.int k n)
def bitK (op : BinOp) (k : IntKind) (x y : Int) : Int :=
 k.wrap (match op with
  | .and => (BitVec.ofInt k.bits x &&& BitVec.ofInt k.bits y).toNat
  | .or => (BitVec.ofInt k.bits x ||| BitVec.ofInt k.bits y).toNat
  | .xor => (BitVec.ofInt k.bits x ^^^ BitVec.ofInt k.bits y).toNat
  | _ => (BitVec.ofInt k.bits x &&& ~~~ BitVec.ofInt k.bits y).toNat : Nat)
def bInt (wr : Bool) (op : BinOp) (k : IntKind) (a b : Int) : ROut :=
 match op with
 | .add => arK wr k (a + b)
 | .sub => arK wr k (a - b)
 | .mul => arK wr k (a * b)
 | .quo => .one (.le 0 a :: .lt 0 b :: inK k (a / b)) (.int k (a / b))
 | .rem => .one [.le 0 a, .lt 0 b] (.int k (a % b))
 | .and => .one [] (.int k (bitK .and k a b))
 | .or => .one [] (.int k (bitK .or k a b))
 | .xor => .one [] (.int k (bitK .xor k a b))
 | .andNot => .one [] (.int k (bitK .andNot k a b))
 | .eql => .one [] (.bool (decide (a = b)))
 | .neq => .one [] (.bool (decide (a ≠ b)))
 | .lss => .one [] (.bool (decide (a < b)))
 | .leq => .one [] (.bool (decide (a ≤ b)))
 | .gtr => .one [] (.bool (decide (a > b)))
 | .geq => .one [] (.bool (decide (a ≥ b)))
 | .shl | .shr => .no
def bShift (op : BinOp) (k : IntKind) (a y : Int) : ROut :=
 match op with
 | .shl => .one [.le 0 y] (.int k (wrK k (a * 2 ^ (min y.toNat k.bits))))
 | .shr => .one [.le 0 y] (.int k (a / 2 ^ (min y.toNat k.bits)))
 | _ => .no
def bStr (op : BinOp) (a b : List UInt8) : ROut :=
 match op with
 | .add => .one [.le ((a.length + b.length : Nat) : Int) 9223372036854775807] (.str (a ++ b))
 | .eql => .one [] (.bool (decide (a = b)))
 | .neq => .one [] (.bool (decide (a ≠ b)))
 | .lss => .one [] (.bool (Op.bytesLess a b))
 | .leq => .one [] (.bool (Op.bytesLess a b || decide (a = b)))
 | .gtr => .one [] (.bool (!(Op.bytesLess a b || decide (a = b))))
 | .geq => .one [] (.bool (!Op.bytesLess a b))
 | _ => .no
def nilness : AV → Option Bool
 | .iv (.v (.pointer none)) | .iv (.v (.slice none _ _)) | .iv (.v (.map none)) | .iv (.v .nilIface) | .iv (.v .nilFunc) => some true
 | .ptr .. | .el .. | .mp .. | .iv (.pp _) | .pp _ | .ifc .. | .iv (.ifc ..) | .fnc .. | .iv (.fnc ..) => some false
 | .iv (.v (.func ..)) => some false
 | _ => none
def TK.hasNil : TK → AV → Bool
 | .ptr _, .ptr .. | .ptr _, .el .. | .ptr _, .iv (.pp _) | .ptr _, .pp _ | .ptr _, .iv (.v (.pointer none)) | .mp .., .mp .. | .mp .., .iv (.v (.map none)) | .sl _, .iv (.v (.slice none _ _)) => true
 | .ifc, .iv (.v .nilIface) | .ifc, .ifc .. | .ifc, .iv (.ifc ..) => true
 | _, _ => false
def isNilC : AV → Bool
 | .iv (.v (.pointer none)) | .iv (.v (.slice none _ _)) | .iv (.v (.map none)) => true
 | _ => false
def isSlU : AV → Bool
 | .iv (.bs _) | .iv (.sl ..) | .sl .. | .row .. => true
 | _ => false
def nilU (x : AV) (b : Bool) : AV := match x with
 | .iv (.bs l) => match l with
   | [] => .anyb
   | _ :: _ => .bool b
 | .iv (.sl _ n _) => match n with
   | 0 => .anyb
   | _ + 1 => .bool b
 | .row _ _ _ n => match n with
   | 0 => .anyb
   | _ + 1 => .bool b
 | .sl _ n _ => match n with
   | 0 => .anyb
   | _ + 1 => .bool b
 | _ => .anyb
def isNilS : AV → Bool
 | .iv (.v (.slice none _ _)) => true
 | _ => false
def TK.isSl : TK → Bool
 | .sl _ => true
 | _ => false
def pick1 : List AV → Option AV
 | x :: _ => some x
 | [] => none
def partA (T : TT) (t : TypeId) (cs : List AV) (off : Nat) : Option AV :=
 match T.get t with
 | some d => bif d.isAgg then (bif Nat.ble (off + d.size) cs.length then some (.agg ((cs.drop off).take d.size)) else none) else pick1 (cs.drop off)
 | none => none
def aggCells : AV → Option (List AV)
 | .agg cs => some cs
 | .iv (.agg cs) => some (cs.map .iv)
 | .iv (.v (.agg vs)) => some (vs.toList.map fun x => .iv (.v x))
 | _ => none
def eqOne (T : TT) (t : Nat) (x y : AV) : Option Bool :=
 match T.get t with
 | some d => match d.k, x, y with
   | .int _, .iv (.v (.int k a)), .iv (.v (.int k' b)) => if k = k' then some (decide (a = b)) else none
   | .str, .iv (.str a), .iv (.str b) => some (decide (a = b))
   | .bool, .iv (.v (.bool a)), .iv (.v (.bool b)) => some (decide (a = b))
   | _, _, _ => none
 | none => none
def eqFs (T : TT) (xs ys : List AV) : List (Nat × Nat) → Option Bool
 | [] => some true
 | f :: fs => match partA T f.2 xs f.1, partA T f.2 ys f.1 with
   | some a, some b => match eqOne T f.2 a b, eqFs T xs ys fs with
     | some p, some q => some (p && q)
     | _, _ => none
   | _, _ => none
def intsOf (k : IntKind) : List AV → Option (List Int)
 | [] => some []
 | .iv (.v (.int k' n)) :: t => if k' = k then (intsOf k t).map (n :: ·) else none
 | _ :: _ => none
def bArr (T : TT) (op : BinOp) (n e : Nat) (xs ys : List AV) : ROut :=
 match T.get e with
 | some de => match de.k with
   | .int k => match intsOf k xs, intsOf k ys with
     | some as, some bs => bif Nat.beq as.length n && Nat.beq bs.length n && Nat.beq de.size 1 then
        match op with
        | .eql => .one [] (.bool (decide (as = bs)))
        | .neq => .one [] (.bool (!decide (as = bs)))
        | _ => .no
       else .no
     | _, _ => .no
   | _ => .no
 | none => .no
def bAgg (T : TT) (op : BinOp) (t : TypeId) (xs ys : List AV) : ROut :=
 match T.get t with
 | some d => match d.k with
   | .st fs => bif d.eq then
      match eqFs T xs ys fs with
      | some b => match op with
        | .eql => .one [] (.bool b)
        | .neq => .one [] (.bool (!b))
        | _ => .no
      | none => .no
     else .no
   | .arr n e => bif d.eq then bArr T op n e xs ys else .no
   | _ => .no
 | none => .no
def bNil (T : TT) (op : BinOp) (t : TypeId) (x y : AV) : ROut :=
 match T.get t, nilness x, nilness y with
 | some d, some a, some b =>
   bif d.k.hasNil x && d.k.hasNil y && (isNilC x || isNilC y) then
    match op with
    | .eql => .one [] (.bool (a && b))
    | .neq => .one [] (.bool (!(a && b)))
    | _ => .no
   else .no
 | some d, none, some _ => bif d.k.isSl && (isSlU x && isNilS y) then
    match op with
    | .eql => .one [] (nilU x false)
    | .neq => .one [] (nilU x true)
    | _ => .no
   else .no
 | _, _, _ => .no
def bop (T : TT) (wr : Bool) (op : BinOp) (t : TypeId) (x y : AV) : ROut :=
 match x, y with
 | .iv (.v (.int k a)), .iv (.v (.int k' b)) =>
   match op with
   | .shl => bShift .shl k a b
   | .shr => bShift .shr k a b
   | op => if k = k' then bInt wr op k a b else .no
 | .iv (.str a), .iv (.str b) => bStr op a b
 | .iv (.v (.bool a)), .iv (.v (.bool b)) => match T.get t with
   | some d => match d.k, op with
     | .bool, .eql => .one [] (.bool (decide (a = b)))
     | .bool, .neq => .one [] (.bool (decide (a ≠ b)))
     | _, _ => .no
   | none => .no
 | x, y => match aggCells x, aggCells y with
   | some xs, some ys => bAgg T op t xs ys
   | _, _ => bNil T op t x y
def narrow : IntKind → Bool
 | .u8 | .u16 | .u32 => true
 | _ => false
def cvInt (wr : Bool) (k : IntKind) (n : Int) : ROut := bif narrow k then .one [] (.int k (wrK k n)) else arK wr k n
def AH.bytes (H : AH) : AV → Option (List UInt8)
 | .iv (.bs l) => some l
 | .iv (.v (.slice none 0 0)) => some []
 | .row h 1 off len => match H.get h with
   | some (.brow _ l) => some ((l.drop off).take len)
   | _ => none
 | _ => none
def AH.bytesOk (H : AH) : AV → List Cnd
 | .row h 1 off len => match H.get h with
   | some (.brow _ l) => [.nle (off + len) l.length]
   | _ => []
 | _ => []
def isU8 (T : TT) (ts : TD) : Bool :=
 match ts.k with
 | .sl e => match T.get e with
   | some te => match te.k with
     | .int .u8 => true
     | _ => false
   | none => false
 | _ => false
def copB (T : TT) (H : AH) (ts : TD) (x : AV) : ROut :=
 bif isU8 T ts then
  match H.bytes x with
  | some l => .one (H.bytesOk x) (.str l)
  | none => .no
 else .no
def cop (T : TT) (wr : Bool) (H : AH) (s d : TypeId) (x : AV) : ROut :=
 match T.get s, T.get d with
 | some ts, some td =>
   match td.k, x with
   | .int k, .iv (.v (.int _ n)) => cvInt wr k n
   | .str, .iv (.str l) => .one [] (.str l)
   | .str, x => copB T H ts x
   | _, _ => .no
 | _, _ => .no
def AV.cells : AV → Option (List AV)
 | .agg cs => some cs
 | .iv (.agg cs) => some (cs.map .iv)
 | .iv (.v (.agg vs)) => some (vs.toList.map fun x => .iv (.v x))
 | .tup _ | .junk => none
 | .iv (.v (.tuple _)) => none
 | x => some [x]
def IV.one : IV → Bool
 | .v x => x.oneCell'
 | .agg _ => false
 | _ => true
def AV.one : AV → Bool
 | .iv x => x.one
 | .agg _ | .tup _ | .junk => false
 | _ => true
def oneOf (v : Option AV) : ROut := match v with | some x => .one [] x | none => .no
def fieldOf (T : TT) (t : TypeId) (f : Nat) : Option (Nat × Nat) :=
 match T.get t with
 | some d => match d.k with
   | .st fs => fs[f]?
   | _ => none
 | none => none
def fieldA (T : TT) (t : TypeId) (f : Nat) (x : AV) : ROut :=
 match fieldOf T t f with
 | some (off, ft) => match T.get ft with
   | some d => bif Nat.beq d.size 0 then .no else
     match x with
     | .ptr h o => .one [] (.ptr h (o + off))
     | .el h sz i fo => .one [] (.el h sz i (fo + off))
     | .iv (.pp cs) => .one [] (.iv (.pp (cs.drop off)))
     | .pp cs => .one [] (.pp (cs.drop off))
     | _ => .no
   | none => .no
 | none => .no
def elemOfT (T : TT) (t : TypeId) : Option (Nat × TD) :=
 match T.get t with
 | some d => match d.k with
   | .sl e => (T.get e).map fun d => (e, d)
   | _ => none
 | none => none
def arrOfT (T : TT) (t : TypeId) : Option (Nat × TD) :=
 match T.get t with
 | some d => match d.k with
   | .arr n e => (T.get e).map fun d => (n, d)
   | _ => none
 | none => none
def indexArr (T : TT) (t : TypeId) (x : AV) (n : Int) : ROut :=
 match arrOfT T t with
 | some (len, d) => bif Nat.beq d.size 0 then .no else match x with
   | .ptr h o => .one [.le 0 n, .lt n len] (.ptr h (o + n.toNat * d.size))
   | .iv (.pp cs) => .one [.le 0 n, .lt n len] (.iv (.pp ((cs.drop (n.toNat * d.size)).take d.size)))
   | .pp cs => .one [.le 0 n, .lt n len] (.pp ((cs.drop (n.toNat * d.size)).take d.size))
   | _ => .no
 | none => .no
def indexA (T : TT) (t : TypeId) (x i : AV) : ROut :=
 match elemOfT T t, i with
 | some (_, d), .iv (.v (.int _ n)) =>
   match x with
   | .row h sz off len => bif Nat.beq sz d.size then .one [.le 0 n, .lt n len] (.el h sz (off + n.toNat) 0) else .no
   | .iv (.sl sz len f) => bif Nat.beq sz d.size then .one [.le 0 n, .lt n len] (.iv (.pp (f n.toNat))) else .no
   | .sl sz len f => bif Nat.beq sz d.size then .one [.le 0 n, .lt n len] (.pp (f n.toNat)) else .no
   | .iv (.bs l) => bif Nat.beq d.size 1 then .one [.le 0 n, .lt n l.length] (.iv (.pp [byteI (l.getD n.toNat 0)])) else .no
   | _ => .no
 | none, .iv (.v (.int _ n)) => indexArr T t x n
 | _, _ => .no
def indexV (T : TT) (t : TypeId) (x i : AV) : ROut :=
 match T.get t, x, i with
 | some d, .iv (.str l), .iv (.v (.int _ n)) => match d.k with
   | .str => .one [.le 0 n, .lt n l.length] (.int .u8 ((l.getD n.toNat 0).toNat : Int))
   | _ => .no
 | some _, x, .iv (.v (.int _ n)) => match arrOfT T t, aggCells x with
   | some (m, d), some cs => match pick1 (cs.drop n.toNat) with
     | some v => bif Nat.beq d.size 1 && !d.isAgg then .one [.le 0 n, .lt n m] v else .no
     | none => .no
   | _, _ => .no
 | _, _, _ => .no
def bytesOf : List IV → Option (List Cnd × List UInt8)
 | [] => some ([], [])
 | .v (.int .u8 (.ofNat n)) :: t => (bytesOf t).map fun p => (.nle n 255 :: p.1, UInt8.ofNat n :: p.2)
 | _ :: _ => none
def idxs : Nat → List Nat
 | 0 => []
 | n + 1 => idxs n ++ [n]
def s2aA (T : TT) (t : TypeId) (x : AV) : ROut :=
 match arrOfT T t, x with
 | some (n, d), .iv (.bs l) => bif Nat.beq d.size 1 && Nat.ble 1 n then .one [.nle n l.length] (.iv (.pp ((idxs n).map fun k => byteI (l.getD k 0)))) else .no
 | _, _ => .no
def optInt (g : Operand → AV) (d : Int) : Option Operand → Option Int
 | none => some d
 | some x => match g x with
   | .iv (.v (.int _ n)) => some n
   | _ => none
def sliceA (T : TT) (g : Operand → AV) (t : TypeId) (x : AV) (lo hi mx : Option Operand) : ROut :=
 match T.get t with
 | some d =>
   match d.k, x with
   | .str, .iv (.str l) => match optInt g 0 lo, optInt g l.length hi, mx with
     | some a, some b, none => .one [.le 0 a, .le a b, .le b l.length] (.str ((l.drop a.toNat).take (b.toNat - a.toNat)))
     | _, _, _ => .no
   | .sl e, x => match (T.get e).map (·.size) with
     | some s =>
       match x with
       | .row h sz off len => match optInt g 0 lo, optInt g len hi, optInt g len mx with
         | some a, some b, some c => bif Nat.beq sz s then .one [.le 0 a, .le a b, .le b c, .le c len] (.row h sz (off + a.toNat) (b.toNat - a.toNat)) else .no
         | _, _, _ => .no
       | .iv (.sl sz len f) => match optInt g 0 lo, optInt g len hi, optInt g len mx with
         | some a, some b, some c => bif Nat.beq sz s then .one [.le 0 a, .le a b, .le b c, .le c len] (.iv (.sl sz (b.toNat - a.toNat) (fun i => f (a.toNat + i)))) else .no
         | _, _, _ => .no
       | .sl sz len f => match optInt g 0 lo, optInt g len hi, optInt g len mx with
         | some a, some b, some c => bif Nat.beq sz s then .one [.le 0 a, .le a b, .le b c, .le c len] (.sl sz (b.toNat - a.toNat) (fun i => f (a.toNat + i))) else .no
         | _, _, _ => .no
       | .iv (.bs l) => match optInt g 0 lo, optInt g l.length hi, optInt g l.length mx with
         | some a, some b, some c => bif Nat.beq 1 s then .one [.le 0 a, .le a b, .le b c, .le c l.length] (.iv (.bs ((l.drop a.toNat).take (b.toNat - a.toNat)))) else .no
         | _, _, _ => .no
       | _ => .no
     | none => .no
   | .arr n e, .iv (.pp cs) => match optInt g 0 lo, optInt g n hi, mx with
     | some (.ofNat a), some (.ofNat b), none => match bytesOf ((cs.drop a).take (b - a)), T.get e with
       | some (c, l), some de => bif Nat.ble a b && Nat.ble b n && Nat.ble n cs.length && Nat.ble n 140737488355328 && Nat.beq de.size 1 then .one c (.iv (.bs l)) else .no
       | _, _ => .no
     | _, _, _ => .no
   | _, _ => .no
 | none => .no
def layA (cs : List AV) (off : Nat) : List AV → List AV
 | [] => cs
 | x :: xs => layA (cs.set off x) (off + 1) xs
def fillA (place : Nat → Option (Nat × Nat)) (cs : List AV) : List (Nat × AV) → Option (List AV)
 | [] => some cs
 | (i, v) :: rest => match place i, v.cells with
  | some (off, size), some vs => bif Nat.beq vs.length size && Nat.ble (off + vs.length) cs.length then fillA place (layA cs off vs) rest else none
  | _, _ => none
def zeroA (d : TD) : Option (List AV) :=
 match d.zero with
 | some z => some (z.cells.toList.map fun x => .iv (.v x))
 | none => none
def placesA (T : TT) : List (Nat × Nat) → Option (List (Nat × Nat))
 | [] => some []
 | f :: fs => match T.get f.2, placesA T fs with
   | some d, some r => some ((f.1, d.size) :: r)
   | _, _ => none
def buildA (T : TT) (t : TypeId) (parts : List (Nat × AV)) : ROut :=
 match T.get t with
 | some d => match d.k, zeroA d with
   | .st fs, some z => match placesA T fs with
     | some pl => match fillA (fun i => pl[i]?) z parts with
       | some cs => .one [] (.agg cs)
       | none => .no
     | none => .no
   | .arr _ e, some z => match T.get e with
     | some de => match fillA (fun i => some (i * de.size, de.size)) z parts with
       | some cs => .one [] (.agg cs)
       | none => .no
     | none => .no
   | _, _ => .no
 | none => .no
def ptrCells (H : AH) : AV → Option (List Cnd × List AV)
 | .ptr h off => match H.get h with
   | some (.cells _ cs) => some ([], cs.drop off)
   | some (.icells cs) => some ([], (cs.drop off).map AV.iv)
   | _ => none
 | .el h sz i fo => match H.get h with
   | some (.rowc _ sz' n f) => bif Nat.beq sz sz' then some ([.nlt i n], ((f i).map AV.iv).drop fo) else none
   | some (.brow _ l) => bif Nat.beq sz 1 && Nat.beq fo 0 then some ([.nlt i l.length], [.iv (byteI (l.getD i 0))]) else none
   | some (.cells _ cs) => some ([], cs.drop (i * sz + fo))
   | _ => none
 | .iv (.pp cs) => some ([], cs.map AV.iv)
 | .pp cs => some ([], cs)
 | _ => none
def loadA (T : TT) (H : AH) (t : TypeId) (x : AV) : ROut :=
 match ptrCells H x with
 | some (c, cs) => match partA T t cs 0 with
   | some v => .one c v
   | none => .no
 | none => .no
def keyA : AV → Option MK
 | .iv (.str l) => some (.s l)
 | .iv (.v (.int k n)) => some (.i k n)
 | _ => none
def mfind {X : Type} (m : List (MK × X)) (k : MK) : Option X := (m.find? fun p => decide (p.1 = k)).map (·.2)
def TK.key : TK → Option (Option IntKind)
 | .str => some none
 | .int k => some (some k)
 | _ => none
def lookA (T : TT) (H : AH) (t : TypeId) (x k : AV) (ok : Bool) : ROut :=
 match T.get t with
 | some d => match d.k with
   | .mp kt et => match keyA k, (T.get kt).bind (·.k.key), (T.get et).bind (·.zero) with
     | some key, some kk, some z =>
       if key.kind = kk then
        match x with
        | .mp h => match H.get h with
          | some (.map kk' m) => if kk' = kk then (bif ok then .opt ((mfind m key).map AV.iv) (fun v => .tup [v, .bool true]) (.tup [.iv (.v z), .bool false]) else .opt ((mfind m key).map AV.iv) (fun v => v) (.iv (.v z))) else .no
          | some (.mapit kk' m _ _ _) => if kk' = kk then (bif ok then .opt ((mfind m key).map AV.iv) (fun v => .tup [v, .bool true]) (.tup [.iv (.v z), .bool false]) else .opt ((mfind m key).map AV.iv) (fun v => v) (.iv (.v z))) else .no
          | some (.gmap _ kk' m _ _) => if kk' = kk then (bif ok then .opt ((mfind m key).map AV.iv) (fun v => .tup [v, .bool true]) (.tup [.iv (.v z), .bool false]) else .opt ((mfind m key).map AV.iv) (fun v => v) (.iv (.v z))) else .no
          | some (.maph kk' m) => if kk' = kk then (bif ok then .opt (mfind m key) (fun v => .tup [v, .bool true]) (.tup [.iv (.v z), .bool false]) else .opt (mfind m key) (fun v => v) (.iv (.v z))) else .no
          | _ => .no
        | .iv (.v (.map none)) => bif ok then .one [] (.tup [.iv (.v z), .bool false]) else .one [] (.iv (.v z))
        | _ => .no
       else .no
     | _, _, _ => .no
   | _ => .no
 | none => .no
def lenA (T : TT) (H : AH) (t : TypeId) (x : AV) : ROut :=
 match T.get t with
 | some d => match d.k, x with
   | .str, .iv (.str l) => .one [] (.int .i64 l.length)
   | .sl _, .iv (.bs l) => .one [] (.int .i64 l.length)
   | .sl _, .iv (.sl _ n _) => .one [] (.int .i64 n)
   | .sl _, .sl _ n _ => .one [] (.int .i64 n)
   | .sl _, .row _ _ _ n => .one [] (.int .i64 n)
   | .sl _, .iv (.v (.slice _ n _)) => .one [] (.int .i64 n)
   | .mp .., .mp h => match H.get h with
     | some (.map _ m) => .one [] (.int .i64 m.length)
     | some (.mapit _ m _ _ _) => .one [] (.int .i64 m.length)
     | some (.maph _ m) => .one [] (.int .i64 m.length)
     | _ => .no
   | .mp .., .iv (.v (.map none)) => .one [] (.int .i64 0)
   | _, _ => .no
 | none => .no
def minA : AV → AV → ROut
 | .iv (.v (.int k a)), .iv (.v (.int k' b)) => if k = k' then .one [] (.int k (min a b)) else .no
 | _, _ => .no
def maxA : AV → AV → ROut
 | .iv (.v (.int k a)), .iv (.v (.int k' b)) => if k = k' then .one [] (.int k (max a b)) else .no
 | _, _ => .no
def builtinA (T : TT) (g : Operand → AV) (H : AH) (b : Builtin) (ts : List TypeId) (args : List Operand) : ROut :=
 match b, ts, args with
 | .len, t :: _, x :: _ => lenA T H t (g x)
 | .min, _, [x, y] => minA (g x) (g y)
 | .max, _, [x, y] => maxA (g x) (g y)
 | _, _, _ => .no
def ifcA (T : TT) (t : TypeId) (x : AV) : ROut :=
 match T.get t with
 | some d => match d.k, x with
   | .ifc, _ => .no
   | _, .iv x => .one [] (.iv (.ifc t x))
   | _, x => .one [] (.ifc t x)
 | none => .no
def assertA (T : TT) (t : TypeId) (ok : Bool) (x : AV) : ROut :=
 match T.get t with
 | some d => match d.k with
   | .ifc => .no
   | _ =>
     match x with
     | .ifc u y => bif Nat.beq u t then (bif ok then .one [] (.tup [y, .bool true]) else .one [] y) else (bif ok then (match d.zero with | some z => .one [] (.tup [.iv (.v z), .bool false]) | none => .no) else .no)
     | .iv (.ifc u y) => bif Nat.beq u t then (bif ok then .one [] (.tup [.iv y, .bool true]) else .one [] (.iv y)) else (bif ok then (match d.zero with | some z => .one [] (.tup [.iv (.v z), .bool false]) | none => .no) else .no)
     | .iv (.v .nilIface) => bif ok then (match d.zero with | some z => .one [] (.tup [.iv (.v z), .bool false]) | none => .no) else .no
     | _ => .no
 | none => .no
def nilA (x : AV) : ROut :=
 match x with
 | .fnc (.method n) [.ifc t y] c => match mget meths t n with
   | some _ => .one [] (.fnc (.method n) [.ifc t y] c)
   | none => .no
 | .iv (.fnc (.method n) [.ifc t y] c) => match mget meths t n with
   | some _ => .one [] (.iv (.fnc (.method n) [.ifc t y] c))
   | none => .no
 | .ptr .. | .el .. | .iv (.pp _) | .pp _ | .fnc (.func _) .. | .iv (.fnc (.func _) ..) | .iv (.v (.func (.func _) ..)) | .iv (.v (.pointer (some _))) => .one [] x
 | _ => .no
def AV.toIV : AV → Option IV
 | .iv x => some x
 | _ => none
def toIVs : List AV → Option (List IV)
 | [] => some []
 | x :: xs => match x.toIV, toIVs xs with
   | some y, some ys => some (y :: ys)
   | _, _ => none
def AV.toIV2 : AV → Option IV
 | .iv x => some x
 | .agg cs => (toIVs cs).map IV.agg
 | _ => none
def fncA (fn : Fn) (a c : List AV) : AV := match toIVs a, toIVs c with
 | some a, some c => .iv (.fnc fn a c)
 | _, _ => .fnc fn a c
def nilB (op : BinOp) (b : Bool) : ROut := match op with
 | .eql => .one [] (.bool b)
 | .neq => .one [] (.bool (!b))
 | _ => .no
def ifcNil (T : TT) (op : BinOp) (t : TypeId) (x : AV) : ROut := match T.get t with
 | some d => match d.k, x with
   | .ifc, .iv (.v .nilIface) => nilB op true
   | .ifc, .iv (.v (.iface ..)) => nilB op false
   | .ifc, .ifc .. => nilB op false
   | .ifc, .iv (.ifc ..) => nilB op false
   | _, _ => .no
 | none => .no
def binA (T : TT) (wr : Bool) (op : BinOp) (t : TypeId) (g : Operand → AV) (x y : Operand) : ROut := match y, g y with
 | .const .nilIface, .iv (.v .nilIface) => ifcNil T op t (g x)
 | _, _ => bop T wr op t (g x) (g y)
def rop (T : TT) (wr : Bool) (g : Operand → AV) (H : AH) : Op → ROut
 | .move x | .assign x => .one [] (g x)
 | .pick c x y => match g c with
   | .iv (.v (.bool b)) => .one [] (bif b then g x else g y)
   | _ => .no
 | .nilCheck x => nilA (g x)
 | .unOp .not _ x => match g x with
   | .iv (.v (.bool b)) => .one [] (.bool (!b))
   | .anyb => .one [] .anyb
   | _ => .no
 | .unOp .neg _ x => match g x with
   | .iv (.v (.int k n)) => arK wr k (0 - n)
   | _ => .no
 | .unOp .xor _ x => match g x with
   | .iv (.v (.int k n)) => .one [] (.int k (bitK .xor k (if k.signed then -1 else k.max) n))
   | _ => .no
 | .binOp op t x y _ => binA T wr op t g x y
 | .convert s d x => cop T wr H s d (g x)
 | .makeInterface t x => ifcA T t (g x)
 | .makeFunc fn f c => .one [] (fncA fn (f.toList.map g) (c.toList.map g))
 | .extract t i => match g t with
   | .tup l => oneOf l[i]?
   | _ => .no
 | .field t x f => match fieldOf T t f, (g x).cells with
   | some (off, ft), some cs => match g x with
     | .agg _ | .iv (.agg _) | .iv (.v (.agg _)) => oneOf (partA T ft cs off)
     | _ => .no
   | _, _ => .no
 | .fieldAddr t x f => fieldA T t f (g x)
 | .indexAddr t x i => indexA T t (g x) (g i)
 | .index t x i => indexV T t (g x) (g i)
 | .slice t x lo hi mx => bif mx.isSome && !hi.isSome then .no else sliceA T g t (g x) lo hi mx
 | .sliceToArrayPointer t x => s2aA T t (g x)
 | .build t ps => buildA T t (ps.toList.map fun p => (p.1, g p.2))
 | .load t a => loadA T H t (g a)
 | .lookup t m k ok => lookA T H t (g m) (g k) ok
 | .typeAssert x _ t ok => assertA T t ok (g x)
 | .call c => match c.callee with
   | .builtin b => builtinA T g H b c.argTypes.toList c.args.toList
   | _ => .no
 | _ => .no
end Go.Proofs.YtgfkepebfaiepaaGreatDoor.Ax
