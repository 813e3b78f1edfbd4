/-
  Closed runs: memory, operations.
-/
import Derived.Test.YtjhaikcokbmdbaaGreatDoorCxGl
namespace Go.Proofs.YtjhaikcokbmdbaaGreatDoor.Cx
open Go.RowKit Go.Proofs.YtjhaikcokbmdbaaGreatDoor.Ax

inductive Chunk where
  | cells (cs : List CV)
  | map (kk : KK) (ver : Nat) (m : List (CK × CV)) (bs : Option (Nat × List (CK × Nat)))
  | miter (hm ver : Nat) (left : List CK) (last : Option CK)
  | siter (l : List Nat) (pos : Nat)
  | loop (st : LoopState) (pend : Option Code) (fid N : Nat) (tmps : Tr CV) (params : List Nat) (asg body : Code) (dh : Nat)
  | dfr
structure CH where
  next : Nat
  t : Tr Chunk
noncomputable def CH.get (H : CH) (h : Nat) : Option Chunk := H.t.get h
/-- What an operation does to memory. -/
inductive Cmd where
  | nop
  | del (h : Nat)
  | add (c : Chunk)
  | set (h : Nat) (c : Chunk)
  | swap (h : Nat) (c : Chunk)
noncomputable def Cmd.app : Cmd → CH → CH
  | .nop, H => H
  | .del h, H => ⟨H.next, H.t.set h none⟩
  | .add c, H => ⟨H.next + 1, H.t.set H.next (some c)⟩
  | .set h c, H => ⟨H.next, H.t.set h (some c)⟩
  | .swap h c, H => ⟨H.next + 1, (H.t.set h none).set H.next (some c)⟩

/-! What is forced. -/
noncomputable def natK {β : Type} (n : Nat) (k : Nat → β) : β := Nat.rec (motive := fun _ => (Nat → β) → β) (fun k => k 0) (fun m _ k => k (Nat.succ m)) n k
noncomputable def boolK {β : Type} (b : Bool) (k : Bool → β) : β := Bool.rec (motive := fun _ => (Bool → β) → β) (fun k => k false) (fun k => k true) b k
noncomputable def intK {β : Type} (n : Int) (k : Int → β) : β := Int.rec (motive := fun _ => (Int → β) → β) (fun m k => natK m fun m => k (.ofNat m)) (fun m k => natK m fun m => k (.negSucc m)) n k
noncomputable def natsK {β : Type} (l : List Nat) : (List Nat → β) → β :=
  List.rec (motive := fun _ => (List Nat → β) → β) (fun k => k []) (fun x _ ih k => natK x fun x => ih fun xs => k (x :: xs)) l
noncomputable def spineK {α β : Type} (l : List α) : (List α → β) → β :=
  List.rec (motive := fun _ => (List α → β) → β) (fun k => k []) (fun x _ ih k => ih fun xs => k (x :: xs)) l
noncomputable def capK {β : Type} (c : Option Nat) (k : Option Nat → β) : β := Option.rec (motive := fun _ => (Option Nat → β) → β) (fun k => k none) (fun n k => natK n fun n => k (some n)) c k
section
variable {β : Type}
noncomputable def fInt (t : IntKind) (n : Int) (k _ : CV → β) : β := intK n fun n => k (.int t n)
noncomputable def fBool (b : Bool) (k _ : CV → β) : β := boolK b fun b => k (.bool b)
noncomputable def fPtr (h o : Nat) (k _ : CV → β) : β := natK h fun h => natK o fun o => k (.ptr h o)
noncomputable def fGp (h o : Nat) (k _ : CV → β) : β := natK h fun h => natK o fun o => k (.gp h o)
noncomputable def fRow (h sz off len : Nat) (cap : Option Nat) (k _ : CV → β) : β := natK h fun h => natK sz fun sz => natK off fun off => natK len fun len => capK cap fun cap => k (.row h sz off len cap)
noncomputable def fMp (h : Nat) (k _ : CV → β) : β := natK h fun h => k (.mp h)
noncomputable def fYld (h : Nat) (k _ : CV → β) : β := natK h fun h => k (.yld h)
noncomputable def CV.flatK (x : CV) (k deep : CV → β) : β := CV.casesOn (motive_1 := fun _ => (CV → β) → (CV → β) → β) x
  (fun x k _ => k (.v x)) fInt fBool (fun l _ d => d (.str l)) fPtr fGp fRow fMp (fun l _ d => d (.agg l)) (fun l _ d => d (.tup l)) (fun t x _ d => d (.ifc t x)) (fun f a c _ d => d (.fnc f a c)) fYld (fun k _ => k .junk) k deep
noncomputable def eDeep (x : CV) (k : CV → β) : β := match x with
  | .str l => natsK l fun l => k (.str l)
  | .agg l => spineK l fun l => k (.agg l)
  | x => k x
noncomputable def CV.elemK (x : CV) (k : CV → β) : β := x.flatK k fun x => eDeep x k
noncomputable def CV.listK (l : List CV) : (List CV → β) → β :=
  List.rec (motive := fun _ => (List CV → β) → β) (fun k => k []) (fun x _ ih k => x.elemK fun x => ih fun xs => k (x :: xs)) l
noncomputable def iDeep (t : Nat) (y : CV) (k : CV → β) : β := match y with
  | .str l => natsK l fun l => k (.ifc t (.str l))
  | .agg l => CV.listK l fun l => k (.ifc t (.agg l))
  | y => k (.ifc t y)
noncomputable def fDeep (x : CV) (k : CV → β) : β := match x with
  | .str l => natsK l fun l => k (.str l)
  | .agg l => CV.listK l fun l => k (.agg l)
  | .tup l => CV.listK l fun l => k (.tup l)
  | .ifc t y => y.flatK (fun y => k (.ifc t y)) fun y => iDeep t y k
  | .fnc f a c => CV.listK a fun a => CV.listK c fun c => k (.fnc f a c)
  | x => k x
noncomputable def CV.fK (x : CV) (k : CV → β) : β := x.flatK k fun x => fDeep x k
end
noncomputable def ckK {β : Type} (x : CK) (k : CK → β) : β := match x with
  | .s l => natsK l fun l => k (.s l)
  | .i t n => intK n fun n => k (.i t n)
  | .a l => spineK l fun l => k (.a l)
/-- When each key of a map was born, and when the next one will be: of maps of which that is known. -/
noncomputable def bsK {β : Type} (bs : Option (Nat × List (CK × Nat))) (k : Option (Nat × List (CK × Nat)) → β) : β := match bs with
  | none => k none
  | some (c, l) => natK c fun c => spineK l fun l => k (some (c, l))
noncomputable def Chunk.fK {β : Type} (c : Chunk) (k : Chunk → β) : β := match c with
  | .cells cs => CV.listK cs fun cs => k (.cells cs)
  | .map kk ver m bs => natK ver fun ver => spineK m fun m => bsK bs fun bs => k (.map kk ver m bs)
  | .miter hm ver l last => natK hm fun hm => natK ver fun ver => spineK l fun l => k (.miter hm ver l last)
  | .siter l pos => natK pos fun pos => spineK l fun l => k (.siter l pos)
  | .loop st pend fid N tmps params asg body dh => natK dh fun dh => k (.loop st pend fid N tmps params asg body dh)
  | .dfr => k .dfr
/-- New memory, of which what stands in its cells is forced already. -/
noncomputable def Chunk.sK {β : Type} (c : Chunk) (k : Chunk → β) : β := match c with
  | .cells cs => spineK cs fun cs => k (.cells cs)
  | c => c.fK k
section
variable {β : Type}
def cNop (H : CH) (k : CH → β) : β := k H
noncomputable def cDel (h : Nat) (H : CH) (k : CH → β) : β := H.t.setK h none fun t => k ⟨H.next, t⟩
noncomputable def cAdd (c : Chunk) (H : CH) (k : CH → β) : β := c.sK fun c => H.t.setK H.next (some c) fun t => natK (H.next + 1) fun n => k ⟨n, t⟩
noncomputable def cSet (h : Nat) (c : Chunk) (H : CH) (k : CH → β) : β := c.sK fun c => H.t.setK h (some c) fun t => k ⟨H.next, t⟩
noncomputable def cSwap (h : Nat) (c : Chunk) (H : CH) (k : CH → β) : β := c.sK fun c => H.t.setK h none fun t => t.setK H.next (some c) fun t => natK (H.next + 1) fun n => k ⟨n, t⟩
noncomputable def Cmd.appK (c : Cmd) (H : CH) (k : CH → β) : β := Cmd.rec (motive := fun _ => CH → (CH → β) → β) cNop cDel cAdd cSet cSwap c H k
end

/-! Integers. -/
def ltI : Int → Int → Bool
  | .ofNat a, .ofNat b => Nat.blt a b
  | .negSucc _, .ofNat _ => true
  | .ofNat _, .negSucc _ => false
  | .negSucc a, .negSucc b => Nat.blt b a
def eqI : Int → Int → Bool
  | .ofNat a, .ofNat b => Nat.beq a b
  | .negSucc a, .negSucc b => Nat.beq a b
  | _, _ => false
def pw : IntKind → Nat
  | .i8 | .u8 => 256
  | .i16 | .u16 => 65536
  | .i32 | .u32 => 4294967296
  | .i64 | .u64 => 18446744073709551616
def hf : IntKind → Nat
  | .i8 | .u8 => 128
  | .i16 | .u16 => 32768
  | .i32 | .u32 => 2147483648
  | .i64 | .u64 => 9223372036854775808
def kno : IntKind → Nat
  | .i8 => 0 | .i16 => 1 | .i32 => 2 | .i64 => 3 | .u8 => 4 | .u16 => 5 | .u32 => 6 | .u64 => 7
def eqK (a b : IntKind) : Bool := Nat.beq (kno a) (kno b)
def wrapN (k : IntKind) (n : Int) : Int :=
  bif k.signed then (match n with
    | .ofNat m => bif Nat.blt m (hf k) then n else k.wrap n
    | .negSucc m => bif Nat.blt m (hf k) then n else k.wrap n)
  else (match n with
    | .ofNat m => .ofNat (m % pw k)
    | .negSucc m => .ofNat (pw k - 1 - m % pw k))
def lim (k : IntKind) : Nat := bif k.signed then hf k else pw k
def bitN (op : BinOp) (k : IntKind) (a b : Int) : Int := match a, b with
  | .ofNat x, .ofNat y => bif Nat.blt x (lim k) && Nat.blt y (lim k) then (match op with
      | .and => .ofNat (Nat.land x y)
      | .or => .ofNat (Nat.lor x y)
      | .xor => .ofNat (Nat.xor x y)
      | _ => .ofNat (Nat.xor x (Nat.land x y))) else bitK op k a b
  | a, b => bitK op k a b
def quoN (k : IntKind) (a b : Int) : Int := match a, b with
  | .ofNat x, .ofNat y => wrapN k (.ofNat (x / y))
  | a, b => k.wrap (a.tdiv b)
def remN (a b : Int) : Int := match a, b with
  | .ofNat x, .ofNat y => .ofNat (x % y)
  | a, b => a.tmod b
def shlN (k : IntKind) (a : Int) (n : Nat) : Int := match a with
  | .ofNat x => wrapN k (.ofNat (Nat.shiftLeft x n))
  | a => k.wrap (a * 2 ^ n)
def shrN (a : Int) (n : Nat) : Int := match a with
  | .ofNat x => .ofNat (Nat.shiftRight x n)
  | a => a.fdiv (2 ^ n)
def leI (a b : Int) : Bool := !(ltI b a)
def zI (a : Int) : Bool := match a with
  | .ofNat n => Nat.beq n 0
  | _ => false
def posI (a : Int) : Bool := match a with
  | .ofNat _ => true
  | _ => false

/-! Lists. -/
noncomputable def lbeq (a : List Nat) : List Nat → Bool :=
  List.rec (motive := fun _ => List Nat → Bool) (fun b => match b with
    | [] => true
    | _ => false) (fun x _ ih b => match b with
    | [] => false
    | y :: ys => bif Nat.beq x y then ih ys else false) a
noncomputable def lless (a : List Nat) : List Nat → Bool :=
  List.rec (motive := fun _ => List Nat → Bool) (fun b => match b with
    | [] => false
    | _ => true) (fun x _ ih b => match b with
    | [] => false
    | y :: ys => bif Nat.beq x y then ih ys else Nat.blt x y) a
noncomputable def len {α : Type} (l : List α) : Nat := List.rec (motive := fun _ => Nat) 0 (fun _ _ ih => ih + 1) l
noncomputable def nth {α : Type} (l : List α) : Nat → Option α := List.rec (motive := fun _ => Nat → Option α) (fun _ => none) (fun x _ ih n => match n with
  | 0 => some x
  | m + 1 => ih m) l
noncomputable def dropL {α : Type} (l : List α) : Nat → List α := List.rec (motive := fun _ => Nat → List α) (fun _ => []) (fun x xs ih n => match n with
  | 0 => x :: xs
  | m + 1 => ih m) l
noncomputable def takeL {α : Type} (l : List α) : Nat → List α := List.rec (motive := fun _ => Nat → List α) (fun _ => []) (fun x _ ih n => match n with
  | 0 => []
  | m + 1 => x :: ih m) l
noncomputable def catL {α : Type} (l r : List α) : List α := List.rec (motive := fun _ => List α) r (fun x _ ih => x :: ih) l
noncomputable def mapL {α β : Type} (f : α → β) (l : List α) : List β := List.rec (motive := fun _ => List β) [] (fun x _ ih => f x :: ih) l
noncomputable def repL {α : Type} (x : List α) (n : Nat) : List α := Nat.rec (motive := fun _ => List α) [] (fun _ ih => catL x ih) n
/-- Cells laid over cells. -/
noncomputable def overL {α : Type} (l xs : List α) : Nat → List α := fun off => catL (takeL l off) (catL xs (dropL l (off + len xs)))
noncomputable def kieq (a : List (IntKind × Int)) : List (IntKind × Int) → Bool := List.rec (motive := fun _ => List (IntKind × Int) → Bool) (fun b => match b with
  | [] => true
  | _ => false) (fun x _ r b => match b with
  | [] => false
  | y :: ys => bif eqK x.1 y.1 && eqI x.2 y.2 then r ys else false) a
noncomputable def ckeq (a b : CK) : Bool := match a, b with
  | .s x, .s y => lbeq x y
  | .i k x, .i j y => eqK k j && eqI x y
  | .a x, .a y => kieq x y
  | _, _ => false
noncomputable def mget (m : List (CK × CV)) (k : CK) : Option CV := List.rec (motive := fun _ => Option CV) none (fun p _ ih => bif ckeq p.1 k then some p.2 else ih) m
noncomputable def mput (m : List (CK × CV)) (k : CK) (x : CV) : List (CK × CV) := List.rec (motive := fun _ => List (CK × CV)) [(k, x)] (fun p ps ih => bif ckeq p.1 k then (p.1, x) :: ps else p :: ih) m
noncomputable def mdel (m : List (CK × CV)) (k : CK) : List (CK × CV) := List.rec (motive := fun _ => List (CK × CV)) [] (fun p ps ih => bif ckeq p.1 k then ps else p :: ih) m
noncomputable def kdel (m : List CK) (k : CK) : List CK := List.rec (motive := fun _ => List CK) [] (fun p ps ih => bif ckeq p k then ps else p :: ih) m

/-! Types. -/
abbrev TTr := Nat → Option TD
noncomputable def partC (T : TTr) (t : Nat) (cs : List CV) (off : Nat) : Option CV :=
  match T t with
  | some d => bif d.isAgg then (bif Nat.ble (off + d.size) (len cs) then some (.agg (takeL (dropL cs off) d.size)) else none) else nth cs off
  | none => none
def cellsC : CV → Option (List CV)
  | .agg cs => some cs
  | .tup _ | .junk | .v (.agg _) | .v (.tuple _) => none
  | x => some [x]
def oneC : CV → Bool
  | .agg _ | .tup _ | .junk => false
  | .v x => x.oneCell'
  | _ => true
noncomputable def allC (cs : List CV) : Bool := List.rec (motive := fun _ => Bool) true (fun x _ r => bif oneC x then r else false) cs
def nilP : TK → CV → Option Bool
  | .ptr _, .v (.pointer none) => some true
  | .ptr _, .ptr .. => some false
  | .ptr _, .gp .. => some false
  | .mp .., .v (.map none) => some true
  | .mp .., .mp _ => some false
  | .sl _, .v (.slice none _ _) => some true
  | .sl _, .row .. => some false
  | .ifc, .v .nilIface => some true
  | .ifc, .ifc .. => some false
  | _, _ => none
def thenB (o : Option Bool) (k : Option Bool) : Option Bool := match o with
  | some true => k
  | o => o
noncomputable def eqFsC (T : TTr) (E : Nat → CV → CV → Option Bool) (xs ys : List CV) (fs : List (Nat × Nat)) : Option Bool :=
  List.rec (motive := fun _ => Option Bool) (some true) (fun f _ r => match partC T f.2 xs f.1, partC T f.2 ys f.1 with
    | some a, some b => thenB (E f.2 a b) r
    | _, _ => none) fs
noncomputable def eqIsC (T : TTr) (E : CV → CV → Option Bool) (e sz : Nat) (xs ys : List CV) (n : Nat) : Nat → Option Bool :=
  Nat.rec (motive := fun _ => Nat → Option Bool) (fun _ => some true) (fun _ r i => match partC T e xs (i * sz), partC T e ys (i * sz) with
    | some a, some b => thenB (E a b) (r (i + 1))
    | _, _ => none) n
/-- Equality at a type. -/
noncomputable def eqT (T : TTr) (fuel : Nat) : Nat → CV → CV → Option Bool :=
  Nat.rec (motive := fun _ => Nat → CV → CV → Option Bool) (fun _ _ _ => none) (fun _ ih t x y => match T t with
    | none => none
    | some d => match d.k with
      | .int _ => (match x, y with
        | .int k a, .int j b => bif eqK k j then some (eqI a b) else none
        | _, _ => none)
      | .str => (match x, y with
        | .str a, .str b => some (lbeq a b)
        | _, _ => none)
      | .bool => (match x, y with
        | .bool a, .bool b => some (bif a then b else !b)
        | _, _ => none)
      | .st fs => (match x, y with
        | .agg xs, .agg ys => bif d.eq then eqFsC T ih xs ys fs else none
        | _, _ => none)
      | .arr n e => (match x, y, T e with
        | .agg xs, .agg ys, some de => eqIsC T (ih e) e de.size xs ys n 0
        | _, _, _ => none)
      | k => (match nilP k x, nilP k y with
        | some true, some b => some b
        | some false, some true => some false
        | _, _ => none)) fuel
inductive Out where
  | no (why : Nat)
  | old (v : CV) (c : Cmd)
  | new (v : CV) (c : Cmd)
  | many (l : List (CV × Cmd))
  | call (f : Nat) (args : List CV)
  | rnd (h : Nat) (args : List CV)
  | pan (v : CV)
def Out.ofO (why : Nat) : Option CV → Out
  | some v => .new v .nop
  | none => .no why
def Out.ofOld (why : Nat) : Option CV → Out
  | some v => .old v .nop
  | none => .no why
section
variable (k : IntKind) (a b : Int)
def iAdd : Out := .new (.int k (wrapN k (a + b))) .nop
def iSub : Out := .new (.int k (wrapN k (a - b))) .nop
def iMul : Out := .new (.int k (wrapN k (a * b))) .nop
def iQuo : Out := bif zI b then .no 1 else .new (.int k (quoN k a b)) .nop
def iRem : Out := bif zI b then .no 2 else .new (.int k (remN a b)) .nop
def iAnd : Out := .new (.int k (bitN .and k a b)) .nop
def iOr : Out := .new (.int k (bitN .or k a b)) .nop
def iXor : Out := .new (.int k (bitN .xor k a b)) .nop
def iAndNot : Out := .new (.int k (bitN .andNot k a b)) .nop
def iEql (_ : IntKind) : Out := .new (.bool (eqI a b)) .nop
def iNeq (_ : IntKind) : Out := .new (.bool (!eqI a b)) .nop
def iLss (_ : IntKind) : Out := .new (.bool (ltI a b)) .nop
def iLeq (_ : IntKind) : Out := .new (.bool (!ltI b a)) .nop
def iGtr (_ : IntKind) : Out := .new (.bool (ltI b a)) .nop
def iGeq (_ : IntKind) : Out := .new (.bool (!ltI a b)) .nop
def iNo (_ : IntKind) (_ _ : Int) : Out := .no 3
end
noncomputable def intC (op : BinOp) (k : IntKind) (a b : Int) : Out := BinOp.rec (motive := fun _ => IntKind → Int → Int → Out)
  iAdd iSub iMul iQuo iRem iAnd iOr iXor iNo iNo iAndNot (fun k a b => iEql a b k) (fun k a b => iNeq a b k) (fun k a b => iLss a b k) (fun k a b => iLeq a b k) (fun k a b => iGtr a b k) (fun k a b => iGeq a b k) op k a b
noncomputable def strC (op : BinOp) (a b : List Nat) : Out := match op with
  | .add => bif Nat.ble (len a + len b) 9223372036854775807 then .new (.str (catL a b)) .nop else .no 4
  | .eql => .new (.bool (lbeq a b)) .nop
  | .neq => .new (.bool (!lbeq a b)) .nop
  | .lss => .new (.bool (lless a b)) .nop
  | .leq => .new (.bool (lless a b || lbeq a b)) .nop
  | .gtr => .new (.bool (!(lless a b || lbeq a b))) .nop
  | .geq => .new (.bool (!lless a b)) .nop
  | _ => .no 5
def aggOk (T : TTr) (t : Nat) : Bool := match T t with
  | some d => (match d.k with
    | .st _ => d.eq
    | .arr _ e => (match T e with
      | some de => (match de.k with
        | .int _ => true
        | _ => false)
      | none => false)
    | _ => false)
  | none => false
def gOk (T : TTr) (cst : Bool) (t : Nat) (x y : CV) : Bool := match x, y with
  | .v .nilIface, .v .nilIface => cst
  | .agg _, .agg _ => aggOk T t
  | _, _ => true
/-- 'cst': one of the operands is a constant. -/
noncomputable def binC (T : TTr) (cst : Bool) (op : BinOp) (t : Nat) (x y : CV) : Out :=
  match x, y with
  | .int k a, .int j b => (match op with
    | .shl => bif posI b then .new (.int k (shlN k a (Nat.min b.toNat k.bits))) .nop else .no 6
    | .shr => bif posI b then .new (.int k (shrN a (Nat.min b.toNat k.bits))) .nop else .no 7
    | op => bif eqK k j then intC op k a b else .no 8)
  | .str a, .str b => strC op a b
  | x, y => bif !(gOk T cst t x y) then .no 9 else (match op, eqT T 6 t x y with
    | .eql, some b => .new (.bool b) .nop
    | .neq, some b => .new (.bool (!b)) .nop
    | _, _ => .no 9)
noncomputable def bytesC (cs : List CV) : Option (List Nat) := List.rec (motive := fun _ => Option (List Nat)) (some []) (fun x _ ih => match x, ih with
  | .int .u8 (.ofNat n), some l => bif Nat.blt n 256 then some (n :: l) else none
  | _, _ => none) cs
/-- The cells of a slice's elements. -/
noncomputable def rowCells (H : CH) (sz : Nat) (x : CV) : Option (List CV) := match x with
  | .v (.slice none 0 0) => some []
  | .row h s off n _ => bif Nat.beq s sz then (match H.get h with
    | some (.cells cs) => bif Nat.ble (off + n * sz) (len cs) then some (takeL (dropL cs off) (n * sz)) else none
    | _ => none) else none
  | _ => none
noncomputable def isB (T : TTr) (t : Nat) : Bool := match T t with
  | some d => isByte d
  | none => false
noncomputable def convC (T : TTr) (H : CH) (s d : Nat) (x : CV) : Out :=
  match T d, T s with
  | some dd, some ds => (match dd.k, ds.k, x with
    | .int k, .int _, .int _ n => .new (.int k (wrapN k n)) .nop
    | .str, .str, .str l => .old (.str l) .nop
    | .str, .sl e, x => bif isB T e then (match rowCells H 1 x with
      | some cs => (match bytesC cs with
        | some l => .new (.str l) .nop
        | none => .no 10)
      | none => .no 11) else .no 12
    | .sl e, .str, .str l => bif isB T e && Nat.ble (len l) 140737488355327 then .new (.row H.next 1 0 (len l) none) (.add (.cells (mapL (fun n => .int .u8 (.ofNat n)) l))) else .no 13
    | .sl e, .sl _, .row h sz off n cap => (match H.get h with
      | some (.cells cs) => bif Nat.beq s d && isB T e then .old (.row h sz off n cap) (.set h (.cells cs)) else .no 14
      | _ => .no 14)
    | _, _, _ => .no 15)
  | _, _ => .no 16
noncomputable def fieldT (T : TTr) (t f : Nat) : Option (Nat × Nat) := match T t with
  | some d => (match d.k with
    | .st fs => nth fs f
    | _ => none)
  | none => none
noncomputable def faddrC (T : TTr) (t f : Nat) (x : CV) : Out := match fieldT T t f with
  | some (off, ft) => (match T ft with
    | some d => bif Nat.beq d.size 0 then .no 17 else (match x with
      | .ptr h o => .new (.ptr h (o + off)) .nop
      | .gp h o => .new (.gp h (o + off)) .nop
      | _ => .no 18)
    | none => .no 19)
  | none => .no 20
noncomputable def sizeT (T : TTr) (e : Nat) : Nat := match T e with
  | some d => d.size
  | none => 0
def inR (n : Int) (len : Nat) : Bool := match n with
  | .ofNat m => Nat.blt m len
  | _ => false
noncomputable def iaddrC (T : TTr) (t : Nat) (x i : CV) : Out := match T t, i with
  | some d, .int _ n => (match d.k, x with
    | .sl e, .row h sz off m _ => (match T e with
      | some de => bif Nat.beq sz de.size && inR n m then .new (.ptr h (off + n.toNat * sz)) .nop else .no 21
      | none => .no 22)
    | .arr m e, .ptr h off => (match T e with
      | some de => bif inR n m then .new (.ptr h (off + n.toNat * de.size)) .nop else .no 23
      | none => .no 24)
    | .arr m e, .gp h off => (match T e with
      | some de => bif inR n m then .new (.gp h (off + n.toNat * de.size)) .nop else .no 25
      | none => .no 26)
    | _, _ => .no 27)
  | _, _ => .no 28
noncomputable def indexC (T : TTr) (t : Nat) (x i : CV) : Out := match T t, x, i with
  | some d, .str l, .int _ n => (match d.k with
    | .str => (match bif posI n then nth l n.toNat else none with
      | some c => .new (.int .u8 (.ofNat c)) .nop
      | none => .no 29)
    | _ => .no 30)
  | some d, .agg cs, .int _ n => (match d.k with
    | .arr m e => (match T e with
      | some de => bif inR n m then Out.ofO 31 (partC T e cs (n.toNat * de.size)) else .no 32
      | none => .no 33)
    | _ => .no 34)
  | _, _, _ => .no 35
def optN (g : Operand → CV) (d : Nat) : Option Operand → Option Nat
  | none => some d
  | some x => match g x with
    | .int _ (.ofNat n) => some n
    | _ => none
noncomputable def sliceC (T : TTr) (H : CH) (g : Operand → CV) (t : Nat) (x : CV) (lo hi mx : Option Operand) : Out := match T t with
  | none => .no 36
  | some d => match d.k, x with
    | .str, .str l => (match optN g 0 lo, optN g (len l) hi, mx with
      | some a, some b, none => bif Nat.ble a b && Nat.ble b (len l) then .new (.str (takeL (dropL l a) (b - a))) .nop else .no 37
      | _, _, _ => .no 38)
    | .sl e, .v (.slice none 0 0) => (match optN g 0 lo, optN g 0 hi, optN g 0 mx with
      | some a, some b, some c => bif Nat.beq a 0 && Nat.beq b 0 && Nat.beq c 0 && (T e).isSome then .old CV.nilSl .nop else .no 39
      | _, _, _ => .no 40)
    | .sl e, .row h sz off n cap => (match T e with
      | some de => bif Nat.beq sz de.size then (match mx with
          | none => (match optN g 0 lo, optN g n hi with
            | some a, some b => bif Nat.ble a b && Nat.ble b (cap.getD n) then .new (.row h sz (off + a * sz) (b - a) (cap.map fun c => c - a)) .nop else .no 41
            | _, _ => .no 42)
          | some mx => (match optN g 0 lo, optN g n hi, optN g n (some mx) with
            | some a, some b, some c => bif Nat.ble a b && Nat.ble b c && Nat.ble c (cap.getD n) then .new (.row h sz (off + a * sz) (b - a) (some (c - a))) .nop else .no 43
            | _, _, _ => .no 44)) else .no 45
      | none => .no 46)
    | .arr m e, .ptr h off => (match T e, optN g 0 lo, optN g m hi, optN g m mx with
      | some de, some a, some b, some c => bif Nat.ble a b && Nat.ble b c && Nat.ble c m && Nat.ble m 140737488355328 && !(mx.isSome && !hi.isSome) then (match H.get h with
          | some (.cells cs) => bif Nat.ble (off + m * de.size) (len cs) then .new (.row h de.size (off + a * de.size) (b - a) (some (c - a))) .nop else .no 47
          | _ => .no 47) else .no 47
      | _, _, _, _ => .no 48)
    | _, _ => .no 49
noncomputable def loadC (T : TTr) (G : Tr (List CV)) (H : CH) (t : Nat) (x : CV) : Out := match x with
  | .ptr h off => (match H.get h with
    | some (.cells cs) => (match T t with
      | some d => bif d.isAgg then Out.ofO 50 (partC T t cs off) else Out.ofOld 51 (nth cs off)
      | none => .no 52)
    | _ => .no 53)
  | .gp g off => (match G.get g with
    | some cs => Out.ofO 54 (partC T t cs off)
    | none => .no 55)
  | _ => .no 56
noncomputable def storeC (T : TTr) (H : CH) (t : Nat) (a x : CV) : Out := match T t, cellsC x, a with
  | some d, some xs, .ptr h off => (match H.get h with
    | some (.cells cs) => bif Nat.beq (len xs) d.size && allC xs && Nat.ble (off + len xs) (len cs) then .old .junk (.set h (.cells (overL cs xs off))) else .no 57
    | _ => .no 58)
  | _, _, _ => .no 59
noncomputable def zeroC (d : TD) : Option (List CV) := match d.zero with
  | some z => cellsC (CV.ofV z)
  | none => none
noncomputable def fillC (place : Nat → Option (Nat × Nat)) (ps : List (Nat × CV)) : List CV → Option (List CV) :=
  List.rec (motive := fun _ => List CV → Option (List CV)) (fun cs => some cs) (fun p _ ih cs => match place p.1, cellsC p.2 with
    | some (off, size), some vs => bif Nat.beq (len vs) size && Nat.ble (off + size) (len cs) then ih (overL cs vs off) else none
    | _, _ => none) ps
noncomputable def placesC (T : TTr) (fs : List (Nat × Nat)) : Option (List (Nat × Nat)) := List.rec (motive := fun _ => Option (List (Nat × Nat))) (some []) (fun f _ r => match T f.2, r with
  | some d, some r => some ((f.1, d.size) :: r)
  | _, _ => none) fs
noncomputable def buildC (T : TTr) (t : Nat) (ps : List (Nat × CV)) : Out := match T t with
  | some d => (match d.k, zeroC d with
    | .st fs, some z => (match placesC T fs with
      | some pl => Out.ofO 60 ((fillC (fun i => nth pl i) ps z).map CV.agg)
      | none => .no 63)
    | .arr _ e, some z => (match T e with
      | some de => Out.ofO 61 ((fillC (fun i => some (i * de.size, de.size)) ps z).map CV.agg)
      | none => .no 63)
    | _, _ => .no 62)
  | none => .no 63
noncomputable def elemC (T : TTr) (t : Nat) : Option (Nat × TD) := match T t with
  | some d => (match d.k with
    | .sl e => (match T e with
      | some de => some (e, de)
      | none => none)
    | _ => none)
  | none => none
noncomputable def bsliceC (T : TTr) (H : CH) (t n : Nat) (ps : List (Nat × CV)) : Out := match elemC T t with
  | some (_, de) => (match zeroC de with
    | some z => bif Nat.beq (len z) de.size && Nat.ble (n * de.size) 16777216 && !(Nat.beq de.size 0) then (match fillC (fun i => some (i * de.size, de.size)) ps (repL z n) with
        | some cs => bif allC cs then .new (.row H.next de.size 0 n (some n)) (.add (.cells cs)) else .no 64
        | none => .no 65) else .no 66
    | none => .no 67)
  | none => .no 68
noncomputable def msliceC (T : TTr) (H : CH) (t : Nat) (l c : CV) : Out := match elemC T t, l, c with
  | some (_, de), .int _ (.ofNat n), .int _ (.ofNat m) => (match zeroC de with
    | some z => bif allC z && Nat.beq (len z) de.size && !(Nat.beq de.size 0) && Nat.ble n m && Nat.ble (m * de.bytes) 140737488355328 && Nat.ble m 140737488355328 then .new (.row H.next de.size 0 n (some m)) (.add (.cells (repL z m))) else .no 69
    | none => .no 70)
  | _, _, _ => .no 71
/-- What is appended: cells. -/
noncomputable def srcC (_ : TTr) (H : CH) (sz _ : Nat) (x : CV) : Option (List CV × Nat) := match x with
  | .str l => bif Nat.beq sz 1 then some (mapL (fun n => .int .u8 (.ofNat n)) l, len l) else none
  | .row h s off n c => (match rowCells H sz (.row h s off n c) with
    | some cs => some (cs, n)
    | none => none)
  | .v (.slice none 0 0) => some ([], 0)
  | _ => none
noncomputable def seqT (T : TTr) (t : Nat) : Bool := match T t with
  | some d => isSeq d
  | none => false
noncomputable def appC (T : TTr) (H : CH) (t t2 : Nat) (s x : CV) : Out := match elemC T t with
  | some (_, de) => bif seqT T t2 && zeroFits de && !(Nat.beq de.size 0) then (match srcC T H de.size t2 x with
      | none => .no 72
      | some (xs, m) => (match s with
        | .v (.slice none 0 0) => bif Nat.beq m 0 then .old CV.nilSl .nop else
            bif Nat.ble (m * de.bytes) 140737488355328 && Nat.ble m 140737488355328 then .new (.row H.next de.size 0 m none) (.add (.cells xs)) else .no 73
        | .row h sz off n cap => bif Nat.beq m 0 then .old (.row h sz off n cap) .nop else
            bif Nat.beq sz de.size && Nat.ble ((n + m) * de.bytes) 140737488355328 && Nat.ble (n + m) 140737488355328 then (match rowCells H sz (.row h sz off n cap) with
              | some old => (match cap with
                | none => bif Nat.beq off 0 then .new (.row H.next sz 0 (n + m) none) (.swap h (.cells (catL old xs))) else .no 74
                | some c => bif Nat.ble (n + m) c then (match H.get h with
                    | some (.cells cs) => bif Nat.ble (off + (n + m) * sz) (len cs) then .new (.row h sz off (n + m) (some c)) (.set h (.cells (overL cs xs (off + n * sz)))) else .no 75
                    | _ => .no 76)
                  else .new (.row H.next sz 0 (n + m) none) (.add (.cells (catL old xs))))
              | none => .no 77) else .no 78
        | _ => .no 79)) else .no 80
  | none => .no 81
noncomputable def copyC (T : TTr) (H : CH) (t : Nat) (d x : CV) : Out := match elemC T t with
  | some (_, de) => bif Nat.beq de.size 0 then .no 82 else (match d, srcC T H de.size t x with
      | .v (.slice none 0 0), some _ => .new (.int .i64 0) .nop
      | .row h sz off n _, some (xs, m) => bif Nat.beq sz de.size then (match H.get h with
          | some (.cells cs) => bif Nat.ble (off + n * sz) (len cs) then .new (.int .i64 (.ofNat (Nat.min m n))) (.set h (.cells (overL cs (takeL xs (Nat.min m n * sz)) off))) else .no 83
          | _ => .no 84) else .no 85
      | _, _ => .no 86)
  | none => .no 87
def keyK : TK → Option KK
  | .str => some .s
  | .int k => some (.i k)
  | .st _ => some .a
  | .arr _ _ => some .a
  | _ => none
def eqKK (x y : KK) : Bool := match x, y with
  | .s, .s => true
  | .i j, .i k => eqK j k
  | .a, .a => true
  | _, _ => false
/-- The cells of a key that is a struct or an array of integers. -/
noncomputable def intsC (cs : List CV) : Option (List (IntKind × Int)) := List.rec (motive := fun _ => Option (List (IntKind × Int))) (some []) (fun x _ ih => match x, ih with
  | .int k n, some l => some ((k, n) :: l)
  | _, _ => none) cs
noncomputable def keyC (kk : KK) (x : CV) : Option CK := match x, kk with
  | .str l, .s => some (.s l)
  | .int k n, .i j => bif eqK k j then some (.i k n) else none
  | .agg cs, .a => (match intsC cs with
    | some l => some (.a l)
    | none => none)
  | _, _ => none
noncomputable def mapT (T : TTr) (t : Nat) : Option (KK × Nat) := match T t with
  | some d => (match d.k with
    | .mp kt et => (match T kt with
      | some dk => (match keyK dk.k with
        | some kk => some (kk, et)
        | none => none)
      | none => none)
    | _ => none)
  | none => none
/-! Keys that are structs or arrays: the guide's law on them, asked for by reckoning. -/
def ktOf (T : TTr) (t : Nat) : Nat := match T t with
  | some d => (match d.k with
    | .mp kt _ => kt
    | _ => 0)
  | none => 0
def wideB (P : Program) (kt : Nat) : Bool := match P.underlying kt with
  | some (.array _ _) | some (.struct _) => true
  | _ => false
def lawB (P : Program) (kt : Nat) : Bool := Nat.ble (P.types.size + 2) 10000 && Nat.blt kt P.types.size && P.keyType kt && wideB P kt
def aVal (l : List (IntKind × Int)) : Value := .agg (l.map fun p => Value.int p.1 p.2).toArray
def okKey (P : Program) (kt : Nat) (k : CK) : Bool := match k with
  | .a l => (keyOf P kt (aVal l)).isSome
  | _ => false
noncomputable def allKey (P : Program) (kt : Nat) (m : List (CK × CV)) : Bool := List.rec (motive := fun _ => Bool) true (fun p _ r => bif okKey P kt p.1 then r else false) m
noncomputable def keyGo (P : Program) (kt : Nat) (kk : KK) (m : List (CK × CV)) (key : CK) : Bool := match kk with
  | .a => lawB P kt && okKey P kt key && allKey P kt m
  | _ => true
def okTup (ok : Bool) (v : CV) (b : Bool) : CV := bif ok then .tup [v, .bool b] else v
/-- A map: one of the run's own, or one that start-up lays and nobody writes. -/
noncomputable def mapAt (H : CH) (h : Nat) : Option (KK × List (CK × CV)) := match H.get h with
  | some (.map kk _ m _) => some (kk, m)
  | some _ => none
  | none => (match nth gmaps h with
    | some x => some x.2
    | none => none)
noncomputable def lookC (P : Program) (T : TTr) (H : CH) (t : Nat) (m k : CV) (ok : Bool) : Out := match mapT T t with
  | some (kk, et) => (match keyC kk k, (T et).bind (·.zero) with
    | some key, some z => (match m with
      | .v (.map none) => bif keyGo P (ktOf T t) kk [] key then .new (okTup ok (CV.ofV z) false) .nop else .no 190
      | .mp h => (match mapAt H h with
        | some (kk', m) => bif eqKK kk kk' && keyGo P (ktOf T t) kk m key then (match mget m key with
            | some v => .old (okTup ok v true) .nop
            | none => .new (okTup ok (CV.ofV z) false) .nop) else .no 88
        | none => .no 89)
      | _ => .no 90)
    | _, _ => .no 91)
  | none => .no 92
noncomputable def hasC (m : List (CK × CV)) (k : CK) : Bool := match mget m k with
  | some _ => true
  | none => false
/-! Births of keys. -/
noncomputable def bget (l : List (CK × Nat)) (k : CK) : Option Nat := List.rec (motive := fun _ => Option Nat) none (fun p _ ih => bif ckeq p.1 k then some p.2 else ih) l
noncomputable def bkey (l : List (CK × Nat)) (n : Nat) : Option CK := List.rec (motive := fun _ => Option CK) none (fun p _ ih => bif Nat.beq p.2 n then some p.1 else ih) l
noncomputable def bsUp (bs : Option (Nat × List (CK × Nat))) (m : List (CK × CV)) (key : CK) : Option (Nat × List (CK × Nat)) := match bs with
  | none => none
  | some (c, l) => bif hasC m key then some (c, l) else some (c + 1, (key, c) :: l)
/-- A map's entry at a key, and its number: made, if it is not there. -/
noncomputable def mentC (P : Program) (T : TTr) (H : CH) (t : Nat) (m k : CV) : Out := match mapT T t with
  | some (kk, et) => (match keyC kk k, m, (T et).bind (·.zero) with
    | some key, .mp h, some z => (match H.get h with
      | some (.map kk' ver m (some (c, l))) => bif eqKK kk kk' && keyGo P (ktOf T t) kk m key then (match mget m key with
          | some v => (match bget l key with
            | some b => natK b fun b => .old (.tup [v, .int .i64 (.ofNat b)]) .nop
            | none => .no 160)
          | none => ckK key fun key => .new (.tup [CV.ofV z, .int .i64 (.ofNat c)]) (.set h (.map kk' (ver + 1) (mput m key (CV.ofV z)) (some (c + 1, (key, c) :: l))))) else .no 161
      | _ => .no 162)
    | _, _, _ => .no 163)
  | none => .no 164
/-- A value is put into the entry of a number. -/
noncomputable def estC (H : CH) (m s x : CV) : Out := match m, s with
  | .mp h, .int _ (.ofNat n) => (match H.get h with
    | some (.map kk ver m (some (c, l))) => (match bkey l n with
      | some key => (match mget m key, bget l key with
        | some _, some b => bif Nat.beq b n then ckK key fun key => .old .junk (.set h (.map kk (ver + 1) (mput m key x) (some (c, l)))) else .no 165
        | _, _ => .no 166)
      | none => .no 167)
    | _ => .no 168)
  | _, _ => .no 169
noncomputable def updC (P : Program) (T : TTr) (H : CH) (t : Nat) (m k x : CV) : Out := match mapT T t with
  | some (kk, _) => (match keyC kk k, m with
    | some key, .mp h => (match H.get h with
      | some (.map kk' ver m bs) => bif eqKK kk kk' && keyGo P (ktOf T t) kk m key then ckK key fun key => .old .junk (.set h (.map kk' (ver + 1) (mput m key x) (bsUp bs m key))) else .no 93
      | _ => .no 94)
    | _, _ => .no 95)
  | none => .no 96
noncomputable def delC (P : Program) (T : TTr) (H : CH) (t : Nat) (m k : CV) : Out := match mapT T t with
  | some (kk, _) => (match keyC kk k, m with
    | some key, .mp h => (match H.get h with
      | some (.map kk' ver m bs) => bif eqKK kk kk' && keyGo P (ktOf T t) kk m key then .old (.tup []) (.set h (.map kk' ver (mdel m key) bs)) else .no 97
      | _ => .no 98)
    | some key, .v (.map none) => bif keyGo P (ktOf T t) kk [] key then .old (.tup []) .nop else .no 191
    | _, _ => .no 99)
  | none => .no 100
noncomputable def lenC (T : TTr) (H : CH) (t : Nat) (x : CV) : Out := match T t with
  | some d => (match d.k, x with
    | .str, .str l => .new (.int .i64 (.ofNat (len l))) .nop
    | .arr n _, _ => .new (.int .i64 (.ofNat n)) .nop
    | .sl _, .row _ _ _ n _ => .new (.int .i64 (.ofNat n)) .nop
    | .sl _, .v (.slice _ n _) => .new (.int .i64 (.ofNat n)) .nop
    | .mp .., .mp h => (match H.get h with
      | some (.map _ _ m _) => .new (.int .i64 (.ofNat (len m))) .nop
      | _ => .no 101)
    | .mp .., .v (.map none) => .new (.int .i64 0) .nop
    | _, _ => .no 102)
  | none => .no 103
def minC (mx : Bool) (x y : CV) : Out := match x, y with
  | .int k a, .int j b => bif eqK k j then .new (.int k (bif ltI (bif mx then a else b) (bif mx then b else a) then b else a)) .nop else .no 104
  | _, _ => .no 105
noncomputable def clearC (T : TTr) (H : CH) (t : Nat) (x : CV) : Out := match x with
  | .v (.map none) | .v (.slice none _ _) => (match T t with
    | some _ => .old (.tup []) .nop
    | none => .no 106)
  | .mp h => (match mapT T t, H.get h with
    | some _, some (.map kk ver _ _) => .old (.tup []) (.set h (.map kk (ver + 1) [] none))
    | _, _ => .no 106)
  | .row h sz off n _ => (match elemC T t with
    | some (_, de) => (match zeroC de, H.get h with
      | some z, some (.cells cs) => bif allC z && Nat.beq sz de.size && !(Nat.beq sz 0) && Nat.beq (len z) de.size && Nat.ble (off + n * sz) (len cs) then .old (.tup []) (.set h (.cells (overL cs (repL z n) off))) else .no 107
      | _, _ => .no 108)
    | none => .no 109)
  | _ => .no 110
noncomputable def capC (T : TTr) (t : Nat) (x : CV) : Out := match elemC T t, x with
  | some _, .row _ _ _ _ (some c) => .new (.int .i64 (.ofNat c)) .nop
  | some _, .v (.slice none 0 0) => .new (.int .i64 0) .nop
  | _, _ => .no 111
noncomputable def builtinC (P : Program) (T : TTr) (g : Operand → CV) (H : CH) (b : Builtin) (ts : List Nat) (args : List Operand) : Out := match b, ts, args with
  | .len, t :: _, x :: _ => lenC T H t (g x)
  | .cap, t :: _, [x] => capC T t (g x)
  | .min, _, [x, y] => minC false (g x) (g y)
  | .max, _, [x, y] => minC true (g x) (g y)
  | .append, [t, t2], [s, x] => appC T H t t2 (g s) (g x)
  | .copy, t :: _, [d, x] => copyC T H t (g d) (g x)
  | .delete, t :: _, [m, k] => delC P T H t (g m) (g k)
  | .clear, t :: _, [x] => clearC T H t (g x)
  | _, _, _ => .no 112
noncomputable def ifcC (T : TTr) (t : Nat) (x : CV) : Out := match T t with
  | some d => (match d.k with
    | .ifc => .no 113
    | _ => .old (.ifc t x) .nop)
  | none => .no 114
noncomputable def assertC (T : TTr) (t : Nat) (ok : Bool) (x : CV) : Out := match T t with
  | some d => (match d.k, x with
    | .ifc, _ => .no 115
    | _, .ifc u y => bif Nat.beq u t then .old (okTup ok y true) .nop else (match ok, d.zero with
      | true, some z => .new (.tup [CV.ofV z, .bool false]) .nop
      | _, _ => .no 116)
    | _, .v .nilIface => (match ok, d.zero with
      | true, some z => .new (.tup [CV.ofV z, .bool false]) .nop
      | _, _ => .no 117)
    | _, _ => .no 118)
  | none => .no 119
def nilCk (x : CV) : Out := match x with
  | .ptr .. | .gp .. | .fnc (.func _) .. | .v (.func (.func _) ..) => .old x .nop
  | _ => .no 120
noncomputable def keyV : CK → CV
  | .s l => .str l
  | .i k n => .int k n
  | .a l => .agg (mapL (fun p => .int p.1 p.2) l)
noncomputable def rangeC (T : TTr) (H : CH) (t : Nat) (x : CV) : Out := match T t, x with
  | some d, .str l => (match d.k with
    | .str => .new (.ptr H.next 0) (.add (.siter l 0))
    | _ => .no 121)
  | some d, .mp h => (match d.k, H.get h with
    | .mp .., some (.map _ ver m _) => .new (.ptr H.next 0) (.add (.miter h ver (mapL (·.1) m) none))
    | _, _ => .no 122)
  | _, _ => .no 123
/-- Keys that are still there. -/
noncomputable def liveL (m : List (CK × CV)) (left : List CK) : List CK := List.rec (motive := fun _ => List CK) [] (fun k _ r => bif hasC m k then k :: r else r) left
noncomputable def nextC (H : CH) (x : CV) (isS : Bool) : Out := match x with
  | .ptr h 0 => (match H.get h, isS with
    | some (.siter l pos), true => (match nth l pos with
      | none => .old (.tup [.bool false]) (.del h)
      | some c => bif Nat.blt c 128 then .new (.tup [.bool true, .int .i64 (.ofNat pos), .int .i32 (.ofNat c)]) (.set h (.siter l (pos + 1)))
        else (match Utf8.decode ⟨(l.map UInt8.ofNat).toArray⟩ pos with
          | (c, w) => .new (.tup [.bool true, .int .i64 (.ofNat pos), .int .i32 (.ofNat c)]) (.set h (.siter l (pos + w)))))
    | some (.miter hm ver left _), false => (match H.get hm with
      | some (.map _ ver' m _) => bif Nat.beq ver ver' then (match liveL m left with
          | [] => .old (.tup [.bool false]) (.del h)
          | l => .many (mapL (fun k => (.tup [.bool true, keyV k, (mget m k).getD .junk], .set h (.miter hm ver (kdel left k) (some k)))) l)) else .no 124
      | _ => .no 125)
    | _, _ => .no 126)
  | _ => .no 127
noncomputable def entryC (H : CH) (x : CV) : Out := match x with
  | .ptr h 0 => (match H.get h with
    | some (.miter hm ver _ (some k)) => (match H.get hm with
      | some (.map _ ver' m _) => bif Nat.beq ver ver' then (match mget m k with
          | some v => .old (.tup [keyV k, v]) .nop
          | none => .no 128) else .no 129
      | _ => .no 130)
    | _ => .no 131)
  | _ => .no 132
structure Cf where
  P : Program
  X : Tr Nat
  G : Tr (List CV)
  /-- The level of calls from which on what is left behind is thrown away always. -/
  S : Nat
  lo : laidOutB P = true
def Cf.T (C : Cf) : TTr := mkTD C.P
/-- The method of a dynamic type whose receiver is the value itself. -/
def methC (P : Program) (t : Nat) (name : String) : Option Nat := match P.info? t with
  | some i => (match i.methods.find? (·.name == name) with
    | some m => (match m.path.toList, m.func, P.underlying t with
      | [], some (f, true), some (.pointer _) => some f
      | [], some (_, false), some (.pointer _) => none
      | [], some (_, false), some (.interface _) => none
      | [], some (f, false), some _ => some f
      | _, _, _ => none)
    | none => none)
  | none => none
noncomputable def callC (_ : Cf) (f : CV) (args : List CV) : Out := match f with
  | .v (.func (.func f) ⟨[]⟩ ⟨[]⟩) => .call f args
  | .fnc (.func f) a c => .call f (catL a (catL args c))
  | .yld h => .rnd h args
  | _ => .no 133
/-- A call of a function value: of a method of a value behind an interface, too. -/
noncomputable def callM (C : Cf) (f : CV) (args : List CV) : Out := match f with
  | .fnc (.method n) [.ifc t x] _ => (match methC C.P t n with
    | some f => .call f (x :: args)
    | none => .no 156)
  | f => callC C f args
def nilM (P : Program) (x : CV) : Out := match x with
  | .fnc (.method n) [.ifc t y] c => (match methC P t n with
    | some _ => .old (.fnc (.method n) [.ifc t y] c) .nop
    | none => .no 157)
  | x => nilCk x
def cstO : Operand → Bool
  | .const _ => true
  | _ => false
def pickO (c x y : CV) : Out := match c with
  | .bool b => .old (bif b then x else y) .nop
  | _ => .no 134
def notO (x : CV) : Out := match x with
  | .bool b => .new (.bool (!b)) .nop
  | _ => .no 135
def negO (x : CV) : Out := match x with
  | .int k n => .new (.int k (wrapN k (0 - n))) .nop
  | _ => .no 136
def xorN (k : IntKind) (n : Int) : Int := match n with
  | .ofNat m => bif !k.signed && Nat.blt m (pw k) then .ofNat (pw k - 1 - m) else bitK .xor k (if k.signed then -1 else k.max) (.ofNat m)
  | n => bitK .xor k (if k.signed then -1 else k.max) n
def xorO (x : CV) : Out := match x with
  | .int k n => .new (.int k (xorN k n)) .nop
  | _ => .no 137
def unO (op : UnOp) (x : CV) : Out := match op with
  | .not => notO x
  | .neg => negO x
  | .xor => xorO x
  | .plus => .no 155
noncomputable def extrO (x : CV) (i : Nat) : Out := match x with
  | .tup l => Out.ofOld 138 (nth l i)
  | _ => .no 139
noncomputable def fieldO (T : TTr) (t f : Nat) (x : CV) : Out := match fieldT T t f, x with
  | some (off, ft), .agg cs => Out.ofO 140 (partC T ft cs off)
  | _, _ => .no 141
noncomputable def allocO (T : TTr) (H : CH) (e : Nat) : Out := match T e with
  | some d => (match zeroC d with
    | some cs => bif allC cs then .new (.ptr H.next 0) (.add (.cells cs)) else .no 143
    | none => .no 143)
  | none => .no 144
noncomputable def boxO (H : CH) (x : CV) : Out := match cellsC x with
  | some cs => bif allC cs then .new (.ptr H.next 0) (.add (.cells cs)) else .no 145
  | none => .no 145
noncomputable def mmapO (T : TTr) (H : CH) (t : Nat) : Out := match mapT T t with
  | some (kk, _) => .new (.mp H.next) (.add (.map kk 0 [] (some (0, []))))
  | none => .no 147
noncomputable def s2aO (T : TTr) (t : Nat) (x : CV) : Out := match T t, x with
  | some d, .row h _ off n _ => (match d.k with
    | .arr m _ => bif Nat.ble m n && Nat.ble 1 n then .new (.ptr h off) .nop else .no 148
    | _ => .no 149)
  | _, _ => .no 150
def panO (x : CV) : Out := match x with
  | .ifc t y => .pan (.ifc t y)
  | _ => .no 151
noncomputable def invO (C : Cf) (r : CV) (name : String) (args : List CV) : Out := match r with
  | .ifc t x => (match methC C.P t name with
    | some f => .call f (x :: args)
    | none => .no 153)
  | _ => .no 154
noncomputable def calleeO (C : Cf) (g : Operand → CV) (H : CH) (c : Call) : Out := match c.callee with
  | .builtin b => builtinC C.P C.T g H b c.argTypes.toList c.args.toList
  | .value f => callM C (g f) (mapL g c.args.toList)
  | .invoke r name => invO C (g r) name (mapL g c.args.toList)
def partsG (g : Operand → CV) (p : Nat × Operand) : Nat × CV := (p.1, g p.2)
noncomputable def sliceO (T : TTr) (H : CH) (g : Operand → CV) (t : Nat) (x : Operand) (lo hi mx : Option Operand) : Out := bif mx.isSome && !hi.isSome then .no 142 else sliceC T H g t (g x) lo hi mx
section
variable (C : Cf) (g : Operand → CV) (H : CH)
def oMove (x : Operand) (_ : Cf) (g : Operand → CV) (_ : CH) : Out := .old (g x) .nop
def oPick (c x y : Operand) (_ : Cf) (g : Operand → CV) (_ : CH) : Out := pickO (g c) (g x) (g y)
noncomputable def oAlloc (e : Nat) (C : Cf) (_ : Operand → CV) (H : CH) : Out := allocO C.T H e
noncomputable def oBox (_ : Nat) (x : Operand) (_ : Cf) (g : Operand → CV) (H : CH) : Out := boxO H (g x)
noncomputable def oBuild (t : Nat) (ps : Array (Nat × Operand)) (C : Cf) (g : Operand → CV) (_ : CH) : Out := buildC C.T t (mapL (partsG g) ps.toList)
noncomputable def oBSlice (t n : Nat) (ps : Array (Nat × Operand)) (C : Cf) (g : Operand → CV) (H : CH) : Out := bsliceC C.T H t n (mapL (partsG g) ps.toList)
noncomputable def oUpd (t : Nat) (m k v : Operand) (C : Cf) (g : Operand → CV) (H : CH) : Out := updC C.P C.T H t (g m) (g k) (g v)
noncomputable def oMEnt (t : Nat) (m k : Operand) (C : Cf) (g : Operand → CV) (H : CH) : Out := mentC C.P C.T H t (g m) (g k)
noncomputable def oESt (_ : Nat) (m s x : Operand) (_ : Cf) (g : Operand → CV) (H : CH) : Out := estC H (g m) (g s) (g x)
noncomputable def oLoad (t : Nat) (a : Operand) (C : Cf) (g : Operand → CV) (H : CH) : Out := loadC C.T C.G H t (g a)
noncomputable def oStore (t : Nat) (a x : Operand) (C : Cf) (g : Operand → CV) (H : CH) : Out := storeC C.T H t (g a) (g x)
def oNil (x : Operand) (C : Cf) (g : Operand → CV) (_ : CH) : Out := nilM C.P (g x)
noncomputable def oBin (op : BinOp) (t : Nat) (x y : Operand) (_ : Nat) (C : Cf) (g : Operand → CV) (_ : CH) : Out := binC C.T (cstO x || cstO y) op t (g x) (g y)
def oUn (op : UnOp) (_ : Nat) (x : Operand) (_ : Cf) (g : Operand → CV) (_ : CH) : Out := unO op (g x)
noncomputable def oConv (s d : Nat) (x : Operand) (C : Cf) (g : Operand → CV) (H : CH) : Out := convC C.T H s d (g x)
noncomputable def oS2a (t : Nat) (x : Operand) (C : Cf) (g : Operand → CV) (_ : CH) : Out := s2aO C.T t (g x)
noncomputable def oIfc (t : Nat) (x : Operand) (C : Cf) (g : Operand → CV) (_ : CH) : Out := ifcC C.T t (g x)
noncomputable def oFnc (fn : Fn) (f c : Array Operand) (_ : Cf) (g : Operand → CV) (_ : CH) : Out := .new (.fnc fn (mapL g f.toList) (mapL g c.toList)) .nop
noncomputable def oMMap (t : Nat) (r : Option Operand) (C : Cf) (_ : Operand → CV) (H : CH) : Out := bif r.isSome then .no 146 else mmapO C.T H t
noncomputable def oMSlice (t : Nat) (l c : Operand) (C : Cf) (g : Operand → CV) (H : CH) : Out := msliceC C.T H t (g l) (g c)
noncomputable def oSlice (t : Nat) (x : Operand) (lo hi mx : Option Operand) (C : Cf) (g : Operand → CV) (H : CH) : Out := sliceO C.T H g t x lo hi mx
noncomputable def oFAddr (t : Nat) (x : Operand) (f : Nat) (C : Cf) (g : Operand → CV) (_ : CH) : Out := faddrC C.T t f (g x)
noncomputable def oField (t : Nat) (x : Operand) (f : Nat) (C : Cf) (g : Operand → CV) (_ : CH) : Out := fieldO C.T t f (g x)
noncomputable def oIAddr (t : Nat) (x i : Operand) (C : Cf) (g : Operand → CV) (_ : CH) : Out := iaddrC C.T t (g x) (g i)
noncomputable def oIndex (t : Nat) (x i : Operand) (C : Cf) (g : Operand → CV) (_ : CH) : Out := indexC C.T t (g x) (g i)
noncomputable def oLook (t : Nat) (m k : Operand) (ok : Bool) (C : Cf) (g : Operand → CV) (H : CH) : Out := lookC C.P C.T H t (g m) (g k) ok
noncomputable def oRange (t : Nat) (x : Operand) (C : Cf) (g : Operand → CV) (H : CH) : Out := rangeC C.T H t (g x)
noncomputable def oNext (it : Operand) (isS : Bool) (_ : Cf) (g : Operand → CV) (H : CH) : Out := nextC H (g it) isS
noncomputable def oEntry (it : Operand) (_ : Cf) (g : Operand → CV) (H : CH) : Out := entryC H (g it)
noncomputable def oAssert (x : Operand) (_ t : Nat) (ok : Bool) (C : Cf) (g : Operand → CV) (_ : CH) : Out := assertC C.T t ok (g x)
noncomputable def oExtr (t : Operand) (i : Nat) (_ : Cf) (g : Operand → CV) (_ : CH) : Out := extrO (g t) i
noncomputable def oCall (c : Call) (C : Cf) (g : Operand → CV) (H : CH) : Out := calleeO C g H c
def oPan (x : Operand) (_ : Cf) (g : Operand → CV) (_ : CH) : Out := panO (g x)
def oNo (_ : Cf) (_ : Operand → CV) (_ : CH) : Out := .no 155
noncomputable def opC (op : Op) : Out := Op.rec (motive := fun _ => Cf → (Operand → CV) → CH → Out)
  oMove oMove oPick oAlloc oBox oBuild oBSlice oUpd oLoad oStore (fun _ => oNo) (fun _ => oNo) oNil oBin oUn oConv oS2a oIfc oFnc oMMap (fun _ _ => oNo) oMSlice oSlice oFAddr oField oIAddr
  oIndex oLook oUpd oMEnt oESt oRange oNext oEntry oAssert oExtr oCall (fun _ => oNo) (fun _ => oNo) oPan (fun _ _ => oNo) (fun _ _ _ => oNo) (fun _ _ => oNo) op C g H
end

/-! Regions that draw their order: an order to go by, and what is looked at again. -/
noncomputable def isEff (T : TTr) (op : Op) : Bool := match op with
  | .store .. | .mapUpdate .. | .insert .. | .mapEntry .. | .entryStore .. | .range .. | .next .. | .alloc .. | .box .. | .buildSlice .. | .makeSlice .. | .makeMap .. | .panic .. | .defer .. | .go .. => true
  | .convert _ d _ => (match T d with
    | some d => d.k.isSl
    | none => true)
  | .call c => (match c.callee with
    | .builtin .len | .builtin .cap | .builtin .min | .builtin .max => false
    | _ => true)
  | _ => false
noncomputable def isRd (T : TTr) (op : Op) : Bool := match op with
  | .load .. | .lookup .. | .entry .. | .convert .. | .slice .. => true
  | .call c => (match c.callee with
    | .builtin .len => (match c.argTypes.toList with
      | t :: _ => (match T t with
        | some d => isMp d
        | none => true)
      | [] => true)
    | _ => false)
  | _ => false
where isMp (d : TD) : Bool := match d.k with
  | .mp .. => true
  | _ => false
noncomputable def masks (l : List Oper) : List Nat → List Nat :=
  List.rec (motive := fun _ => List Nat → List Nat) (fun acc => acc) (fun o _ ih acc => natK (List.rec (motive := fun _ => Nat) 0 (fun e _ s => bif Region.binds .any e then Nat.lor s (Nat.lor (2 ^ e.on) ((nth acc e.on).getD 0)) else s) o.after.toList) fun m => ih (catL acc [m])) l
noncomputable def rdy (o : Oper) (listed : Nat) : Bool := List.rec (motive := fun _ => Bool) true (fun e _ r => bif !(Region.binds .any e) || Nat.testBit listed e.on then r else false) o.after.toList
/-! Who looks at whose slot. -/
noncomputable def memN (x : Nat) (l : List Nat) : Bool := List.rec (motive := fun _ => Bool) false (fun y _ r => bif Nat.beq x y then true else r) l
noncomputable def tmpsL (l : List Operand) : List Nat := List.rec (motive := fun _ => List Nat) [] (fun x _ r => match x with
  | .tmp t => t :: r
  | _ => r) l
def dstL (o : Option Oper) : List Nat := match o with
  | some o => (match o.dst with
    | some t => [t]
    | none => [])
  | none => []
noncomputable def looksL (ops : List Oper) (o : Oper) : List Nat := catL (match o.guard with
  | none => []
  | some g => dstL (nth ops g.1)) (tmpsL o.op.operands.toList)
noncomputable def direct (k : Nat) (o : Oper) : Bool := List.rec (motive := fun _ => Bool) false (fun e _ r => bif Region.binds .any e && Nat.beq e.on k then true else r) o.after.toList
/-- Slots that are written over what an operation looks at. -/
noncomputable def anyLook (ops : List Oper) (t k : Nat) (l : List Oper) : Bool := List.rec (motive := fun _ => Bool) false (fun o _ r => bif memN t (looksL ops o) && !(direct k o) then true else r) l
noncomputable def ovsF (ops : List Oper) (l : List Oper) : Nat → List Nat := List.rec (motive := fun _ => Nat → List Nat) (fun _ => []) (fun o _ ih k => match o.dst with
  | none => ih (k + 1)
  | some t => bif anyLook ops t k ops then t :: ih (k + 1) else ih (k + 1)) l
noncomputable def ovsL (ops : List Oper) : List Nat := ovsF ops ops 0
noncomputable def isOv (vs : List Nat) (o : Oper) : Bool := match o.dst with
  | none => false
  | some t => memN t vs
noncomputable def isE (T : TTr) (vs : List Nat) (o : Oper) : Bool := isEff T o.op || isOv vs o
/-- The first operation from i on that may come next, of a kind; how many there are. -/
noncomputable def cands (T : TTr) (vs : List Nat) (eff : Bool) (listed : Nat) (l : List Oper) : Nat → List Nat :=
  List.rec (motive := fun _ => Nat → List Nat) (fun _ => []) (fun o _ ih i => bif !(Nat.testBit listed i) && (isE T vs o == eff) && rdy o listed then i :: ih (i + 1) else ih (i + 1)) l
noncomputable def again (T : TTr) (vs : List Nat) (m listed : Nat) (l : List Oper) : Nat → List Nat :=
  List.rec (motive := fun _ => Nat → List Nat) (fun _ => []) (fun o _ ih i => bif Nat.testBit listed i && isRd T o.op && !(isE T vs o) && !(Nat.testBit m i) then i :: ih (i + 1) else ih (i + 1)) l
/-! Is a region such that nobody's slot is another's, and is a slot written ahead, by an edge, of everyone who looks at it, or behind him? -/
noncomputable def chkOne (ops : List Oper) (ms : List Nat) (i : Nat) (o : Oper) (l : List Oper) : Nat → Bool :=
  List.rec (motive := fun _ => Nat → Bool) (fun _ => true) (fun o' _ ih k => (match o'.dst with
    | none => fun r => r
    | some t => fun r => bif (bif memN t (looksL ops o) then direct k o || Nat.testBit ((nth ms k).getD 0) i else true) && (bif Nat.beq i k then true else !(memN t (dstL (some o)))) then r else false : Bool → Bool) (ih (k + 1))) l
noncomputable def chkF (ops : List Oper) (ms : List Nat) (l : List Oper) : Nat → Bool :=
  List.rec (motive := fun _ => Nat → Bool) (fun _ => true) (fun o _ ih i => bif chkOne ops ms i o ops 0 then ih (i + 1) else false) l
noncomputable def chkR (ops : List Oper) : Bool := chkF ops (masks ops []) ops 0
end Go.Proofs.YtjhaikcokbmdbaaGreatDoor.Cx
