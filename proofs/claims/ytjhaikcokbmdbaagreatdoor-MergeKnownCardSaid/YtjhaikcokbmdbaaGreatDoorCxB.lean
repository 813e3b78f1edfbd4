/-
  Closed runs: code.
-/
import Derived.Test.YtjhaikcokbmdbaaGreatDoorCxA
namespace Go.Proofs.YtjhaikcokbmdbaaGreatDoor.Cx
open Go.RowKit Go.Proofs.YtjhaikcokbmdbaaGreatDoor.Ax

noncomputable def dTmp (t : Nat) (e : Tr CV) : CV := Option.rec (motive := fun _ => CV) .junk (fun v => v) (e.get t)
def dConst (v : Value) (_ : Tr CV) : CV := CV.ofV v
def dGlob (g : Nat) (_ : Tr CV) : CV := .gp g 0
def dFunc (f : Nat) (_ : Tr CV) : CV := .v (.func (.func f) #[] #[])
noncomputable def opd (e : Tr CV) (x : Operand) : CV := Operand.rec (motive := fun _ => Tr CV → CV) dTmp dConst dGlob dFunc x e
section
variable {β : Type}
def pNone (_ : Nat) (e : Tr CV) (_ : CV) (k : Tr CV → β) : β := k e
noncomputable def pSome (t N : Nat) (e : Tr CV) (v : CV) (k : Tr CV → β) : β := Bool.rec (motive := fun _ => β) (k e) (e.setK t (some v) k) (Nat.ble (t + 1) N)
noncomputable def putK (N : Nat) (e : Tr CV) (d : Option Tmp) (v : CV) (k : Tr CV → β) : β := Option.rec (motive := fun _ => Nat → Tr CV → CV → (Tr CV → β) → β) pNone pSome d N e v k
end

/-! Are two values, two memories surely the same? -/
noncomputable def ceqF (n : Nat) : CV → CV → Bool := Nat.rec (motive := fun _ => CV → CV → Bool) (fun _ _ => false) (fun _ ih x y => match x, y with
  | .int k a, .int j b => eqK k j && eqI a b
  | .bool a, .bool b => bif a then b else !b
  | .str a, .str b => lbeq a b
  | .ptr h o, .ptr h' o' | .gp h o, .gp h' o' => Nat.beq h h' && Nat.beq o o'
  | .row h s o l c, .row h' s' o' l' c' => Nat.beq h h' && Nat.beq s s' && Nat.beq o o' && Nat.beq l l' && (match c, c' with
    | none, none => true
    | some a, some b => Nat.beq a b
    | _, _ => false)
  | .mp h, .mp h' => Nat.beq h h'
  | .yld h, .yld h' => Nat.beq h h'
  | .agg a, .agg b | .tup a, .tup b => List.rec (motive := fun _ => List CV → Bool) (fun b => match b with
      | [] => true
      | _ => false) (fun x _ r b => match b with
      | [] => false
      | y :: ys => ih x y && r ys) a b
  | .ifc t a, .ifc u b => Nat.beq t u && ih a b
  | .fnc (.func f) a c, .fnc (.func f') a' c' => Nat.beq f f' && ih (.agg a) (.agg a') && ih (.agg c) (.agg c')
  | .v (.pointer none), .v (.pointer none) => true
  | .v (.slice none 0 0), .v (.slice none 0 0) => true
  | .v (.map none), .v (.map none) => true
  | .v .nilFunc, .v .nilFunc => true
  | .v .nilIface, .v .nilIface => true
  | .v (.func (.func f) ⟨[]⟩ ⟨[]⟩), .v (.func (.func g) ⟨[]⟩ ⟨[]⟩) => Nat.beq f g
  | .junk, .junk => true
  | _, _ => false) n
noncomputable def ceq (x y : CV) : Bool := ceqF 8 x y
noncomputable def ckeqL (a : List CK) : List CK → Bool := List.rec (motive := fun _ => List CK → Bool) (fun b => match b with
  | [] => true
  | _ => false) (fun x _ r b => match b with
  | [] => false
  | y :: ys => ckeq x y && r ys) a
noncomputable def meqL (a : List (CK × CV)) : List (CK × CV) → Bool := List.rec (motive := fun _ => List (CK × CV) → Bool) (fun b => match b with
  | [] => true
  | _ => false) (fun x _ r b => match b with
  | [] => false
  | y :: ys => ckeq x.1 y.1 && ceq x.2 y.2 && r ys) a
noncomputable def beqL (a : List (CK × Nat)) : List (CK × Nat) → Bool := List.rec (motive := fun _ => List (CK × Nat) → Bool) (fun b => match b with
  | [] => true
  | _ => false) (fun x _ r b => match b with
  | [] => false
  | y :: ys => ckeq x.1 y.1 && Nat.beq x.2 y.2 && r ys) a
noncomputable def bseq (a b : Option (Nat × List (CK × Nat))) : Bool := match a, b with
  | none, none => true
  | some (c, l), some (c', l') => Nat.beq c c' && beqL l l'
  | _, _ => false
noncomputable def cheq (a b : Chunk) : Bool := match a, b with
  | .cells x, .cells y => ceqF 9 (.agg x) (.agg y)
  | .map k v m bs, .map k' v' m' bs' => eqKK k k' && Nat.beq v v' && meqL m m' && bseq bs bs'
  | .miter h v l x, .miter h' v' l' x' => Nat.beq h h' && Nat.beq v v' && ckeqL l l' && (match x, x' with
    | none, none => true
    | some a, some b => ckeq a b
    | _, _ => false)
  | .siter l p, .siter l' p' => lbeq l l' && Nat.beq p p'
  | _, _ => false
noncomputable def treq (a : Tr Chunk) : Tr Chunk → Bool := Tr.rec (motive := fun _ => Tr Chunk → Bool) (fun b => match b with
  | .lf => true
  | _ => false) (fun v _ _ rl rr b => match b with
  | .lf => false
  | .nd w l r => (match v, w with
    | none, none => true
    | some x, some y => cheq x y
    | _, _ => false) && rl l && rr r) a
noncomputable def heq (a b : CH) : Bool := Nat.beq a.next b.next && treq a.t b.t

/-! Answers. -/
inductive Fin where
  | ret (v : CV) (H : CH)
  | pan (v : CV) (H : CH)
inductive Ans where
  | bad (f why : Nat)
  | ok (l : List Fin)
def Ans.app (a : Ans) (b : Ans) : Ans := match a with
  | .bad f w => .bad f w
  | .ok l => match b with
    | .bad f w => .bad f w
    | .ok r => .ok (l ++ r)
noncomputable def feq (a b : Fin) : Bool := match a, b with
  | .ret x H, .ret y K => ceq x y && heq H K
  | .pan x H, .pan y K => ceq x y && heq H K
  | _, _ => false
noncomputable def anyF (x : Fin) (l : List Fin) : Bool := List.rec (motive := fun _ => Bool) false (fun y _ r => bif feq x y then true else r) l
noncomputable def dedupL (l : List Fin) : List Fin := List.rec (motive := fun _ => List Fin) [] (fun x _ r => match r with
  | [] => [x]
  | r => bif anyF x r then r else x :: r) l
/-! What a call has left behind that nobody holds. -/
noncomputable def hsF (n : Nat) : CV → List Nat := Nat.rec (motive := fun _ => CV → List Nat) (fun _ => [1000000000000]) (fun _ ih x => match x with
  | .ptr h _ => [h]
  | .row h _ _ _ _ => [h]
  | .mp h => [h]
  | .yld h => [h]
  | .agg cs => List.rec (motive := fun _ => List Nat) [] (fun c _ r => catL (ih c) r) cs
  | .tup cs => List.rec (motive := fun _ => List Nat) [] (fun c _ r => catL (ih c) r) cs
  | .ifc _ x => ih x
  | .fnc _ a c => catL (List.rec (motive := fun _ => List Nat) [] (fun c _ r => catL (ih c) r) a) (List.rec (motive := fun _ => List Nat) [] (fun c _ r => catL (ih c) r) c)
  | _ => []) n
noncomputable def hsL (cs : List CV) : List Nat := List.rec (motive := fun _ => List Nat) [] (fun c _ r => catL (hsF 8 c) r) cs
noncomputable def hsC (c : Chunk) : List Nat := match c with
  | .cells cs => hsL cs
  | .map _ _ m _ => List.rec (motive := fun _ => List Nat) [] (fun p _ r => catL (hsF 8 p.2) r) m
  | .miter hm _ _ _ => [hm]
  | .siter .. => []
  | .dfr => []
  | .loop _ _ _ _ tmps _ _ _ dh => dh :: Tr.rec (motive := fun _ => List Nat) [] (fun v _ _ l r => catL (match v with
    | some v => hsF 8 v
    | none => []) (catL l r)) tmps
/-- New handles of l that are not in seen yet. -/
noncomputable def newH (n0 : Nat) (l seen : List Nat) : List Nat := List.rec (motive := fun _ => List Nat → List Nat) (fun seen => seen) (fun x _ ih seen => bif Nat.ble n0 x && Nat.blt x 1000000000000 && !(memN x seen) then ih (x :: seen) else ih seen) l seen
noncomputable def rootsT (n0 : Nat) (t : Tr Chunk) : Nat → Nat → List Nat → (List Nat → List Fin) → List Fin :=
  Tr.rec (motive := fun _ => Nat → Nat → List Nat → (List Nat → List Fin) → List Fin) (fun _ _ s k => k s) (fun v _ _ rl rr a b s k => (match v with
    | none => fun k => k s
    | some c => fun k => bif Nat.blt b n0 then natsK (newH n0 (hsC c) s) k else k s : (List Nat → List Fin) → List Fin) fun s => rl (2 * a) (a + b) s fun s => rr (2 * a) (2 * a + b) s k) t
noncomputable def reachF (n0 : Nat) (H : CH) (n : Nat) : List Nat → List Nat → (List Nat → List Fin) → List Fin :=
  Nat.rec (motive := fun _ => List Nat → List Nat → (List Nat → List Fin) → List Fin) (fun _ s k => k s) (fun _ ih todo s k => match todo with
    | [] => k s
    | h :: todo => (match H.get h with
      | none => ih todo s k
      | some c => natsK (newH n0 (hsC c) s) fun s' => natsK (catL (takeL s' (len s' - len s)) todo) fun todo => ih todo s' k)) n
noncomputable def allLt (n : Nat) (l : List Nat) : Bool := List.rec (motive := fun _ => Bool) true (fun x _ r => bif Nat.blt x n then r else false) l
/-! Memory that is kept, its new handles in a row from n0 on: those of s, one after the other. -/
noncomputable def idx (s : List Nat) : Nat → Nat → Nat := List.rec (motive := fun _ => Nat → Nat → Nat) (fun _ i => i) (fun x _ ih h i => bif Nat.beq x h then i else ih h (i + 1)) s
noncomputable def rn (n0 : Nat) (s : List Nat) (h : Nat) : Nat := bif Nat.blt h n0 then h else idx s h n0
noncomputable def allIn (n0 : Nat) (s l : List Nat) : Bool := List.rec (motive := fun _ => Bool) true (fun x _ r => bif Nat.blt x n0 || memN x s then r else false) l
noncomputable def ndB (n0 : Nat) (s : List Nat) : Bool := List.rec (motive := fun _ => Bool) true (fun x xs r => bif Nat.ble n0 x && Nat.blt x 1000000000000 && !(memN x xs) then r else false) s
noncomputable def rnF (n0 : Nat) (s : List Nat) (n : Nat) : CV → CV := Nat.rec (motive := fun _ => CV → CV) (fun x => x) (fun _ ih x => match x with
  | .ptr h o => .ptr (rn n0 s h) o
  | .row h z o l c => .row (rn n0 s h) z o l c
  | .mp h => .mp (rn n0 s h)
  | .yld h => .yld (rn n0 s h)
  | .agg cs => .agg (mapL ih cs)
  | .tup cs => .tup (mapL ih cs)
  | .ifc t x => .ifc t (ih x)
  | .fnc f a c => .fnc f (mapL ih a) (mapL ih c)
  | x => x) n
noncomputable def rnO (n0 : Nat) (s : List Nat) (v : Option CV) : Option CV := match v with
  | some v => some (rnF n0 s 8 v)
  | none => none
noncomputable def rnT (n0 : Nat) (s : List Nat) (t : Tr CV) : Tr CV := Tr.rec (motive := fun _ => Tr CV) .lf (fun v _ _ l r => .nd (rnO n0 s v) l r) t
noncomputable def rnP (n0 : Nat) (s : List Nat) (p : CK × CV) : CK × CV := (p.1, rnF n0 s 8 p.2)
noncomputable def rnC (n0 : Nat) (s : List Nat) (c : Chunk) : Chunk := match c with
  | .cells cs => .cells (mapL (rnF n0 s 8) cs)
  | .map kk ver m bs => .map kk ver (mapL (rnP n0 s) m) bs
  | .miter hm ver l last => .miter (rn n0 s hm) ver l last
  | .siter l pos => .siter l pos
  | .loop st pend fid N tmps params asg body dh => .loop st pend fid N (rnT n0 s tmps) params asg body (rn n0 s dh)
  | .dfr => .dfr
noncomputable def valsK {β : Type} (m : List (CK × CV)) : (List (CK × CV) → β) → β :=
  List.rec (motive := fun _ => (List (CK × CV) → β) → β) (fun k => k []) (fun p _ ih k => p.2.elemK fun x => ih fun xs => k ((p.1, x) :: xs)) m
noncomputable def deepK {β : Type} (c : Chunk) (k : Chunk → β) : β := match c with
  | .cells cs => CV.listK cs fun cs => k (.cells cs)
  | .map kk ver m bs => valsK m fun m => k (.map kk ver m bs)
  | .miter hm ver l last => natK hm fun hm => k (.miter hm ver l last)
  | .siter l pos => k (.siter l pos)
  | .loop st pend fid N tmps params asg body dh => natK dh fun dh => k (.loop st pend fid N tmps params asg body dh)
  | .dfr => k .dfr
noncomputable def ndT (v : Option Chunk) (l r : Tr Chunk) : Tr Chunk := match v, l, r with
  | none, .lf, .lf => .lf
  | v, l, r => .nd v l r
/-- What was there before, of it what is mentioned by what is new. -/
noncomputable def oldN (n0 b : Nat) (s : List Nat) (v : Option Chunk) (k : Option (Tr Chunk) → List Fin) (l r : Option (Tr Chunk)) : List Fin := match l, r with
  | some l, some r => (match v with
    | none => k (some (ndT none l r))
    | some c => bif Nat.blt b n0 then (bif allLt n0 (hsC c) then k (some (.nd (some c) l r)) else bif allIn n0 s (hsC c) then deepK (rnC n0 s c) fun c => k (some (.nd (some c) l r)) else k none) else k (some (ndT none l r)))
  | _, _ => k none
noncomputable def oldT (n0 : Nat) (s : List Nat) (t : Tr Chunk) : Nat → Nat → (Option (Tr Chunk) → List Fin) → List Fin :=
  Tr.rec (motive := fun _ => Nat → Nat → (Option (Tr Chunk) → List Fin) → List Fin) (fun _ _ k => k (some .lf)) (fun v _ _ rl rr a b k => rl (2 * a) (a + b) fun l => rr (2 * a) (2 * a + b) fun r => oldN n0 b s v k l r) t
noncomputable def newT (n0 : Nat) (s : List Nat) (H : CH) (l : List Nat) : Nat → Tr Chunk → (Option (Tr Chunk) → List Fin) → List Fin :=
  List.rec (motive := fun _ => Nat → Tr Chunk → (Option (Tr Chunk) → List Fin) → List Fin) (fun _ t k => k (some t)) (fun h _ ih i t k => match H.get h with
    | none => natK (i + 1) fun i => ih i t k
    | some c => bif allIn n0 s (hsC c) then deepK (rnC n0 s c) fun c => t.setK i (some c) fun t => natK (i + 1) fun i => ih i t k else k none) l
noncomputable def gcN (n0 : Nat) (s : List Nat) (v : CV) (k : Option (CV × CH) → List Fin) (t : Option (Tr Chunk)) : List Fin := match t with
  | some t => natK (n0 + len s) fun n2 => (rnF n0 s 8 v).fK fun v => k (some (v, ⟨n2, t⟩))
  | none => k none
noncomputable def gcO (n0 : Nat) (s : List Nat) (v : CV) (H : CH) (k : Option (CV × CH) → List Fin) (t : Option (Tr Chunk)) : List Fin := match t with
  | some t => newT n0 s H s n0 t (gcN n0 s v k)
  | none => k none
noncomputable def gcS (n0 : Nat) (v : CV) (H : CH) (k : Option (CV × CH) → List Fin) (s : List Nat) : List Fin :=
  bif ndB n0 s && allIn n0 s (hsF 8 v) && Nat.blt n0 1000000000000 && Nat.ble (len gmaps) n0 then oldT n0 s H.t 1 0 (gcO n0 s v H k) else k none
noncomputable def gcF (n0 : Nat) (v : CV) (H : CH) (k : Option (CV × CH) → List Fin) : List Fin :=
  natsK (newH n0 (hsF 8 v) []) fun s => rootsT n0 H.t 1 0 s fun s => reachF n0 H 100000 s s (gcS n0 v H k)
noncomputable def stripK (x : Fin) (f : CV → CH → Fin) (k : Fin → List Fin) (o : Option (CV × CH)) : List Fin := match o with
  | some (v, H) => k (f v H)
  | none => k x
noncomputable def stripF (n0 : Nat) (x : Fin) (k : Fin → List Fin) : List Fin := match x with
  | .ret v H => gcF n0 v H (stripK (.ret v H) .ret k)
  | .pan v H => gcF n0 v H (stripK (.pan v H) .pan k)
noncomputable def stripL (n0 : Nat) (l : List Fin) : List Fin := List.rec (motive := fun _ => List Fin) [] (fun x _ r => stripF n0 x fun y => y :: r) l
noncomputable def dedup (b : Bool) (n0 : Nat) (a : Ans) : Ans := match a with
  | .bad f w => .bad f w
  | .ok [x] => .ok (bif b then stripL n0 [x] else [x])
  | .ok l => .ok (dedupL (stripL n0 l))
noncomputable def bindF (a : Ans) (k p : CV → CH → Ans) : Ans := match a with
  | .bad f w => .bad f w
  | .ok [.ret v H] => k v H
  | .ok l => List.rec (motive := fun _ => Ans) (.ok []) (fun x _ r => Ans.app (match x with
    | .ret v H => k v H
    | .pan v H => p v H) r) l
inductive Cle where
  | fn (f : Nat)
  | rnd (h : Nat)
  | dfd (f : Nat)
/-- What is deferred: the mark of a loop over a function; a call. -/
inductive Df where
  | mark (h : Nat)
  | fn (f : Nat) (args : List CV)
abbrev Ds := List Df
abbrev CallT := Cle → List CV → CH → Ans
inductive Td where
  | seq (c : Code)
  | blk (id : Nat)
  | lp (c : Code)
  | sc (c : Code)
inductive Lv where
  | nrm
  | ret
  | ext (id : Nat)
abbrev LvT := Lv → Ds → Tr CV → CH → Ans
/-- What is the same all through an activation: the program; calls; the function, its slots; the round that it is; how it is left. -/
structure Cx where
  C : Cf
  call : CallT
  fid : Nat
  N : Nat
  rd : Option Nat
  lv : LvT
  /-- Entered as a deferred call by a function that returns? -/
  dm : Bool
abbrev KT := Tr CV → CH → Ans
/-- A panic leaves a function that has no marks. -/
def panF (X : Cx) (ds : Ds) (v : CV) (H : CH) : Ans := match X.rd, ds with
  | none, [] => .ok [.pan v H]
  | _, _ => .bad X.fid 916
def uNo (w : Nat) (_ : Option Tmp) (X : Cx) (_ : Ds) (_ : Tr CV) (_ : CH) (_ : KT) : Ans := .bad X.fid w
noncomputable def uOld (v : CV) (c : Cmd) (d : Option Tmp) (X : Cx) (_ : Ds) (e : Tr CV) (H : CH) (K : KT) : Ans := c.appK H fun H => putK X.N e d v fun e => K e H
noncomputable def uNew (v : CV) (c : Cmd) (d : Option Tmp) (X : Cx) (_ : Ds) (e : Tr CV) (H : CH) (K : KT) : Ans := v.fK fun v => c.appK H fun H => putK X.N e d v fun e => K e H
noncomputable def uMany (l : List (CV × Cmd)) (d : Option Tmp) (X : Cx) (_ : Ds) (e : Tr CV) (H : CH) (K : KT) : Ans :=
  List.rec (motive := fun _ => Ans) (.ok []) (fun p _ r => Ans.app (p.1.fK fun v => p.2.appK H fun H => putK X.N e d v fun e => K e H) r) l
noncomputable def uCall (f : Nat) (args : List CV) (d : Option Tmp) (X : Cx) (ds : Ds) (e : Tr CV) (H : CH) (K : KT) : Ans := bindF (X.call (.fn f) args H) (fun v H => putK X.N e d v fun e => K e H) (panF X ds)
noncomputable def uRnd (l : Nat) (args : List CV) (d : Option Tmp) (X : Cx) (ds : Ds) (e : Tr CV) (H : CH) (K : KT) : Ans := bindF (X.call (.rnd l) args H) (fun v H => putK X.N e d v fun e => K e H) (panF X ds)
def uPan (v : CV) (_ : Option Tmp) (X : Cx) (ds : Ds) (_ : Tr CV) (H : CH) (_ : KT) : Ans := panF X ds v H
noncomputable def useO (o : Out) (d : Option Tmp) (X : Cx) (ds : Ds) (e : Tr CV) (H : CH) (K : KT) : Ans :=
  Out.rec (motive := fun _ => Option Tmp → Cx → Ds → Tr CV → CH → KT → Ans) uNo uOld uNew uMany uCall uRnd uPan o d X ds e H K
def wBool (b want : Bool) : Bool := match want with
  | true => b
  | false => !b
noncomputable def wantV (ops : List Oper) (j : Nat) (e : Tr CV) : CV := match nth ops j with
  | none => .tup []
  | some o => (match o.dst with
    | none => .tup []
    | some t => dTmp t e)
noncomputable def gPick (fid : Nat) (v : CV) (want : Bool) (yes no : Ans) : Ans := match v with
  | .bool b => Bool.rec no yes (wBool b want)
  | .tup [] => no
  | _ => .bad fid 929
noncomputable def doO (X : Cx) (ds : Ds) (o : Oper) (e : Tr CV) (H : CH) (K : KT) : Ans := useO (opC X.C (opd e) H o.op) o.dst X ds e H K
noncomputable def gNone (X : Cx) (ds : Ds) (_ : Array Oper) (o : Oper) (e : Tr CV) (H : CH) (K : KT) : Ans := doO X ds o e H K
noncomputable def gSome (g : Nat × Bool) (X : Cx) (ds : Ds) (ops : Array Oper) (o : Oper) (e : Tr CV) (H : CH) (K : KT) : Ans :=
  gPick X.fid (wantV ops.toList g.1 e) g.2 (doO X ds o e H K) (putK X.N e o.dst (.tup []) fun e => K e H)
noncomputable def stepO (X : Cx) (ds : Ds) (ops : Array Oper) (o : Oper) (e : Tr CV) (H : CH) (K : KT) : Ans :=
  Option.rec (motive := fun _ => Cx → Ds → Array Oper → Oper → Tr CV → CH → KT → Ans) gNone gSome o.guard X ds ops o e H K
noncomputable def listR (X : Cx) (ds : Ds) (ops : Array Oper) (l : List Oper) : Tr CV → CH → KT → Ans :=
  List.rec (motive := fun _ => Tr CV → CH → KT → Ans) (fun e H K => K e H) (fun o _ ih e H K => stepO X ds ops o e H fun e H => ih e H K) l
def readV (o : Out) : Option CV := match o with
  | .old v .nop => some v
  | .new v .nop => some v
  | _ => none
/-- What a reading operation comes to. -/
noncomputable def readS (C : Cf) (ops : List Oper) (o : Oper) (e : Tr CV) (H : CH) : Option CV := match o.guard with
  | none => readV (opC C (opd e) H o.op)
  | some g => (match wantV ops g.1 e with
    | .bool b => bif wBool b g.2 then readV (opC C (opd e) H o.op) else some (.tup [])
    | .tup [] => some (.tup [])
    | _ => none)
/-- Does a reading operation still come to what stands in its slot? -/
noncomputable def stays (C : Cf) (ops : List Oper) (e : Tr CV) (H : CH) (i : Nat) : Bool := match nth ops i with
  | none => false
  | some o => (match readS C ops o e H, o.dst with
    | none, _ => false
    | some _, none => true
    | some v, some t => (match e.get t with
      | some u => ceq v u
      | none => false))
noncomputable def stayL (C : Cf) (ops : List Oper) (e : Tr CV) (H : CH) (l : List Nat) : Bool := List.rec (motive := fun _ => Bool) true (fun i _ r => bif stays C ops e H i then r else false) l
noncomputable def pRd (X : Cx) (ops : Array Oper) (i : Nat) (e : Tr CV) (H : CH) (K : KT) : Ans := match nth ops.toList i with
  | none => .bad X.fid 901
  | some o => (match readS X.C ops.toList o e H with
    | none => .bad X.fid 930
    | some v => v.fK fun v => putK X.N e o.dst v fun e => K e H)
noncomputable def pEf (X : Cx) (ds : Ds) (ops : Array Oper) (j : Nat) (ag : List Nat) (e : Tr CV) (H : CH) (K : KT) : Ans := match nth ops.toList j with
  | none => .bad X.fid 901
  | some o => stepO X ds ops o e H fun e H => bif stayL X.C ops.toList e H ag then K e H else .bad X.fid 902
noncomputable def cxC (X : Cx) (k : Cf → Ans) : Ans := Cx.rec (motive := fun _ => Ans) (fun C _ _ _ _ _ _ => k C) X
abbrev DrawT := Nat → Tr CV → CH → KT → Ans
section
variable (X : Cx) (ds : Ds) (ops : Array Oper)
/-- An effect, and what is looked at again behind it. -/
noncomputable def drawE (C : Cf) (m : Nat) (ih : DrawT) (e : Tr CV) (H : CH) (K : KT) (j : Nat) : Ans :=
  pEf X ds ops j (again C.T (ovsL ops.toList) ((nth (masks ops.toList []) j).getD 0) m ops.toList 0) e H fun e H => natK (Nat.lor m (2 ^ j)) fun m => ih m e H K
/-! Orders that come together: behind each effect all slots (and what is done) as one value, what is new named anew. -/
noncomputable def packV (e : Tr CV) (n : Nat) : CV := Option.rec (motive := fun _ => CV) .junk (fun v => v) (e.get n)
noncomputable def packF (e : Tr CV) (n : Nat) : List CV → List CV := Nat.rec (motive := fun _ => List CV → List CV) (fun acc => acc) (fun n ih acc => ih (packV e n :: acc)) n
noncomputable def packM (N m : Nat) (e : Tr CV) (H : CH) : Ans := .ok [.ret (.tup (.int .i64 (.ofNat m) :: packF e N [])) H]
noncomputable def envK {β : Type} (l : List CV) : Nat → Tr CV → (Tr CV → β) → β :=
  List.rec (motive := fun _ => Nat → Tr CV → (Tr CV → β) → β) (fun _ t k => k t) (fun x _ ih n t k => t.setK n (some x) fun t => natK (n + 1) fun n => ih n t k) l
noncomputable def mskE (T : TTr) (vs : List Nat) (m : Nat) (ms : List Nat) (l : List Oper) : Nat → Nat → Nat :=
  List.rec (motive := fun _ => Nat → Nat → Nat) (fun _ acc => acc) (fun o _ ih i acc => bif Nat.testBit m i && isE T vs o then natK (Nat.lor acc ((nth ms i).getD 0)) fun acc => ih (i + 1) acc else ih (i + 1) acc) l
noncomputable def again2 (T : TTr) (vs : List Nat) (m listed : Nat) (l : List Oper) : Nat → List Nat :=
  List.rec (motive := fun _ => Nat → List Nat) (fun _ => []) (fun o _ ih i => bif Nat.testBit listed i && !(isE T vs o) && !(Nat.testBit m i) then i :: ih (i + 1) else ih (i + 1)) l
noncomputable def eachA {α : Type} (f : α → Ans) (l : List α) : Ans := List.rec (motive := fun _ => Ans) (.ok []) (fun x _ r => Ans.app (f x) r) l
def noFn (ds : Ds) : Bool := match ds with
  | [] => true
  | .mark _ :: ds => noFn ds
  | .fn _ _ :: _ => false
noncomputable def rdsN (C : Cf) (n : Nat) : Nat → Tr CV → CH → Ans := Nat.rec (motive := fun _ => Nat → Tr CV → CH → Ans) (fun _ _ _ => .bad X.fid 947) (fun _ ih m e H => match cands C.T (ovsL ops.toList) false m ops.toList 0 with
  | i :: _ => pRd X ops i e H fun e H => natK (Nat.lor m (2 ^ i)) fun m => ih m e H
  | [] => packM X.N m e H) n
noncomputable def levE (C : Cf) (n m : Nat) (e : Tr CV) (H : CH) (j : Nat) : Ans :=
  pEf X ds ops j (again C.T (ovsL ops.toList) ((nth (masks ops.toList []) j).getD 0) m ops.toList 0) e H fun e H => natK (Nat.lor m (2 ^ j)) fun m => rdsN X ops C n m e H
noncomputable def levAll (C : Cf) (n m : Nat) (e : Tr CV) (H : CH) : Ans := match cands C.T (ovsL ops.toList) false m ops.toList 0 with
  | [] => (match cands C.T (ovsL ops.toList) true m ops.toList 0 with
    | [] => .bad X.fid 948
    | j :: js => eachA (levE X ds ops C n m e H) (j :: js))
  | _ => .bad X.fid 949
noncomputable def unpk (C : Cf) (k : Nat → Tr CV → CH → Ans) (x : Fin) : Ans := match x with
  | .ret (.tup (.int _ (.ofNat m) :: vs)) H => envK vs 0 .lf fun e => bif stayL C ops.toList e H (again2 C.T (ovsL ops.toList) (mskE C.T (ovsL ops.toList) m (masks ops.toList []) ops.toList 0 0) m ops.toList 0) then k m e H else .bad X.fid 950
  | .pan v H => .ok [.pan v H]
  | _ => .bad X.fid 951
noncomputable def lastL (C : Cf) (l : List Fin) : Bool := match l with
  | .ret (.tup (.int _ (.ofNat m) :: _)) _ :: _ => (match cands C.T (ovsL ops.toList) true m ops.toList 0 with
    | [] => true
    | _ => false)
  | _ => true
noncomputable def levS (C : Cf) (n n0 : Nat) (fast : Nat → Tr CV → CH → Ans) (ih : Ans → Ans) (a : Ans) : Ans := match a with
  | .bad f w => .bad f w
  | .ok [x] => unpk X ops C fast x
  | .ok l => bif lastL ops C l then eachA (unpk X ops C fast) l else ih (dedup true n0 (eachA (unpk X ops C (levAll X ds ops C n)) l))
noncomputable def levN (C : Cf) (n n0 : Nat) (fast : Nat → Tr CV → CH → Ans) (k : Nat) : Ans → Ans := Nat.rec (motive := fun _ => Ans → Ans) (fun _ => .bad X.fid 952) (fun _ ih => levS X ds ops C n n0 fast ih) k
/-- What can be read is read; then an effect: each that may be the next one. -/
noncomputable def drawS (C : Cf) (n0 : Nat) (ih : DrawT) (m : Nat) (e : Tr CV) (H : CH) (K : KT) : Ans := match cands C.T (ovsL ops.toList) false m ops.toList 0 with
  | i :: _ => pRd X ops i e H fun e H => natK (Nat.lor m (2 ^ i)) fun m => ih m e H K
  | [] => (match cands C.T (ovsL ops.toList) true m ops.toList 0 with
    | [] => K e H
    | [j] => drawE X ds ops C m ih e H K j
    | js => bif noFn ds then levN X ds ops C (len ops.toList + 1) n0 (fun m e H => ih m e H K) (len ops.toList + 1) (dedup true n0 (eachA (levE X ds ops C (len ops.toList + 1) m e H) js)) else eachA (drawE X ds ops C m ih e H K) js)
noncomputable def drawN (C : Cf) (n0 : Nat) (n : Nat) : DrawT := Nat.rec (motive := fun _ => DrawT) (fun _ _ _ _ => .bad X.fid 931) (fun _ ih => drawS X ds ops C n0 ih) n
noncomputable def drawC (e : Tr CV) (H : CH) (K : KT) : Ans :=
  Bool.rec (motive := fun _ => Ans) (.bad X.fid 932) (cxC X fun C => drawN X ds ops C H.next (len ops.toList + 1) 0 e H K) (chkR ops.toList)
end
/-! The same, by a plan of the region: its operations in the order in which they are done, laid down ahead. -/
inductive Pl where
  | out
  | fin
  | rd (o : Option Oper) (p : Pl)
  | ef (o : Option Oper) (ag : List (Option Oper)) (p : Pl)
  | many (n m : Nat)
noncomputable def plN (T : TTr) (ops : List Oper) (n : Nat) : Nat → Pl := Nat.rec (motive := fun _ => Nat → Pl) (fun _ => .out) (fun n ih m => match cands T (ovsL ops) false m ops 0 with
  | i :: _ => natK (Nat.lor m (2 ^ i)) fun m' => .rd (nth ops i) (ih m')
  | [] => (match cands T (ovsL ops) true m ops 0 with
    | [] => .fin
    | [j] => natK (Nat.lor m (2 ^ j)) fun m' => .ef (nth ops j) (mapL (nth ops) (again T (ovsL ops) ((nth (masks ops []) j).getD 0) m ops 0)) (ih m')
    | _ => .many n m)) n
noncomputable def staysO (C : Cf) (ops : List Oper) (e : Tr CV) (H : CH) (x : Option Oper) : Bool := match x with
  | none => false
  | some o => (match readS C ops o e H, o.dst with
    | none, _ => false
    | some _, none => true
    | some v, some t => (match e.get t with
      | some u => ceq v u
      | none => false))
noncomputable def stayLO (C : Cf) (ops : List Oper) (e : Tr CV) (H : CH) (l : List (Option Oper)) : Bool := List.rec (motive := fun _ => Bool) true (fun o _ r => bif staysO C ops e H o then r else false) l
noncomputable def pRdO (X : Cx) (ops : Array Oper) (x : Option Oper) (e : Tr CV) (H : CH) (K : KT) : Ans := match x with
  | none => .bad X.fid 901
  | some o => (match readS X.C ops.toList o e H with
    | none => .bad X.fid 930
    | some v => v.fK fun v => putK X.N e o.dst v fun e => K e H)
noncomputable def pEfO (X : Cx) (ds : Ds) (ops : Array Oper) (x : Option Oper) (ag : List (Option Oper)) (e : Tr CV) (H : CH) (K : KT) : Ans := match x with
  | none => .bad X.fid 901
  | some o => stepO X ds ops o e H fun e H => bif stayLO X.C ops.toList e H ag then K e H else .bad X.fid 902
section
variable (X : Cx) (ds : Ds) (ops : Array Oper)
noncomputable def plRun (C : Cf) (n0 : Nat) (p : Pl) : Tr CV → CH → KT → Ans :=
  Pl.rec (motive := fun _ => Tr CV → CH → KT → Ans) (fun _ _ _ => .bad X.fid 931) (fun e H K => K e H) (fun o _ ih e H K => pRdO X ops o e H fun e H => ih e H K)
    (fun o ag _ ih e H K => pEfO X ds ops o ag e H fun e H => ih e H K) (fun n m e H K => drawS X ds ops C n0 (drawN X ds ops C n0 n) m e H K) p
noncomputable def drawQ (e : Tr CV) (H : CH) (K : KT) : Ans :=
  Bool.rec (motive := fun _ => Ans) (.bad X.fid 932) (cxC X fun C => plRun X ds ops C H.next (plN C.T ops.toList (len ops.toList + 1) 0) e H K) (chkR ops.toList)
end
noncomputable def exitT (id : Nat) (l : List Td) : Option (List Td) := List.rec (motive := fun _ => Option (List Td)) none (fun t ts ih => match t with
  | .blk j => bif Nat.beq j id then some ts else ih
  | _ => ih) l
noncomputable def resC (C : Cf) (e : Tr CV) (H : CH) (r : ResultVar) : Option CV := match r with
  | .tmp t => e.get t
  | .cell a t => (match loadC C.T C.G H t (opd e (.tmp a)) with
    | .old v .nop => some v
    | .new v .nop => some v
    | _ => none)
noncomputable def delM (fid h : Nat) (ih : (CH → Ans) → CH → Ans) (k : CH → Ans) (H : CH) : Ans := match H.get h with
  | some .dfr => (Cmd.del h).appK H fun H => ih k H
  | _ => .bad fid 935
noncomputable def delF (call : CallT) (fid f : Nat) (args : List CV) (ih : (CH → Ans) → CH → Ans) (k : CH → Ans) (H : CH) : Ans := bindF (call (.dfd f) args H) (fun _ H => ih k H) (fun _ _ => .bad fid 942)
noncomputable def delAll (call : CallT) (fid : Nat) (ds : Ds) : (CH → Ans) → CH → Ans := List.rec (motive := fun _ => (CH → Ans) → CH → Ans) (fun k H => k H) (fun d _ ih k H => match d with
  | .mark h => delM fid h ih k H
  | .fn f args => delF call fid f args ih k H) ds
noncomputable def resL (C : Cf) (e : Tr CV) (H : CH) (rs : List ResultVar) : Option (List CV) := List.rec (motive := fun _ => Option (List CV)) (some []) (fun r _ ih => match resC C e H r, ih with
  | some v, some l => some (v :: l)
  | _, _ => none) rs
noncomputable def valC (C : Cf) (fid : Nat) (rs : List ResultVar) (e : Tr CV) (H : CH) (k : CV → Ans) : Ans := match rs with
  | [] => k (.tup [])
  | [r] => (match resC C e H r with
    | some v => v.fK k
    | none => .bad fid 903)
  | rs => (match resL C e H rs with
    | some l => CV.listK l fun l => k (.tup l)
    | none => .bad fid 904)
/-- A function is left. -/
noncomputable def lvF (C : Cf) (call : CallT) (fid : Nat) (rs : List ResultVar) : LvT := fun j ds e H => match j with
  | .ext _ => .bad fid 907
  | _ => delAll call fid ds (fun H => valC C fid rs e H fun v => .ok [.ret v H]) H
/-- A deferred call's function is left. -/
noncomputable def lvD (C : Cf) (fid : Nat) (rs : List ResultVar) : LvT := fun j ds e H => match j, ds with
  | .ext _, _ => .bad fid 907
  | _, [] => valC C fid rs e H fun v => .ok [.ret v H]
  | _, _ => .bad fid 943
/-- A round ends. -/
noncomputable def endR (fid l : Nat) (j : Lv) (H : CH) : Ans := match H.get l with
  | some (.loop _ _ f N tmps params asg body dh) => (match j with
    | .nrm => (Cmd.set l (.loop .ready none f N tmps params asg body dh)).appK H fun H => .ok [.ret (.bool true) H]
    | .ret => (Cmd.set l (.loop .done (some .ret) f N tmps params asg body dh)).appK H fun H => .ok [.ret (.bool false) H]
    | .ext id => (Cmd.set l (.loop .done (some (.exit id)) f N tmps params asg body dh)).appK H fun H => .ok [.ret (.bool false) H])
  | _ => .bad fid 914
noncomputable def lvB (fid l : Nat) : LvT := fun j ds _ H => match ds with
  | [] => endR fid l j H
  | _ => .bad fid 915
/-- A round's body begins. -/
noncomputable def lvA (fid l : Nat) (k : Tr CV → CH → Ans) : LvT := fun j ds e H => match j, ds with
  | .nrm, [] => (match H.get l with
    | some (.loop .ready pend f N tmps params asg body dh) => (Cmd.set l (.loop .busy pend f N tmps params asg body dh)).appK H fun H => k e H
    | _ => .bad fid 918)
  | _, _ => .bad fid 917
abbrev RunT := List Td → Ds → Tr CV → CH → Ans
noncomputable def endL (fid l : Nat) (H : CH) (k : Option Code → CH → Ans) : Ans := match H.get l with
  | some (.loop .busy ..) => .bad fid 919
  | some (.loop _ pend f N tmps params asg body dh) => (Cmd.set l (.loop .exhausted pend f N tmps params asg body dh)).appK H fun H => (Cmd.del l).appK H (k pend)
  | _ => .bad fid 920
noncomputable def rangeG (X : Cx) (f : Operand) (params : Array Tmp) (asg body : Code) (e : Tr CV) (k : Option Code → Ds → CH → Ans) (dh : Nat) (ds : Ds) (H : CH) : Ans :=
  (Cmd.add (.loop .ready none X.fid X.N e params.toList asg body dh)).appK H fun H' => match callC X.C (opd e f) [.yld H.next] with
    | .call f args => (match X.C.X.get f with
      | none => bindF (X.call (.fn f) args H') (fun _ H'' => endL X.fid H.next H'' fun pend H => k pend ds H) fun _ _ => .bad X.fid 921
      | some _ => .bad X.fid 934)
    | _ => .bad X.fid 922
noncomputable def rangeR (X : Cx) (f : Operand) (params : Array Tmp) (asg body : Code) (ds : Ds) (e : Tr CV) (H : CH) (k : Option Code → Ds → CH → Ans) : Ans :=
  match X.rd with
  | none => (Cmd.add .dfr).appK H fun H' => rangeG X f params asg body e k H.next (.mark H.next :: ds) H'
  | some l => (match H.get l with
    | some (.loop _ _ _ _ _ _ _ _ dh) => rangeG X f params asg body e k dh ds H
    | _ => .bad X.fid 923)
section
variable (X : Cx) (ih : RunT) (k : List Td) (ds : Ds) (e : Tr CV) (H : CH)
abbrev ArmT := Cx → RunT → List Td → Ds → Tr CV → CH → Ans
def kSkip : ArmT := fun _ ih k ds e H => ih k ds e H
/-- Regions that are gone through in a way of their own: recover; a closure that is deferred. -/
inductive Sp where
  | no
  | rcv (d : Option Tmp)
  | dfr (o : Oper) (f : Operand)
def spc (ops : List Oper) : Sp := match ops with
  | [⟨d, .call ⟨.builtin .recover, ⟨[]⟩, _⟩, _, _, _, none⟩] => .rcv d
  | [o, ⟨none, .defer ⟨.value f, ⟨[]⟩, _⟩, _, _, _, none⟩] => .dfr o f
  | _ => .no
noncomputable def dfC (f : CV) : Option Df := match f with
  | .v (.func (.func f) ⟨[]⟩ ⟨[]⟩) => some (.fn f [])
  | .fnc (.func f) a c => some (.fn f (catL a c))
  | _ => none
noncomputable def spNo (ops : Array Oper) : ArmT := fun X ih k ds e H => listR X ds ops ops.toList e H (ih k ds)
noncomputable def spRcv (d : Option Tmp) : ArmT := fun X ih k ds e H => Bool.rec (motive := fun _ => Ans) (.bad X.fid 944) (putK X.N e d (.v .nilIface) fun e => ih k ds e H) X.dm
noncomputable def spPush (X : Cx) (ih : RunT) (k : List Td) (ds : Ds) (e : Tr CV) (H : CH) (d : Option Df) : Ans := match d, X.rd with
  | some d, none => ih k (d :: ds) e H
  | _, _ => .bad X.fid 945
noncomputable def spDfr (ops : Array Oper) (o : Oper) (f : Operand) : ArmT := fun X ih k ds e H => stepO X ds ops o e H fun e H => spPush X ih k ds e H (dfC (opd e f))
noncomputable def kPlain (ops : Array Oper) : ArmT := fun X ih k ds e H => Sp.rec (motive := fun _ => ArmT) (spNo ops) spRcv (spDfr ops) (spc ops.toList) X ih k ds e H
noncomputable def kReg (_ : Nat) (ops : Array Oper) (draw : Bool) : ArmT := fun X ih k ds e H =>
  Bool.rec (motive := fun _ => Ans) (kPlain ops X ih k ds e H) (drawQ X ds ops e H (ih k ds)) draw
def kSeq (a b : Code) : ArmT := fun _ ih k ds e H => ih (.seq a :: .seq b :: k) ds e H
noncomputable def kCond (c : Operand) (a b : Code) : ArmT := fun X ih k ds e H => match opd e c with
  | .bool true => ih (.seq a :: k) ds e H
  | .bool false => ih (.seq b :: k) ds e H
  | _ => .bad X.fid 906
def kBlk (id : Nat) (b : Code) : ArmT := fun _ ih k ds e H => ih (.seq b :: .blk id :: k) ds e H
def kScope (b : Code) : ArmT := fun _ ih k ds e H => ih (.seq b :: .sc b :: k) ds e H
def kLoop (b : Code) : ArmT := fun _ ih k ds e H => ih (.seq b :: .lp b :: k) ds e H
noncomputable def kRange (f : Operand) (params : Array Tmp) (asg body : Code) : ArmT := fun X ih k ds e H =>
  rangeR X f params asg body ds e H fun pend ds H => match pend with
    | none => ih k ds e H
    | some .ret => ih (.seq .ret :: k) ds e H
    | some (.exit id) => ih (.seq (.exit id) :: k) ds e H
    | _ => .bad X.fid 933
noncomputable def kExit (id : Nat) : ArmT := fun X ih k ds e H => match exitT id k with
  | some k => ih k ds e H
  | none => X.lv (.ext id) ds e H
def kNo (w : Nat) : ArmT := fun X _ _ _ _ _ => .bad X.fid w
noncomputable def kRet : ArmT := fun X _ _ ds e H => X.lv .ret ds e H
noncomputable def codeR (c : Code) : ArmT := Code.rec (motive := fun _ => ArmT) kSkip kReg (fun a b _ _ => kSeq a b) (fun c a b _ _ => kCond c a b) (fun id b _ => kBlk id b) (fun b _ => kLoop b) (fun f ps a b _ _ => kRange f ps a b) kExit (fun b _ => kScope b) (fun _ => kSkip) (fun _ => kNo 924) kRet (fun _ => kNo 925) c
noncomputable def tdR (t : Td) : ArmT := Td.rec (motive := fun _ => ArmT) codeR (fun _ => kSkip) kLoop (fun _ => kSkip) t
noncomputable def sNil (X : Cx) (_ : RunT) (ds : Ds) (e : Tr CV) (H : CH) : Ans := X.lv .nrm ds e H
noncomputable def sCons (t : Td) (k : List Td) (X : Cx) (ih : RunT) (ds : Ds) (e : Tr CV) (H : CH) : Ans := tdR t X ih k ds e H
noncomputable def runS (X : Cx) (ih : RunT) (stk : List Td) (ds : Ds) (e : Tr CV) (H : CH) : Ans :=
  List.rec (motive := fun _ => Cx → RunT → Ds → Tr CV → CH → Ans) sNil (fun t k _ => sCons t k) stk X ih ds e H
end
/-- So many steps, and then what is said. -/
noncomputable def runK (X : Cx) (K : RunT) (n : Nat) : RunT := Nat.rec (motive := fun _ => RunT) K (fun _ ih => runS X ih) n
noncomputable def run (X : Cx) (n : Nat) : RunT := Nat.rec (motive := fun _ => RunT) (fun _ _ _ _ => .bad X.fid 905) (fun _ ih => runS X ih) n
noncomputable def cmpN (a b : List Nat) : Int := bif lless a b then .negSucc 0 else bif lbeq a b then .ofNat 0 else .ofNat 1
/-! CRC-32C, by words of four bits. -/
def halfB : Nat := 0xf36e6f75_e330a81a_d3d3e1ab_c38d26c4_b21572c9_a24bb5a6_92a8fc17_82f63b78_7198540d_61c69362_5125dad3_417b1dbc_30e349b1_20bd8ede_105ec76f_00000000
def halfN (i : Nat) : Nat := Nat.shiftRight halfB (32 * i) % 4294967296
section
variable {β : Type}
noncomputable def crcH (s : Nat) (k : Nat → β) : β := natK (Nat.xor (Nat.shiftRight s 4) (halfN (s % 16))) k
noncomputable def crcB (s c : Nat) (k : Nat → β) : β := natK (Nat.xor s c) fun s => crcH s fun s => crcH s k
noncomputable def crcL (l : List Nat) : Nat → (Nat → β) → β := List.rec (motive := fun _ => Nat → (Nat → β) → β) (fun s k => k s) (fun c _ ih s k => crcB s c fun s => ih s k) l
noncomputable def crcK (s : Nat) (l : List Nat) (k : Nat → β) : β := natK (4294967295 - s) fun s => crcL l s fun s => natK (4294967295 - s) k
end
noncomputable def crcC (fid s : Nat) (x : CV) (H : CH) : Ans := match rowCells H 1 x with
  | none => .bad fid 936
  | some cs => (match bytesC cs with
    | none => .bad fid 937
    | some l => bif Nat.blt s 4294967296 && Nat.ble (len l) 140737488351232 then crcK s l fun s => .ok [.ret (.int .u32 (.ofNat s)) H] else .bad fid 938)
noncomputable def cmpC (fid : Nat) (x y : CV) (H : CH) : Ans := match rowCells H 1 x, rowCells H 1 y with
  | some a, some b => (match bytesC a, bytesC b with
    | some a, some b => (CV.int .i64 (cmpN a b)).fK fun v => .ok [.ret v H]
    | _, _ => .bad fid 954)
  | _, _ => .bad fid 953
noncomputable def extC (fid x : Nat) (args : List CV) (H : CH) : Ans := match x, args with
  | 0, [.ifc t (.mp h)] => (match H.get h with
    | some (.map kk _ m _) => (Cmd.add (.map kk 0 m none)).appK H fun H' => .ok [.ret (.ifc t (.mp H.next)) H']
    | _ => .bad fid 909)
  | 1, [.str a, .str b] => (CV.int .i64 (cmpN a b)).fK fun v => .ok [.ret v H]
  | 2, [x] => .ok [.ret x H]
  | 3, [.int .u32 (.ofNat s), x] => crcC fid s x H
  | 4, [x, y] => cmpC fid x y H
  | 5, [] => .ok [.ret (.bool true) H]
  | _, _ => .bad fid 910
noncomputable def bindP {β : Type} (N : Nat) (ps : List Nat) : List CV → Tr CV → (Option (Tr CV) → β) → β :=
  List.rec (motive := fun _ => List CV → Tr CV → (Option (Tr CV) → β) → β) (fun vs e k => match vs with
    | [] => k (some e)
    | _ => k none) (fun p _ ih vs e k => match vs with
    | [] => k none
    | v :: vs => bif Nat.blt p N then e.setK p (some v) fun e => ih vs e k else k none) ps
/-! Functions by their numbers, as a tree. -/
noncomputable def splL {α : Type} (l : List α) : List α × List α := List.rec (motive := fun _ => List α × List α) ([], []) (fun x _ r => (x :: r.2, r.1)) l
noncomputable def triF {α : Type} (n : Nat) : List α → Tr α := Nat.rec (motive := fun _ => List α → Tr α) (fun _ => .lf) (fun _ ih l => match l with
  | [] => .lf
  | x :: xs => .nd (some x) (ih (splL xs).1) (ih (splL xs).2)) n
noncomputable def fnd (C : Cf) (f : Nat) : Option Func := (triF C.P.funcs.toList.length C.P.funcs.toList).get f
noncomputable def callN (C : Cf) (n : Nat) : CallT :=
  Nat.rec (motive := fun _ => CallT) (fun _ _ _ => .bad 0 911) (fun n ih c args H => match c with
    | .fn f => (match C.X.get f with
      | some x => extC f x args H
      | none => (match fnd C f with
        | none => .bad f 912
        | some fd => (match fd.body with
          | none => .bad f 913
          | some c => bif Nat.ble (len args) fd.ntmps && !(fd.name == "runtime.NumGoroutine") then envK args 0 .lf fun e => dedup (Nat.ble C.S n) H.next (run ⟨C, ih, f, fd.ntmps, none, lvF C ih f fd.results.toList, false⟩ 1000000 [.seq c] [] e H) else .bad f 926)))
    | .dfd f => (match fnd C f with
      | none => .bad f 912
      | some fd => (match fd.body with
        | none => .bad f 913
        | some c => bif Nat.ble (len args) fd.ntmps && !(fd.name == "runtime.NumGoroutine") then envK args 0 .lf fun e => dedup (Nat.ble C.S n) H.next (run ⟨C, ih, f, fd.ntmps, none, lvD C f fd.results.toList, true⟩ 1000000 [.seq c] [] e H) else .bad f 926))
    | .rnd l => (match H.get l with
      | some (.loop _ _ f N tmps params asg body _) => bindP N params args tmps fun e => (match e with
        | some e => run ⟨C, ih, f, N, some l, lvA f l fun e H => run ⟨C, ih, f, N, some l, lvB f l, false⟩ 1000000 [.seq body] [] e H, false⟩ 1000000 [.seq asg] [] e H
        | none => .bad f 927)
      | _ => .bad 0 928)) n
/-- The parts of a function's code, by numbers. -/
noncomputable def subs (c : Code) : List Code := Code.rec (motive := fun _ => List Code) [.skip] (fun i o d => [.region i o d]) (fun a b x y => .seq a b :: catL x y) (fun c a b x y => .cond c a b :: catL x y) (fun i a x => .block i a :: x) (fun a x => .loop a :: x)
  (fun f p a b x y => .rangeFunc f p a b :: catL x y) (fun i => [.exit i]) (fun a x => .scope a :: x) (fun l => [.label l]) (fun l => [.goto l]) [.ret] (fun w => [.refuse w]) c
noncomputable def cdF (C : Cf) (f i : Nat) : Code := match fnd C f with
  | none => .skip
  | some fd => (match fd.body with
    | none => .skip
    | some c => (match nth (subs c) i with
      | some c => c
      | none => .skip))
/-- Where a run begins. -/
noncomputable def h0 : CH := ⟨len gmaps, .lf⟩
noncomputable def mainC (C : Cf) (f : Nat) : Ans := callN C 1000 (.fn f) [] h0
end Go.Proofs.YtjhaikcokbmdbaaGreatDoor.Cx
