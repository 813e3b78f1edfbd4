/-
  Closed runs: a machine that reckons. Tables by numbers, values.
-/
import Derived.Test.YtjhaikcokbmdbaaGreatDoorBm2
namespace Go.Proofs.YtjhaikcokbmdbaaGreatDoor.Cx
open Go.RowKit Go.Proofs.YtjhaikcokbmdbaaGreatDoor.Ax

/-! Tables by numbers. All that is reckoned goes by recursors; what a step unfolds is kept small: the arms of a case are closed terms. -/
inductive Pt where
  | z
  | l (p : Pt)
  | r (p : Pt)
  deriving DecidableEq
noncomputable def pathF (f : Nat) : Nat → Pt := Nat.rec (motive := fun _ => Nat → Pt) (fun _ => .z) (fun _ ih n => match n with
  | 0 => .z
  | m + 1 => bif Nat.beq (m % 2) 0 then .l (ih (m / 2)) else .r (ih (m / 2))) f
noncomputable def path (n : Nat) : Pt := pathF (n + 1) n
inductive Tr (α : Type) where
  | lf
  | nd (v : Option α) (l r : Tr α)
namespace Tr
variable {α : Type}
noncomputable def left (t : Tr α) : Tr α := Tr.rec (motive := fun _ => Tr α) lf (fun _ l _ _ _ => l) t
noncomputable def right (t : Tr α) : Tr α := Tr.rec (motive := fun _ => Tr α) lf (fun _ _ r _ _ => r) t
noncomputable def val (t : Tr α) : Option α := Tr.rec (motive := fun _ => Option α) none (fun v _ _ _ _ => v) t
noncomputable def getP (p : Pt) : Tr α → Option α := Pt.rec (motive := fun _ => Tr α → Option α) (fun t => Tr.rec (motive := fun _ => Option α) none (fun v _ _ _ _ => v) t)
  (fun _ ih t => ih (Tr.rec (motive := fun _ => Tr α) lf (fun _ l _ _ _ => l) t)) (fun _ ih t => ih (Tr.rec (motive := fun _ => Tr α) lf (fun _ _ r _ _ => r) t)) p
noncomputable def get (t : Tr α) (n : Nat) : Option α := getP (path n) t
noncomputable def setP (p : Pt) : Tr α → Option α → Tr α :=
  Pt.rec (motive := fun _ => Tr α → Option α → Tr α) (fun t v => nd v t.left t.right) (fun _ ih t v => nd t.val (ih t.left v) t.right) (fun _ ih t v => nd t.val t.left (ih t.right v)) p
noncomputable def set (t : Tr α) (n : Nat) (v : Option α) : Tr α := setP (path n) t v
section
variable {β : Type}
def kz0 (v : Option α) (k : Tr α → β) : β := k (nd v lf lf)
def kz1 {γ : Type} (_ : Option α) (l r : Tr α) (_ _ : γ) (v : Option α) (k : Tr α → β) : β := k (nd v l r)
def kl0 (v : Option α) (ih : Tr α → Option α → (Tr α → β) → β) (k : Tr α → β) : β := ih lf v fun l => k (nd none l lf)
def kl1 {γ : Type} (x : Option α) (l r : Tr α) (_ _ : γ) (v : Option α) (ih : Tr α → Option α → (Tr α → β) → β) (k : Tr α → β) : β := ih l v fun l => k (nd x l r)
def kr0 (v : Option α) (ih : Tr α → Option α → (Tr α → β) → β) (k : Tr α → β) : β := ih lf v fun r => k (nd none lf r)
def kr1 {γ : Type} (x : Option α) (l r : Tr α) (_ _ : γ) (v : Option α) (ih : Tr α → Option α → (Tr α → β) → β) (k : Tr α → β) : β := ih r v fun r => k (nd x l r)
noncomputable def setKP (p : Pt) : Tr α → Option α → (Tr α → β) → β :=
  Pt.rec (motive := fun _ => Tr α → Option α → (Tr α → β) → β)
    (fun t => Tr.rec (motive := fun _ => Option α → (Tr α → β) → β) kz0 kz1 t)
    (fun _ ih t v k => Tr.rec (motive := fun _ => Option α → (Tr α → Option α → (Tr α → β) → β) → (Tr α → β) → β) kl0 kl1 t v ih k)
    (fun _ ih t v k => Tr.rec (motive := fun _ => Option α → (Tr α → Option α → (Tr α → β) → β) → (Tr α → β) → β) kr0 kr1 t v ih k) p
noncomputable def setK (t : Tr α) (n : Nat) (v : Option α) (k : Tr α → β) : β := setKP (path n) t v k
end
end Tr

/-! Values. -/
inductive CV where
  | v (x : Value)
  | int (k : IntKind) (n : Int)
  | bool (b : Bool)
  | str (l : List Nat)
  | ptr (h off : Nat)
  | gp (g off : Nat)
  | row (h sz off len : Nat) (cap : Option Nat)
  | mp (h : Nat)
  | agg (cs : List CV)
  | tup (cs : List CV)
  | ifc (t : Nat) (x : CV)
  | fnc (fn : Fn) (a c : List CV)
  | yld (h : Nat)
  | junk
@[reducible] def CV.nilPtr : CV := .v (.pointer none)
@[reducible] def CV.nilSl : CV := .v (.slice none 0 0)
def CV.ofV1 (x : Value) : CV := Value.casesOn x (fun b => .bool b) (fun k n => .int k n) (fun k b => .v (.float k b)) (fun k a b => .v (.complex k a b)) (fun s => .str (s.data.toList.map UInt8.toNat)) (fun a => .v (.pointer a)) (fun a l c => .v (.slice a l c)) (fun r => .v (.map r)) (fun r => .v (.chan r))
  (fun f a c => .v (.func f a c)) (.v .nilFunc) (fun t v => .v (.iface t v)) (.v .nilIface) (fun cs => .v (.agg cs)) (fun vs => .v (.tuple vs))
def CV.ofV (x : Value) : CV := Value.casesOn x (fun b => .bool b) (fun k n => .int k n) (fun k b => .v (.float k b)) (fun k a b => .v (.complex k a b)) (fun s => .str (s.data.toList.map UInt8.toNat)) (fun a => .v (.pointer a)) (fun a l c => .v (.slice a l c)) (fun r => .v (.map r)) (fun r => .v (.chan r))
  (fun f a c => .v (.func f a c)) (.v .nilFunc) (fun t v => .v (.iface t v)) (.v .nilIface) (fun vs => .agg (vs.toList.map CV.ofV1)) (fun vs => .tup (vs.toList.map CV.ofV1))
/-- Keys of maps. -/
inductive CK where
  | s (l : List Nat)
  | i (k : IntKind) (n : Int)
  | a (l : List (IntKind × Int))
end Go.Proofs.YtjhaikcokbmdbaaGreatDoor.Cx
