/-
  Chapter 23: edits; rows of seals.
-/
import Derived.Test.YtmlhaellfpbcgaaDoorQa
import Derived.Test.YtmlhaellfpbcgaaDoorQb
namespace Go.Proofs.YtmlhaellfpbcgaaDoor.Ax
open Go.RowKit
set_option maxRecDepth 100000
theorem AVE.aggL {xs ys : List AV} (h : cellsE xs ys) : AVE (.agg xs) (.agg ys) := by
  have key : ∀ (xs ys : List AV), cellsE xs ys → ∀ ρ ι vs, AV.Rs ρ ι xs vs → AV.Rs ρ ι ys vs := by
    intro xs
    induction xs with
    | nil => intro ys h ρ ι vs hr; simp only [cellsE] at h; subst h; exact hr
    | cons x xs ih =>
      intro ys h ρ ι vs hr
      cases ys with
      | nil => simp only [cellsE] at h
      | cons y ys =>
        simp only [cellsE] at h
        simp only [AV.Rs] at hr ⊢
        obtain ⟨u, us, e, r1, r2⟩ := hr
        exact ⟨u, us, e, h.1.run _ _ _ r1, ih ys h.2 ρ ι us r2⟩
  refine ⟨fun ρ ι v hr => ?_⟩
  simp only [AV.R] at hr ⊢
  obtain ⟨vs, e, r⟩ := hr
  exact ⟨vs, e, key xs ys h ρ ι vs r⟩
structure Seal where
  id : Nat
  size : Nat
  many : Nat
  first : Nat
  last : Nat
  deriving DecidableEq
instance : Inhabited Seal := ⟨⟨0, 0, 0, 0, 0⟩⟩
@[reducible] def sealI (x : Seal) : List IV := [.v (.int .u32 x.id), .v (.int .u32 x.size), .v (.int .u32 x.many), .v (.int .u64 x.first), .v (.int .u64 x.last)]
@[reducible] def sealA (x : Seal) : AV := .agg [AV.int .u32 x.id, AV.int .u32 x.size, AV.int .u32 x.many, AV.int .u64 x.first, AV.int .u64 x.last]
def slF (l : List Seal) (i : Nat) : List IV := sealI (l.getD i default)
def Seal.ok (x : Seal) : Bool := decide (1 ≤ x.id ∧ x.id ≤ 16777215 ∧ 16 ≤ x.size ∧ x.size ≤ 16777216 ∧ (x.many = 0 → x.first = 0 ∧ x.last = 0) ∧ (x.many ≠ 0 → 1 ≤ x.first ∧ x.first ≤ x.last ∧ x.last ≤ 1099511627776 ∧ x.many ≤ x.last - x.first + 1))
def Seal.B (x : Seal) : Prop := x.id ≤ 4294967295 ∧ x.size ≤ 4294967295 ∧ x.many ≤ 4294967295 ∧ x.first ≤ 18446744073709551615 ∧ x.last ≤ 18446744073709551615
theorem maySeal_ok (x : Seal) (hx : x.B) : AFn Go.Proofs.Tryd.prog 46 [sealA x] ⟨0, []⟩ (fun _ : Unit => AV.bool x.ok) (fun _ => ⟨0, []⟩) := by
  obtain ⟨hx1, hx2, hx3, hx4, hx5⟩ := hx
  refine ACall.fin ?_
  refine ACall.walk (C := cfg 59 0) (cfgOk _ _) [] (fn := Go.Proofs.Tryd.f46) (by kernel_rfl) (by kernel_rfl) rfl (by kernel_rfl) (by kernel_rfl) rfl rfl ?_
  (conv => whnf); repeat ((first | (refine And.intro ?_ ?_; (focus ((repeat' (first | exact trivial | refine And.intro rfl ?_)); done))) | (refine And.intro ?_ ?_; (focus (first | omega | (dsimp -iota only; omega) | (simp -iota; omega) | (simp -iota; done) | decide)))); conv => whnf)
  repeat' (refine branchB_of (fun q => ?_) (fun q => ?_) <;> (first | replace q := not_t q | replace q := not_f q | skip) <;> (first | replace q := of_decide_eq_true q | replace q := of_decide_eq_false q | skip) <;> (first | replace q := Classical.not_not.1 q | skip) <;> (try dsimp only at q) <;> ((conv => whnf); repeat ((first | (refine And.intro ?_ ?_; (focus ((repeat' (first | exact trivial | refine And.intro rfl ?_)); done))) | (refine And.intro ?_ ?_; (focus (first | omega | (dsimp -iota only; omega) | (simp -iota; omega) | (simp -iota; done) | decide)))); conv => whnf)))
  all_goals
    refine ⟨_, _, Ent.mk' (e' := [(0, AV.bool x.ok)]) (H' := ⟨0, []⟩) [] (by kernel_rfl) ?_ ?_, (), rfl, rfl⟩
    · refine ⟨AVE.bool ?_, trivial⟩
      unfold Seal.ok
      first
        | (symm; refine decide_eq_false ?_; omega)
        | (symm; refine decide_eq_true ?_; omega)
        | (refine decide_eq_decide.2 ?_; omega)
    · trivial
def hSeq (k : Int) : Bool := decide (k = 1 ∨ k = 2 ∨ k = 6)
def hName (k : Int) : Bool := decide (k = 2 ∨ k = 3)
def hId (k : Int) : Bool := decide (k = 4)
def hSeals (k : Int) : Bool := decide (k = 5 ∨ k = 6)
def isK (k : Int) : Bool := decide (1 ≤ k ∧ k ≤ 6)
theorem parts_ok (k : Int) : AFn Go.Proofs.Tryd.prog 44 [AV.int .i64 k] ⟨0, []⟩ (fun _ : Unit => .tup [.agg [AV.bool (hSeq k), AV.bool (hName k), AV.bool (hId k), AV.bool (hSeals k)], AV.bool (isK k)]) (fun _ => ⟨0, []⟩) := by
  refine ACall.fin ?_
  refine ACall.walk (C := cfg 24 0) (cfgOk _ _) [] (fn := Go.Proofs.Tryd.f44) (by kernel_rfl) (by kernel_rfl) rfl (by kernel_rfl) (by kernel_rfl) rfl rfl ?_
  (conv => whnf); repeat ((first | (refine And.intro ?_ ?_; (focus ((repeat' (first | exact trivial | refine And.intro rfl ?_)); done))) | (refine And.intro ?_ ?_; (focus (first | omega | (dsimp -iota only; omega) | (simp -iota; omega) | (simp -iota; done) | decide)))); conv => whnf)
  repeat' (refine branchB_of (fun q => ?_) (fun q => ?_) <;> (first | replace q := not_t q | replace q := not_f q | skip) <;> (first | replace q := of_decide_eq_true q | replace q := of_decide_eq_false q | skip) <;> (first | replace q := Classical.not_not.1 q | skip) <;> (try dsimp only at q) <;> ((conv => whnf); repeat ((first | (refine And.intro ?_ ?_; (focus ((repeat' (first | exact trivial | refine And.intro rfl ?_)); done))) | (refine And.intro ?_ ?_; (focus (first | omega | (dsimp -iota only; omega) | (simp -iota; omega) | (simp -iota; done) | decide)))); conv => whnf)))
  all_goals
    refine ⟨_, _, Ent.mk' (e' := [(0, .tup [.agg [AV.bool (hSeq k), AV.bool (hName k), AV.bool (hId k), AV.bool (hSeals k)], AV.bool (isK k)])]) (H' := ⟨0, []⟩) [] (by kernel_rfl) ?_ ?_, (), rfl, rfl⟩
    · refine ⟨AVE.of_eq ?_, trivial⟩
      have e1 : ∀ b : Bool, hSeq k = b ↔ (b = true ↔ (k = 1 ∨ k = 2 ∨ k = 6)) := fun b => by cases b <;> simp [hSeq]
      have e2 : ∀ b : Bool, hName k = b ↔ (b = true ↔ (k = 2 ∨ k = 3)) := fun b => by cases b <;> simp [hName]
      have e3 : ∀ b : Bool, hId k = b ↔ (b = true ↔ (k = 4)) := fun b => by cases b <;> simp [hId]
      have e4 : ∀ b : Bool, hSeals k = b ↔ (b = true ↔ (k = 5 ∨ k = 6)) := fun b => by cases b <;> simp [hSeals]
      have e5 : ∀ b : Bool, isK k = b ↔ (b = true ↔ (1 ≤ k ∧ k ≤ 6)) := fun b => by cases b <;> simp [isK]
      first
        | (rw [(e1 true).2 (by simp; omega), (e2 false).2 (by simp; omega), (e3 false).2 (by simp; omega), (e4 false).2 (by simp; omega), (e5 true).2 (by simp; omega)]; rfl)
        | (rw [(e1 true).2 (by simp; omega), (e2 true).2 (by simp; omega), (e3 false).2 (by simp; omega), (e4 false).2 (by simp; omega), (e5 true).2 (by simp; omega)]; rfl)
        | (rw [(e1 false).2 (by simp; omega), (e2 true).2 (by simp; omega), (e3 false).2 (by simp; omega), (e4 false).2 (by simp; omega), (e5 true).2 (by simp; omega)]; rfl)
        | (rw [(e1 false).2 (by simp; omega), (e2 false).2 (by simp; omega), (e3 true).2 (by simp; omega), (e4 false).2 (by simp; omega), (e5 true).2 (by simp; omega)]; rfl)
        | (rw [(e1 false).2 (by simp; omega), (e2 false).2 (by simp; omega), (e3 false).2 (by simp; omega), (e4 true).2 (by simp; omega), (e5 true).2 (by simp; omega)]; rfl)
        | (rw [(e1 true).2 (by simp; omega), (e2 false).2 (by simp; omega), (e3 false).2 (by simp; omega), (e4 true).2 (by simp; omega), (e5 true).2 (by simp; omega)]; rfl)
        | (rw [(e1 false).2 (by simp; omega), (e2 false).2 (by simp; omega), (e3 false).2 (by simp; omega), (e4 false).2 (by simp; omega), (e5 false).2 (by simp; omega)]; rfl)
    · trivial
structure Edt where
  kind : Int
  name : List UInt8
  seq : Nat
  id : Nat
  seals : List Seal
  deriving DecidableEq
instance : Inhabited Edt := ⟨⟨0, [], 0, 0, []⟩⟩
@[reducible] def editI (e : Edt) : List IV := [.v (.int .i64 e.kind), .str e.name, .v (.int .u64 e.seq), .v (.int .u32 e.id), .sl 5 e.seals.length (slF e.seals)]
@[reducible] def editA (e : Edt) : AV := .agg [AV.int .i64 e.kind, AV.str e.name, AV.int .u64 e.seq, AV.int .u32 e.id, .iv (.sl 5 e.seals.length (slF e.seals))]
@[reducible] def Edt.HP (e : Edt) : Prop := (1 ≤ e.kind ∧ e.kind ≤ 6) ∧ e.seq ≤ 1099511627776 ∧ ((e.kind = 1 ∨ e.kind = 2 ∨ e.kind = 6) ∨ e.seq = 0) ∧ ((e.kind = 2 ∨ e.kind = 3) ↔ e.name.length ≠ 0) ∧ ((e.kind = 2 ∨ e.kind = 3) → (1 ≤ e.name.length ∧ e.name.length ≤ 32)) ∧ (e.kind = 4 ↔ e.id ≠ 0) ∧ e.id ≤ 16777215 ∧ ((e.kind = 5 ∨ e.kind = 6) ∨ e.seals.length = 0) ∧ (e.kind = 5 → e.seals.length = 1) ∧ e.seals.length ≤ 200
def Edt.head (e : Edt) : Bool := decide e.HP
def sealAt (l : List Seal) (i : Nat) : Bool := (l.getD i default).ok && decide (i = 0 ∨ (l.getD (i - 1) default).id < (l.getD i default).id)
def sealsOk (l : List Seal) : Bool := (List.range l.length).all (sealAt l)
def Edt.may (e : Edt) : Bool := e.head && sealsOk e.seals
theorem sealsOk_false {l : List Seal} {i : Nat} (h : i < l.length) (h' : sealAt l i = false) : sealsOk l = false := by
  cases hs : sealsOk l with
  | false => rfl
  | true =>
    have := List.all_eq_true.1 hs i (List.mem_range.2 h)
    rw [h'] at this
    cases this
theorem sealsOk_true {l : List Seal} (h : ∀ i, i < l.length → sealAt l i = true) : sealsOk l = true := List.all_eq_true.2 fun i hi => h i (List.mem_range.1 hi)
theorem eqName (k : Int) (x : List UInt8) : (hName k = decide (¬ x = ([] : List UInt8))) = ((k = 2 ∨ k = 3) ↔ x.length ≠ 0) := by
  unfold hName
  rw [decide_eq_decide]
  cases x <;> simp
theorem eqId (k : Int) (n : Nat) : (hId k = decide (¬ (n : Int) = 0)) = (k = 4 ↔ n ≠ 0) := by
  unfold hId
  rw [decide_eq_decide]
  refine propext ⟨fun h => ?_, fun h => ?_⟩ <;> omega
theorem AWP.aheadF {P : Prop} {C : Cfg} {b : Code} {q : Post} {Y : Type} (TE : Y → Env) (TH : Y → AH) (h : (∀ y, AWP C b (TE y) (TH y) q) → P) (k : ∀ y, AWP C b (TE y) (TH y) q) : P := h k
structure MX (l : List Seal) where
  i : Nat
  hi : i ≤ l.length
  h : ∀ j, j < i → sealAt l j = true
set_option maxHeartbeats 2000000 in
theorem may_ok (e : Edt) (hb : ∀ x ∈ e.seals, x.B) : AFn Go.Proofs.Tryd.prog 28 [editA e] ⟨0, []⟩ (fun _ : Unit => AV.bool e.may) (fun _ => ⟨0, []⟩) := by
  refine ACall.fin ?_
  refine ACall.walk (C := cfg 115 0) (cfgOk _ _) sch28 (fn := Go.Proofs.Tryd.f28) (by kernel_rfl) (by kernel_rfl) rfl (by kernel_rfl) (by kernel_rfl) rfl rfl ?_
  (conv => whnf); repeat ((first | (refine And.intro ?_ ?_; (focus ((repeat' (first | exact trivial | refine And.intro rfl ?_)); done))) | (refine And.intro ?_ ?_; (focus (first | omega | (dsimp -iota only; omega) | (simp -iota; omega) | (simp -iota; done) | decide)))); conv => whnf)
  refine AFn.use [] (parts_ok e.kind) (by kernel_rfl) rfl (by repeat' first | exact trivial | refine ⟨rfl, ?_⟩) fun _ => ?_
  (conv => whnf); repeat ((first | (refine And.intro ?_ ?_; (focus ((repeat' (first | exact trivial | refine And.intro rfl ?_)); done))) | (refine And.intro ?_ ?_; (focus (first | omega | (dsimp -iota only; omega) | (simp -iota; omega) | (simp -iota; done) | decide)))); conv => whnf)
  apply AWP.aheadF (C := cfg 115 0) (Y := PLift e.HP) (fun _ => [(1, .ptr 0 0), (88, .iv (.sl 5 e.seals.length (slF e.seals))), (89, AV.int .i64 e.seals.length), (90, AV.int .i64 0)]) (fun _ => ⟨1, [(0, .cells 31 [AV.int .i64 e.kind, AV.str e.name, AV.int .u64 e.seq, AV.int .u32 e.id, .iv (.sl 5 e.seals.length (slF e.seals))])]⟩)
  · intro key
    repeat' (first | (refine branchB_of (fun q => ?_) (fun q => ?_) <;> (first | replace q := not_t q | replace q := not_f q | skip) <;> (first | replace q := of_decide_eq_true q | replace q := of_decide_eq_false q | skip) <;> (first | replace q := Classical.not_not.1 q | skip) <;> (try dsimp only at q) <;> (try simp only [ne_eq, eqName, eqId] at q) <;> ((conv => whnf); repeat ((first | (refine And.intro ?_ ?_; (focus ((repeat' (first | exact trivial | refine And.intro rfl ?_)); done))) | (refine And.intro ?_ ?_; (focus (first | omega | (dsimp -iota only; omega) | (simp -iota; omega) | (simp -iota; done) | decide)))); conv => whnf))) | (refine AFn.use [] (mayName_ok e.name) (by kernel_rfl) rfl (by repeat' first | exact trivial | refine ⟨rfl, ?_⟩) fun _ => ?_; ((conv => whnf); repeat ((first | (refine And.intro ?_ ?_; (focus ((repeat' (first | exact trivial | refine And.intro rfl ?_)); done))) | (refine And.intro ?_ ?_; (focus (first | omega | (dsimp -iota only; omega) | (simp -iota; omega) | (simp -iota; done) | decide)))); conv => whnf))))
    all_goals first
      | (have hm : e.may = false := by
           have hh : ¬ e.HP := by omega
           simp [Edt.may, Edt.head, hh]
         rw [hm]
         refine ⟨_, _, Ent.mk' (e' := [(0, AV.bool false)]) (H' := ⟨0, []⟩) [] (by kernel_rfl) ?_ ?_, (), rfl, rfl⟩
         · exact ⟨AVE.refl _, trivial⟩
         · trivial)
      | (refine AWP.of_ent ?_ (key ⟨by omega⟩)
         exact Ent.mk' [some 0] (by kernel_rfl) (by repeat' first | exact trivial | refine And.intro (AVE.refl _) ?_) (by repeat' (first | exact trivial | refine ⟨⟨_, rfl, ChE.refl _⟩, ?_⟩)))
  · intro hh
    obtain ⟨hh⟩ := hh
    have hd : e.head = true := decide_eq_true hh
    have hm : e.may = sealsOk e.seals := by unfold Edt.may; rw [hd, Bool.true_and]
    have hl : e.seals.length ≤ 200 := hh.2.2.2.2.2.2.2.2.2
    clear hd hh
    refine AWP.loop (X := MX e.seals) (fun x => [(1, .ptr 0 0), (88, .iv (.sl 5 e.seals.length (slF e.seals))), (89, AV.int .i64 e.seals.length), (90, AV.int .i64 x.i)]) (fun x => ⟨1, [(0, .cells 31 [AV.int .i64 e.kind, AV.str e.name, AV.int .u64 e.seq, AV.int .u32 e.id, .iv (.sl 5 e.seals.length (slF e.seals))])]⟩) (fun x => e.seals.length - x.i) (⟨0, Nat.zero_le _, fun j hj => absurd hj (Nat.not_lt_zero _)⟩) ?_ fun x => AWP.go (S := sch28) (cfgOk _ _) (.of_eq (by kernel_rfl)) ?_
    · exact Ent.mk' [some 0] (by kernel_rfl) (by repeat' first | exact trivial | refine And.intro (AVE.refl _) ?_ | refine And.intro (AVE.int (by first | rfl | omega | (dsimp only; omega) | (simp -iota; omega) | (simp -iota; done))) ?_ | refine And.intro (AVE.bool (by assumption)) ?_ | refine And.intro (AVE.len (by first | rfl | omega | (dsimp only; omega) | (simp -iota; omega) | (simp -iota; done))) ?_) (by repeat' (first | exact trivial | refine ⟨⟨_, rfl, ChE.refl _⟩, ?_⟩))
    · obtain ⟨i, hi, h⟩ := x
      have hix : ((i : Nat) : Int).toNat = i := by simp
      have hix1 : ((i : Nat) - 1 : Int).toNat = i - 1 := by omega
      (conv => whnf); repeat ((first | (refine And.intro ?_ ?_; (focus ((repeat' (first | exact trivial | refine And.intro rfl ?_)); done))) | (refine And.intro ?_ ?_; (focus (first | omega | (dsimp -iota only; omega) | (simp -iota; omega) | (simp -iota; done) | decide)))); conv => whnf)
      refine branchB_of (fun g => ?_) (fun g => ?_) <;> (first | replace g := not_t g | replace g := not_f g | skip) <;> (first | replace g := of_decide_eq_true g | replace g := of_decide_eq_false g | skip) <;> (first | replace g := Classical.not_not.1 g | skip) <;> (try dsimp only at g)
      · have hx : (e.seals.getD i default).B := hb _ (by rw [List.getD_eq_getElem?_getD, List.getElem?_eq_getElem (by omega)]; exact List.getElem_mem _)
        (conv => whnf); repeat ((first | (refine And.intro ?_ ?_; (focus ((repeat' (first | exact trivial | refine And.intro rfl ?_)); done))) | (refine And.intro ?_ ?_; (focus (first | omega | (dsimp -iota only; omega) | (simp -iota; omega) | (simp -iota; done) | decide)))); conv => whnf)
        repeat' (first | (refine And.intro ?_ ?_ <;> ((conv => whnf); repeat ((first | (refine And.intro ?_ ?_; (focus ((repeat' (first | exact trivial | refine And.intro rfl ?_)); done))) | (refine And.intro ?_ ?_; (focus (first | omega | (dsimp -iota only; omega) | (simp -iota; omega) | (simp -iota; done) | decide)))); conv => whnf))) | (refine branchB_of (fun q => ?_) (fun q => ?_) <;> (first | replace q := not_t q | replace q := not_f q | skip) <;> (first | replace q := of_decide_eq_true q | replace q := of_decide_eq_false q | skip) <;> (first | replace q := Classical.not_not.1 q | skip) <;> (try dsimp only at q) <;> ((conv => whnf); repeat ((first | (refine And.intro ?_ ?_; (focus ((repeat' (first | exact trivial | refine And.intro rfl ?_)); done))) | (refine And.intro ?_ ?_; (focus (first | omega | (dsimp -iota only; omega) | (simp -iota; omega) | (simp -iota; done) | decide)))); conv => whnf))) | (rw [hix]; refine AFn.use [] (maySeal_ok _ hx) (by kernel_rfl) rfl (by repeat' first | exact trivial | refine ⟨rfl, ?_⟩) fun _ => ?_; ((conv => whnf); repeat ((first | (refine And.intro ?_ ?_; (focus ((repeat' (first | exact trivial | refine And.intro rfl ?_)); done))) | (refine And.intro ?_ ?_; (focus (first | omega | (dsimp -iota only; omega) | (simp -iota; omega) | (simp -iota; done) | decide)))); conv => whnf))))
        all_goals try rw [hix1] at q
        all_goals first
          | (have hf : sealsOk e.seals = false := sealsOk_false (i := i) (by omega) (by
               unfold sealAt Seal.ok
               rw [Bool.and_eq_false_iff, decide_eq_false_iff_not, decide_eq_false_iff_not]
               omega)
             rw [hm, hf]
             refine ⟨_, _, Ent.mk' (e' := [(0, AV.bool false)]) (H' := ⟨0, []⟩) [] (by kernel_rfl) ?_ ?_, (), rfl, rfl⟩
             · exact ⟨AVE.refl _, trivial⟩
             · trivial)
          | (have hs : sealAt e.seals i = true := by
               unfold sealAt Seal.ok
               rw [Bool.and_eq_true, decide_eq_true_eq, decide_eq_true_eq]
               omega
             refine ⟨⟨i + 1, by omega, fun j hj => by
               rcases Nat.lt_or_ge j i with hji | hji
               · exact h j hji
               · have : j = i := by omega
                 rw [this]
                 exact hs⟩, Ent.mk' [some 0] (by kernel_rfl) (by repeat' first | exact trivial | refine And.intro (AVE.refl _) ?_ | refine And.intro (AVE.int (by first | rfl | omega | (dsimp only; omega) | (simp -iota; omega) | (simp -iota; done))) ?_ | refine And.intro (AVE.bool (by assumption)) ?_ | refine And.intro (AVE.len (by first | rfl | omega | (dsimp only; omega) | (simp -iota; omega) | (simp -iota; done))) ?_) (by repeat' (first | exact trivial | refine ⟨⟨_, rfl, ChE.refl _⟩, ?_⟩)), ?_⟩
             show e.seals.length - (i + 1) < e.seals.length - i
             omega)
      · have ht : sealsOk e.seals = true := sealsOk_true fun j hj => h j (by omega)
        rw [hm, ht]
        (conv => whnf); repeat ((first | (refine And.intro ?_ ?_; (focus ((repeat' (first | exact trivial | refine And.intro rfl ?_)); done))) | (refine And.intro ?_ ?_; (focus (first | omega | (dsimp -iota only; omega) | (simp -iota; omega) | (simp -iota; done) | decide)))); conv => whnf)
        refine ⟨_, _, Ent.mk' (e' := [(0, AV.bool true)]) (H' := ⟨0, []⟩) [] (by kernel_rfl) ?_ ?_, (), rfl, rfl⟩
        · exact ⟨AVE.refl _, trivial⟩
        · trivial
end Go.Proofs.YtmlhaellfpbcgaaDoor.Ax

namespace Go.Proofs.YtmlhaellfpbcgaaDoor.Ax
open Go.RowKit
set_option maxRecDepth 100000
theorem clR_ok (n : Nat) (hn : n ≤ 1000) (g : Nat → List IV) : AFn Go.Proofs.Tryd.prog 18 [.row 0 5 0 n] ⟨1, [(0, .rowc 49 5 n g)]⟩ (fun _ : Unit => .row 1 5 0 n) (fun _ => ⟨2, [(0, .rowc 49 5 n g), (1, .rowc 49 5 n g)]⟩) := by
  refine ACall.fin ?_
  refine ACall.walk (C := cfg 8 1) (cfgOk _ _) [] (fn := Go.Proofs.Tryd.f18) (by kernel_rfl) (by kernel_rfl) rfl (by kernel_rfl) (by kernel_rfl) rfl rfl ?_
  cases n with
  | zero =>
    (conv => whnf); repeat ((first | (refine And.intro ?_ ?_; (focus ((repeat' (first | exact trivial | refine And.intro rfl ?_)); done))) | (refine And.intro ?_ ?_; (focus (first | omega | (dsimp -iota only; omega) | (simp -iota; omega) | (simp -iota; done) | decide)))); conv => whnf)
    refine And.intro ?_ ?_ <;> ((conv => whnf); repeat ((first | (refine And.intro ?_ ?_; (focus ((repeat' (first | exact trivial | refine And.intro rfl ?_)); done))) | (refine And.intro ?_ ?_; (focus (first | omega | (dsimp -iota only; omega) | (simp -iota; omega) | (simp -iota; done) | decide)))); conv => whnf))
    · refine ⟨_, _, Ent.mk' (e' := [(0, .row 1 5 0 0)]) (H' := ⟨2, [(0, .rowc 49 5 0 g), (1, .rowc 49 5 0 g)]⟩) [some 0, none] (by kernel_rfl) ?_ ?_, (), rfl, rfl⟩
      · exact ⟨AVE.nil _ _, trivial⟩
      · exact ⟨⟨_, rfl, ChE.refl _⟩, trivial, trivial⟩
    · refine ⟨_, _, Ent.mk' (e' := [(0, .row 1 5 0 0)]) (H' := ⟨2, [(0, .rowc 49 5 0 g), (1, .rowc 49 5 0 g)]⟩) [some 0, some 2] (by kernel_rfl) ?_ ?_, (), rfl, rfl⟩
      · exact ⟨AVE.refl _, trivial⟩
      · exact ⟨⟨_, rfl, ChE.refl _⟩, ⟨_, rfl, ChE.row (Nat.zero_le _) fun i hi => absurd hi (Nat.not_lt_zero _)⟩, trivial⟩
  | succ n =>
    (conv => whnf); repeat ((first | (refine And.intro ?_ ?_; (focus ((repeat' (first | exact trivial | refine And.intro rfl ?_)); done))) | (refine And.intro ?_ ?_; (focus (first | omega | (dsimp -iota only; omega) | (simp -iota; omega) | (simp -iota; done) | decide)))); conv => whnf)
    refine ⟨_, _, Ent.mk' (e' := [(0, .row 1 5 0 (n + 1))]) (H' := ⟨2, [(0, .rowc 49 5 (n + 1) g), (1, .rowc 49 5 (n + 1) g)]⟩) [some 0, some 2] (by kernel_rfl) ?_ ?_, (), rfl, rfl⟩
    · exact ⟨AVE.len (Nat.zero_add _), trivial⟩
    · exact ⟨⟨_, rfl, ChE.refl _⟩, ⟨_, rfl, ChE.row (by omega) fun i hi => by simp⟩, trivial⟩
theorem clI_ok (n : Nat) (hn : n ≤ 1000) (g : Nat → List IV) : AFn Go.Proofs.Tryd.prog 18 [.iv (.sl 5 n g)] ⟨0, []⟩ (fun _ : Unit => .row 0 5 0 n) (fun _ => ⟨1, [(0, .rowc 49 5 n g)]⟩) := by
  refine ACall.fin ?_
  refine ACall.walk (C := cfg 8 0) (cfgOk _ _) [] (fn := Go.Proofs.Tryd.f18) (by kernel_rfl) (by kernel_rfl) rfl (by kernel_rfl) (by kernel_rfl) rfl rfl ?_
  cases n with
  | zero =>
    (conv => whnf); repeat ((first | (refine And.intro ?_ ?_; (focus ((repeat' (first | exact trivial | refine And.intro rfl ?_)); done))) | (refine And.intro ?_ ?_; (focus (first | omega | (dsimp -iota only; omega) | (simp -iota; omega) | (simp -iota; done) | decide)))); conv => whnf)
    refine And.intro ?_ ?_ <;> ((conv => whnf); repeat ((first | (refine And.intro ?_ ?_; (focus ((repeat' (first | exact trivial | refine And.intro rfl ?_)); done))) | (refine And.intro ?_ ?_; (focus (first | omega | (dsimp -iota only; omega) | (simp -iota; omega) | (simp -iota; done) | decide)))); conv => whnf))
    · refine ⟨_, _, Ent.mk' (e' := [(0, .row 0 5 0 0)]) (H' := ⟨1, [(0, .rowc 49 5 0 g)]⟩) [none] (by kernel_rfl) ?_ ?_, (), rfl, rfl⟩
      · exact ⟨AVE.nil _ _, trivial⟩
      · exact ⟨trivial, trivial⟩
    · refine ⟨_, _, Ent.mk' (e' := [(0, .row 0 5 0 0)]) (H' := ⟨1, [(0, .rowc 49 5 0 g)]⟩) [some 1] (by kernel_rfl) ?_ ?_, (), rfl, rfl⟩
      · exact ⟨AVE.refl _, trivial⟩
      · exact ⟨⟨_, rfl, ChE.row (Nat.zero_le _) fun i hi => absurd hi (Nat.not_lt_zero _)⟩, trivial⟩
  | succ n =>
    (conv => whnf); repeat ((first | (refine And.intro ?_ ?_; (focus ((repeat' (first | exact trivial | refine And.intro rfl ?_)); done))) | (refine And.intro ?_ ?_; (focus (first | omega | (dsimp -iota only; omega) | (simp -iota; omega) | (simp -iota; done) | decide)))); conv => whnf)
    refine ⟨_, _, Ent.mk' (e' := [(0, .row 0 5 0 (n + 1))]) (H' := ⟨1, [(0, .rowc 49 5 (n + 1) g)]⟩) [some 1] (by kernel_rfl) ?_ ?_, (), rfl, rfl⟩
    · exact ⟨AVE.len (Nat.zero_add _), trivial⟩
    · exact ⟨⟨_, rfl, ChE.row (by omega) fun i hi => by simp⟩, trivial⟩
theorem seals_ext {A B : List Seal} (h : A.length = B.length) (hj : ∀ j, j < A.length → A.getD j default = B.getD j default) : A = B := by
  refine List.ext_getElem h fun j h1 h2 => ?_
  have := hj j h1
  simpa [List.getD, h1, h2] using this
theorem equalS_ok (A B : List Seal) (hA : A.length ≤ 1000) (hB : B.length ≤ 1000) : AFn Go.Proofs.Tryd.prog 30 [.iv (.sl 5 A.length (slF A)), .iv (.sl 5 B.length (slF B))] ⟨0, []⟩ (fun _ : Unit => AV.bool (decide (A = B))) (fun _ => ⟨0, []⟩) := by
  refine ACall.walk (C := cfg 26 0) (cfgOk _ _) sch30 (fn := Go.Proofs.Tryd.f30) (by kernel_rfl) (by kernel_rfl) rfl (by kernel_rfl) (by kernel_rfl) rfl rfl ?_
  (conv => whnf); repeat ((first | (refine And.intro ?_ ?_; (focus ((repeat' (first | exact trivial | refine And.intro rfl ?_)); done))) | (refine And.intro ?_ ?_; (focus (first | omega | (dsimp -iota only; omega) | (simp -iota; omega) | (simp -iota; done) | decide)))); conv => whnf)
  refine branchB_of (fun h => ?_) (fun h => ?_) <;> (first | replace h := not_t h | replace h := not_f h | skip) <;> (first | replace h := of_decide_eq_true h | replace h := of_decide_eq_false h | skip) <;> (first | replace h := Classical.not_not.1 h | skip) <;> (try dsimp only at h)
  · (conv => whnf); repeat ((first | (refine And.intro ?_ ?_; (focus ((repeat' (first | exact trivial | refine And.intro rfl ?_)); done))) | (refine And.intro ?_ ?_; (focus (first | omega | (dsimp -iota only; omega) | (simp -iota; omega) | (simp -iota; done) | decide)))); conv => whnf)
    refine ⟨(), ?_, rfl⟩
    congr 3
    exact (decide_eq_false fun e => by subst e; exact h rfl).symm
  · have hl : A.length = B.length := by omega
    (conv => whnf); repeat ((first | (refine And.intro ?_ ?_; (focus ((repeat' (first | exact trivial | refine And.intro rfl ?_)); done))) | (refine And.intro ?_ ?_; (focus (first | omega | (dsimp -iota only; omega) | (simp -iota; omega) | (simp -iota; done) | decide)))); conv => whnf)
    refine AWP.loop (X := { x : Nat // x ≤ A.length ∧ ∀ j, j < x → A.getD j default = B.getD j default }) (fun x => [(0, .iv (.sl 5 A.length (slF A))), (1, .iv (.sl 5 B.length (slF B))), (12, AV.int .i64 A.length), (13, AV.int .i64 x.1)]) (fun x => ⟨0, []⟩) (fun x => A.length - x.1) (⟨0, by omega, fun j hj => by omega⟩) ?_ fun x => AWP.go (S := sch30) (cfgOk _ _) (.of_eq (by kernel_rfl)) ?_
    · exact Ent.mk' [] (by kernel_rfl) (by repeat' first | exact trivial | refine And.intro (AVE.refl _) ?_ | refine And.intro (AVE.int (by first | rfl | omega | (dsimp only; omega) | (simp -iota; omega) | (simp -iota; done))) ?_ | refine And.intro (AVE.bool (by assumption)) ?_ | refine And.intro (AVE.len (by first | rfl | omega | (dsimp only; omega) | (simp -iota; omega) | (simp -iota; done))) ?_) (by repeat' (first | exact trivial | refine ⟨⟨_, rfl, ChE.refl _⟩, ?_⟩))
    · obtain ⟨x, hx, hj⟩ := x
      have hxx : ((x : Nat) : Int).toNat = x := by simp
      (conv => whnf); repeat ((first | (refine And.intro ?_ ?_; (focus ((repeat' (first | exact trivial | refine And.intro rfl ?_)); done))) | (refine And.intro ?_ ?_; (focus (first | omega | (dsimp -iota only; omega) | (simp -iota; omega) | (simp -iota; done) | decide)))); conv => whnf)
      refine branchB_of (fun g => ?_) (fun g => ?_) <;> (first | replace g := not_t g | replace g := not_f g | skip) <;> (first | replace g := of_decide_eq_true g | replace g := of_decide_eq_false g | skip) <;> (first | replace g := Classical.not_not.1 g | skip) <;> (try dsimp only at g)
      · (conv => whnf); repeat ((first | (refine And.intro ?_ ?_; (focus ((repeat' (first | exact trivial | refine And.intro rfl ?_)); done))) | (refine And.intro ?_ ?_; (focus (first | omega | (dsimp -iota only; omega) | (simp -iota; omega) | (simp -iota; done) | decide)))); conv => whnf)
        refine branchB_of (fun g2 => ?_) (fun g2 => ?_) <;> (first | replace g2 := not_t g2 | replace g2 := not_f g2 | skip) <;> (first | replace g2 := of_decide_eq_true g2 | replace g2 := of_decide_eq_false g2 | skip) <;> (first | replace g2 := Classical.not_not.1 g2 | skip) <;> (try dsimp only at g2)
        · have hne : A ≠ B := fun e => by
            subst e
            simp at g2
          (conv => whnf); repeat ((first | (refine And.intro ?_ ?_; (focus ((repeat' (first | exact trivial | refine And.intro rfl ?_)); done))) | (refine And.intro ?_ ?_; (focus (first | omega | (dsimp -iota only; omega) | (simp -iota; omega) | (simp -iota; done) | decide)))); conv => whnf)
          refine ⟨(), ?_, rfl⟩
          congr 3
          exact (decide_eq_false hne).symm
        · rw [hxx] at g2
          simp only [Bool.and_eq_true, decide_eq_true_eq, and_true] at g2
          obtain ⟨e1, e2, e3, e4, e5⟩ := g2
          (conv => whnf); repeat ((first | (refine And.intro ?_ ?_; (focus ((repeat' (first | exact trivial | refine And.intro rfl ?_)); done))) | (refine And.intro ?_ ?_; (focus (first | omega | (dsimp -iota only; omega) | (simp -iota; omega) | (simp -iota; done) | decide)))); conv => whnf)
          refine ⟨⟨x + 1, by omega, fun j hj' => ?_⟩, Ent.mk' [] (by kernel_rfl) (by repeat' first | exact trivial | refine And.intro (AVE.refl _) ?_ | refine And.intro (AVE.int (by first | rfl | omega | (dsimp only; omega) | (simp -iota; omega) | (simp -iota; done))) ?_ | refine And.intro (AVE.bool (by assumption)) ?_ | refine And.intro (AVE.len (by first | rfl | omega | (dsimp only; omega) | (simp -iota; omega) | (simp -iota; done))) ?_) (by repeat' (first | exact trivial | refine ⟨⟨_, rfl, ChE.refl _⟩, ?_⟩)), ?_⟩
          · by_cases e : j = x
            · subst e
              generalize A.getD j default = a at *
              generalize B.getD j default = b at *
              obtain ⟨a1, a2, a3, a4, a5⟩ := a
              obtain ⟨b1, b2, b3, b4, b5⟩ := b
              simp only at e1 e2 e3 e4 e5
              simp only [Seal.mk.injEq]
              omega
            · exact hj j (by omega)
          · show A.length - (x + 1) < A.length - x
            omega
      · (conv => whnf); repeat ((first | (refine And.intro ?_ ?_; (focus ((repeat' (first | exact trivial | refine And.intro rfl ?_)); done))) | (refine And.intro ?_ ?_; (focus (first | omega | (dsimp -iota only; omega) | (simp -iota; omega) | (simp -iota; done) | decide)))); conv => whnf)
        refine ⟨(), ?_, rfl⟩
        congr 3
        exact (decide_eq_true (seals_ext hl fun j hjl => hj j (by omega))).symm
theorem nq_ext {A B : List NQ} (h : A.length = B.length) (hj : ∀ j, j < A.length → A.getD j ([], 0) = B.getD j ([], 0)) : A = B := by
  refine List.ext_getElem h fun j h1 h2 => ?_
  have := hj j h1
  simpa [List.getD, h1, h2] using this
theorem equal_ok (A B : List NQ) (hA : A.length ≤ 1000) (hB : B.length ≤ 1000) : AFn Go.Proofs.Tryd.prog 29 [.iv (.sl 2 A.length (nqF A)), .iv (.sl 2 B.length (nqF B))] ⟨0, []⟩ (fun _ : Unit => AV.bool (decide (A = B))) (fun _ => ⟨0, []⟩) := by
  refine ACall.walk (C := cfg 26 0) (cfgOk _ _) sch29 (fn := Go.Proofs.Tryd.f29) (by kernel_rfl) (by kernel_rfl) rfl (by kernel_rfl) (by kernel_rfl) rfl rfl ?_
  (conv => whnf); repeat ((first | (refine And.intro ?_ ?_; (focus ((repeat' (first | exact trivial | refine And.intro rfl ?_)); done))) | (refine And.intro ?_ ?_; (focus (first | omega | (dsimp -iota only; omega) | (simp -iota; omega) | (simp -iota; done) | decide)))); conv => whnf)
  refine branchB_of (fun h => ?_) (fun h => ?_) <;> (first | replace h := not_t h | replace h := not_f h | skip) <;> (first | replace h := of_decide_eq_true h | replace h := of_decide_eq_false h | skip) <;> (first | replace h := Classical.not_not.1 h | skip) <;> (try dsimp only at h)
  · (conv => whnf); repeat ((first | (refine And.intro ?_ ?_; (focus ((repeat' (first | exact trivial | refine And.intro rfl ?_)); done))) | (refine And.intro ?_ ?_; (focus (first | omega | (dsimp -iota only; omega) | (simp -iota; omega) | (simp -iota; done) | decide)))); conv => whnf)
    refine ⟨(), ?_, rfl⟩
    congr 3
    exact (decide_eq_false fun e => by subst e; exact h rfl).symm
  · have hl : A.length = B.length := by omega
    (conv => whnf); repeat ((first | (refine And.intro ?_ ?_; (focus ((repeat' (first | exact trivial | refine And.intro rfl ?_)); done))) | (refine And.intro ?_ ?_; (focus (first | omega | (dsimp -iota only; omega) | (simp -iota; omega) | (simp -iota; done) | decide)))); conv => whnf)
    refine AWP.loop (X := { x : Nat // x ≤ A.length ∧ ∀ j, j < x → A.getD j ([], 0) = B.getD j ([], 0) }) (fun x => [(0, .iv (.sl 2 A.length (nqF A))), (1, .iv (.sl 2 B.length (nqF B))), (12, AV.int .i64 A.length), (13, AV.int .i64 x.1)]) (fun x => ⟨0, []⟩) (fun x => A.length - x.1) (⟨0, by omega, fun j hj => by omega⟩) ?_ fun x => AWP.go (S := sch29) (cfgOk _ _) (.of_eq (by kernel_rfl)) ?_
    · exact Ent.mk' [] (by kernel_rfl) (by repeat' first | exact trivial | refine And.intro (AVE.refl _) ?_ | refine And.intro (AVE.int (by first | rfl | omega | (dsimp only; omega) | (simp -iota; omega) | (simp -iota; done))) ?_ | refine And.intro (AVE.bool (by assumption)) ?_ | refine And.intro (AVE.len (by first | rfl | omega | (dsimp only; omega) | (simp -iota; omega) | (simp -iota; done))) ?_) (by repeat' (first | exact trivial | refine ⟨⟨_, rfl, ChE.refl _⟩, ?_⟩))
    · obtain ⟨x, hx, hj⟩ := x
      have hxx : ((x : Nat) : Int).toNat = x := by simp
      (conv => whnf); repeat ((first | (refine And.intro ?_ ?_; (focus ((repeat' (first | exact trivial | refine And.intro rfl ?_)); done))) | (refine And.intro ?_ ?_; (focus (first | omega | (dsimp -iota only; omega) | (simp -iota; omega) | (simp -iota; done) | decide)))); conv => whnf)
      refine branchB_of (fun g => ?_) (fun g => ?_) <;> (first | replace g := not_t g | replace g := not_f g | skip) <;> (first | replace g := of_decide_eq_true g | replace g := of_decide_eq_false g | skip) <;> (first | replace g := Classical.not_not.1 g | skip) <;> (try dsimp only at g)
      · (conv => whnf); repeat ((first | (refine And.intro ?_ ?_; (focus ((repeat' (first | exact trivial | refine And.intro rfl ?_)); done))) | (refine And.intro ?_ ?_; (focus (first | omega | (dsimp -iota only; omega) | (simp -iota; omega) | (simp -iota; done) | decide)))); conv => whnf)
        refine branchB_of (fun g2 => ?_) (fun g2 => ?_) <;> (first | replace g2 := not_t g2 | replace g2 := not_f g2 | skip) <;> (first | replace g2 := of_decide_eq_true g2 | replace g2 := of_decide_eq_false g2 | skip) <;> (first | replace g2 := Classical.not_not.1 g2 | skip) <;> (try dsimp only at g2)
        · have hne : A ≠ B := fun e => by
            subst e
            simp at g2
          (conv => whnf); repeat ((first | (refine And.intro ?_ ?_; (focus ((repeat' (first | exact trivial | refine And.intro rfl ?_)); done))) | (refine And.intro ?_ ?_; (focus (first | omega | (dsimp -iota only; omega) | (simp -iota; omega) | (simp -iota; done) | decide)))); conv => whnf)
          refine ⟨(), ?_, rfl⟩
          congr 3
          exact (decide_eq_false hne).symm
        · rw [hxx] at g2
          simp only [Bool.and_eq_true, decide_eq_true_eq, and_true] at g2
          (conv => whnf); repeat ((first | (refine And.intro ?_ ?_; (focus ((repeat' (first | exact trivial | refine And.intro rfl ?_)); done))) | (refine And.intro ?_ ?_; (focus (first | omega | (dsimp -iota only; omega) | (simp -iota; omega) | (simp -iota; done) | decide)))); conv => whnf)
          refine ⟨⟨x + 1, by omega, fun j hj' => ?_⟩, Ent.mk' [] (by kernel_rfl) (by repeat' first | exact trivial | refine And.intro (AVE.refl _) ?_ | refine And.intro (AVE.int (by first | rfl | omega | (dsimp only; omega) | (simp -iota; omega) | (simp -iota; done))) ?_ | refine And.intro (AVE.bool (by assumption)) ?_ | refine And.intro (AVE.len (by first | rfl | omega | (dsimp only; omega) | (simp -iota; omega) | (simp -iota; done))) ?_) (by repeat' (first | exact trivial | refine ⟨⟨_, rfl, ChE.refl _⟩, ?_⟩)), ?_⟩
          · by_cases e : j = x
            · subst e
              exact Prod.ext g2.1 (by have := g2.2; omega)
            · exact hj j (by omega)
          · show A.length - (x + 1) < A.length - x
            omega
      · (conv => whnf); repeat ((first | (refine And.intro ?_ ?_; (focus ((repeat' (first | exact trivial | refine And.intro rfl ?_)); done))) | (refine And.intro ?_ ?_; (focus (first | omega | (dsimp -iota only; omega) | (simp -iota; omega) | (simp -iota; done) | decide)))); conv => whnf)
        refine ⟨(), ?_, rfl⟩
        congr 3
        exact (decide_eq_true (nq_ext hl fun j hjl => hj j (by omega))).symm
theorem edt_ext {a b : Edt} : a = b ↔ a.kind = b.kind ∧ a.name = b.name ∧ a.seq = b.seq ∧ a.id = b.id ∧ a.seals = b.seals := by
  cases a; cases b
  simp only [Edt.mk.injEq]
theorem editSame_ok (a b : Edt) (ha : a.seals.length ≤ 1000) (hb : b.seals.length ≤ 1000) : AFn Go.Proofs.Tryd.prog 16 [editA a, editA b] ⟨0, []⟩ (fun _ : Unit => AV.bool (decide (a = b))) (fun _ => ⟨0, []⟩) := by
  refine ACall.fin ?_
  refine ACall.walk (C := cfg 38 0) (cfgOk _ _) [] (fn := Go.Proofs.Tryd.f16) (by kernel_rfl) (by kernel_rfl) rfl (by kernel_rfl) (by kernel_rfl) rfl rfl ?_
  (conv => whnf); repeat ((first | (refine And.intro ?_ ?_; (focus ((repeat' (first | exact trivial | refine And.intro rfl ?_)); done))) | (refine And.intro ?_ ?_; (focus (first | omega | (dsimp -iota only; omega) | (simp -iota; omega) | (simp -iota; done) | decide)))); conv => whnf)
  repeat' (first | (refine branchB_of (fun q => ?_) (fun q => ?_) <;> (first | replace q := not_t q | replace q := not_f q | skip) <;> (first | replace q := of_decide_eq_true q | replace q := of_decide_eq_false q | skip) <;> (first | replace q := Classical.not_not.1 q | skip) <;> (try dsimp only at q) <;> ((conv => whnf); repeat ((first | (refine And.intro ?_ ?_; (focus ((repeat' (first | exact trivial | refine And.intro rfl ?_)); done))) | (refine And.intro ?_ ?_; (focus (first | omega | (dsimp -iota only; omega) | (simp -iota; omega) | (simp -iota; done) | decide)))); conv => whnf))) | (refine AFn.use [] (equalS_ok a.seals b.seals ha hb) (by kernel_rfl) rfl (by repeat' first | exact trivial | refine ⟨rfl, ?_⟩) fun _ => ?_; ((conv => whnf); repeat ((first | (refine And.intro ?_ ?_; (focus ((repeat' (first | exact trivial | refine And.intro rfl ?_)); done))) | (refine And.intro ?_ ?_; (focus (first | omega | (dsimp -iota only; omega) | (simp -iota; omega) | (simp -iota; done) | decide)))); conv => whnf))))
  all_goals
    refine ⟨_, _, Ent.mk' (e' := [(0, AV.bool (decide (a = b)))]) (H' := ⟨0, []⟩) [] (by kernel_rfl) ?_ ?_, (), rfl, rfl⟩
    · refine ⟨AVE.bool ?_, trivial⟩
      first
        | (symm; refine decide_eq_false fun e => ?_; rw [edt_ext] at e; simp_all; done)
        | (refine decide_eq_decide.2 ?_; rw [edt_ext]; simp_all; done)
        | (refine decide_eq_decide.2 ?_; rw [edt_ext]; constructor <;> intro h <;> simp_all <;> omega)
    · trivial
def Edt.few (e : Edt) : Edt := ⟨e.kind, e.name.take 40, e.seq, e.id, e.seals.take 210⟩
theorem AVE.slN {sz n n' : Nat} {f f' : Nat → List IV} (hn : n = n') (hf : ∀ i, i < n' → f i = f' i) : AVE (.iv (.sl sz n f)) (.iv (.sl sz n' f')) := by
  subst hn
  exact AVE.sl fun i hi => by rw [hf i hi]; exact IVEs.refl _
theorem slF_take (l : List Seal) {n i : Nat} (h : i < n) : slF l i = slF (l.take n) i := by
  unfold slF
  simp [List.getD, h]
theorem few_ok (e : Edt) : AFn Go.Proofs.Tryd.prog 15 [editA e] ⟨0, []⟩ (fun _ : Unit => editA e.few) (fun _ => ⟨0, []⟩) := by
  refine ACall.fin ?_
  refine ACall.walk (C := cfg 20 0) (cfgOk _ _) sch15 (fn := Go.Proofs.Tryd.f15) (by kernel_rfl) (by kernel_rfl) rfl (by kernel_rfl) (by kernel_rfl) rfl rfl ?_
  (conv => whnf); repeat ((first | (refine And.intro ?_ ?_; (focus ((repeat' (first | exact trivial | refine And.intro rfl ?_)); done))) | (refine And.intro ?_ ?_; (focus (first | omega | (dsimp -iota only; omega) | (simp -iota; omega) | (simp -iota; done) | decide)))); conv => whnf)
  repeat' (first | (refine And.intro ?_ ?_ <;> ((conv => whnf); repeat ((first | (refine And.intro ?_ ?_; (focus ((repeat' (first | exact trivial | refine And.intro rfl ?_)); done))) | (refine And.intro ?_ ?_; (focus (first | omega | (dsimp -iota only; omega) | (simp -iota; omega) | (simp -iota; done) | decide)))); conv => whnf))))
  refine ⟨_, _, Ent.mk' (e' := [(0, editA e.few)]) (H' := ⟨0, []⟩) [] (by kernel_rfl) ?_ ?_, (), rfl, rfl⟩
  · refine ⟨AVE.aggL ⟨AVE.refl _, AVE.of_eq ?_, AVE.refl _, AVE.refl _, AVE.slN ?_ ?_, rfl⟩, trivial⟩
    · refine congrArg AV.str (?_ : List.take ((min (e.name.length : Int) 40).toNat - Int.toNat 0) (List.drop (Int.toNat 0) e.name) = e.name.take 40)
      have e1 : Int.toNat 0 = 0 := rfl
      have e2 : (min (e.name.length : Int) 40).toNat = min e.name.length 40 := by omega
      rw [e1, e2, List.drop_zero, Nat.sub_zero]
      rw [List.take_eq_take_iff]
      omega
    · show _ = (e.seals.take 210).length
      rw [List.length_take]
      omega
    · intro i hi
      have hi' : i < (e.seals.take 210).length := hi
      rw [List.length_take] at hi'
      have e1 : Int.toNat 0 + i = i := by simp
      show slF e.seals (Int.toNat 0 + i) = slF (e.seals.take 210) i
      rw [e1]
      exact slF_take _ (by omega)
  · trivial
end Go.Proofs.YtmlhaellfpbcgaaDoor.Ax
