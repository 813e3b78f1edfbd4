/-
  Chapter 23: states; what edits do.
-/
import Derived.Test.YtmlhaellfpbcgaaDoorQc
namespace Go.Proofs.YtmlhaellfpbcgaaDoor.Ax
open Go.RowKit
set_option maxRecDepth 100000
structure SD where
  base : Nat
  sn : SN
  sealed : List Seal
  op : Nat
@[reducible] def SD.H (s : SD) : AH := ⟨3, [(0, .cells 69 [AV.int .u64 s.base, .ptr 1 0, .row 2 5 0 s.sealed.length, AV.int .u32 s.op]), (1, .sem (Nest s.sn.H)), (2, .rowc 49 5 s.sealed.length (slF s.sealed))]⟩
def SD.nil : SD := ⟨0, ⟨[], 0⟩, [], 0⟩
theorem mnew_ok : AFn Go.Proofs.Tryd.prog 8 [] ⟨0, []⟩ (fun _ : Unit => .ptr 0 0) (fun _ => one SD.nil.H) := by
  refine ACall.fin ?_
  refine ACall.walk (C := cfg 4 0) (cfgOk _ _) [] (fn := Go.Proofs.Tryd.f8) (by kernel_rfl) (by kernel_rfl) rfl (by kernel_rfl) (by kernel_rfl) rfl rfl ?_
  (conv => whnf); repeat ((first | (refine And.intro ?_ ?_; (focus ((repeat' (first | exact trivial | refine And.intro rfl ?_)); done))) | (refine And.intro ?_ ?_; (focus (first | omega | (dsimp -iota only; omega) | (simp -iota; omega) | (simp -iota; done) | decide)))); conv => whnf)
  refine AFn.use [] (new_ok) (by kernel_rfl) rfl (by repeat' first | exact trivial | refine ⟨rfl, ?_⟩) fun _ => ?_
  (conv => whnf); repeat ((first | (refine And.intro ?_ ?_; (focus ((repeat' (first | exact trivial | refine And.intro rfl ?_)); done))) | (refine And.intro ?_ ?_; (focus (first | omega | (dsimp -iota only; omega) | (simp -iota; omega) | (simp -iota; done) | decide)))); conv => whnf)
  refine ⟨_, _, Ent.shutAt (r2 := .ptr 0 0) [some 1, some 0, none] (SD.nil.H) rfl (by kernel_rfl) (AVE.of_eq ?_) ?_ (by kernel_rfl) (by kernel_rfl) (by repeat' first | exact trivial | refine ⟨rfl, ?_⟩) rfl, (), ?_, ?_⟩
  all_goals first | rfl | exact ⟨⟨_, rfl, ChE.cells ⟨AVE.refl _, AVE.refl _, AVE.nil _ _, AVE.refl _, rfl⟩⟩, ⟨_, rfl, ChE.refl _⟩, trivial, trivial⟩
section
variable (s : SD)
theorem mnone_in : AFn Go.Proofs.Tryd.prog 27 [.ptr 0 0] s.H (fun _ : Unit => AV.bool false) (fun _ => s.H) := by
  refine ACall.walk (C := cfg 12 3) (cfgOk _ _) [] (fn := Go.Proofs.Tryd.f27) (by kernel_rfl) (by kernel_rfl) rfl (by kernel_rfl) (by kernel_rfl) rfl rfl ?_
  conv => whnf
  exact ⟨(), rfl, rfl⟩
theorem base_in : AFn Go.Proofs.Tryd.prog 14 [.ptr 0 0] s.H (fun _ : Unit => AV.int .u64 s.base) (fun _ => s.H) := by
  refine ACall.walk (C := cfg 9 3) (cfgOk _ _) [] (fn := Go.Proofs.Tryd.f14) (by kernel_rfl) (by kernel_rfl) rfl (by kernel_rfl) (by kernel_rfl) rfl rfl ?_
  conv => whnf
  refine AFn.use [0, 1, 2] (mnone_in s) (by kernel_rfl) rfl (by repeat' first | exact trivial | refine ⟨rfl, ?_⟩) fun _ => ?_
  conv => whnf
  exact ⟨(), rfl, rfl⟩
theorem open_in : AFn Go.Proofs.Tryd.prog 23 [.ptr 0 0] s.H (fun _ : Unit => .tup [AV.int .u32 s.op, AV.bool (decide (s.op > 0))]) (fun _ => s.H) := by
  refine ACall.fin ?_
  refine ACall.walk (C := cfg 15 3) (cfgOk _ _) sch23 (fn := Go.Proofs.Tryd.f23) (by kernel_rfl) (by kernel_rfl) rfl (by kernel_rfl) (by kernel_rfl) rfl rfl ?_
  (conv => whnf); repeat ((first | (refine And.intro ?_ ?_; (focus ((repeat' (first | exact trivial | refine And.intro rfl ?_)); done))) | (refine And.intro ?_ ?_; (focus (first | omega | (dsimp -iota only; omega) | (simp -iota; omega) | (simp -iota; done) | decide)))); conv => whnf)
  refine AFn.use [0, 1, 2] (mnone_in s) (by kernel_rfl) rfl (by repeat' first | exact trivial | refine ⟨rfl, ?_⟩) fun _ => ?_
  (conv => whnf); repeat ((first | (refine And.intro ?_ ?_; (focus ((repeat' (first | exact trivial | refine And.intro rfl ?_)); done))) | (refine And.intro ?_ ?_; (focus (first | omega | (dsimp -iota only; omega) | (simp -iota; omega) | (simp -iota; done) | decide)))); conv => whnf)
  repeat' (first | (refine And.intro ?_ ?_ <;> ((conv => whnf); repeat ((first | (refine And.intro ?_ ?_; (focus ((repeat' (first | exact trivial | refine And.intro rfl ?_)); done))) | (refine And.intro ?_ ?_; (focus (first | omega | (dsimp -iota only; omega) | (simp -iota; omega) | (simp -iota; done) | decide)))); conv => whnf))))
  all_goals
    refine ⟨_, _, Ent.mk' (e' := [(0, .tup [AV.int .u32 s.op, AV.bool (decide (s.op > 0))])]) (H' := s.H) [some 0, some 1, some 2] (by kernel_rfl) ?_ ?_, (), rfl, rfl⟩
    · refine ⟨AVE.tup2 (AVE.refl _) (AVE.bool (decide_eq_decide.2 (by omega))), trivial⟩
    · (repeat' first | exact trivial | refine ⟨⟨_, rfl, ChE.refl _⟩, ?_⟩)
theorem sealedR_in (hl : s.sealed.length ≤ 1000) : AFn Go.Proofs.Tryd.prog 22 [.ptr 0 0] s.H (fun _ : Unit => .row 3 5 0 s.sealed.length) (fun _ => ⟨4, [(0, .cells 69 [AV.int .u64 s.base, .ptr 1 0, .row 2 5 0 s.sealed.length, AV.int .u32 s.op]), (1, .sem (Nest s.sn.H)), (2, .rowc 49 5 s.sealed.length (slF s.sealed)), (3, .rowc 49 5 s.sealed.length (slF s.sealed))]⟩) := by
  refine ACall.fin ?_
  refine ACall.walk (C := cfg 10 3) (cfgOk _ _) [] (fn := Go.Proofs.Tryd.f22) (by kernel_rfl) (by kernel_rfl) rfl (by kernel_rfl) (by kernel_rfl) rfl rfl ?_
  (conv => whnf); repeat ((first | (refine And.intro ?_ ?_; (focus ((repeat' (first | exact trivial | refine And.intro rfl ?_)); done))) | (refine And.intro ?_ ?_; (focus (first | omega | (dsimp -iota only; omega) | (simp -iota; omega) | (simp -iota; done) | decide)))); conv => whnf)
  refine AFn.use [0, 1, 2] (mnone_in s) (by kernel_rfl) rfl (by repeat' first | exact trivial | refine ⟨rfl, ?_⟩) fun _ => ?_
  (conv => whnf); repeat ((first | (refine And.intro ?_ ?_; (focus ((repeat' (first | exact trivial | refine And.intro rfl ?_)); done))) | (refine And.intro ?_ ?_; (focus (first | omega | (dsimp -iota only; omega) | (simp -iota; omega) | (simp -iota; done) | decide)))); conv => whnf)
  refine AFn.use [2] (clR_ok s.sealed.length hl (slF s.sealed)) (by kernel_rfl) rfl (by repeat' first | exact trivial | refine ⟨rfl, ?_⟩) fun _ => ?_
  (conv => whnf); repeat ((first | (refine And.intro ?_ ?_; (focus ((repeat' (first | exact trivial | refine And.intro rfl ?_)); done))) | (refine And.intro ?_ ?_; (focus (first | omega | (dsimp -iota only; omega) | (simp -iota; omega) | (simp -iota; done) | decide)))); conv => whnf)
  refine ⟨_, _, Ent.mk' (e' := [(0, .row 3 5 0 s.sealed.length)]) (H' := ⟨4, [(0, .cells 69 [AV.int .u64 s.base, .ptr 1 0, .row 2 5 0 s.sealed.length, AV.int .u32 s.op]), (1, .sem (Nest s.sn.H)), (2, .rowc 49 5 s.sealed.length (slF s.sealed)), (3, .rowc 49 5 s.sealed.length (slF s.sealed))]⟩) [some 0, some 1, some 2, some 3] (by kernel_rfl) ?_ ?_, (), rfl, rfl⟩
  · exact ⟨AVE.refl _, trivial⟩
  · (repeat' first | exact trivial | refine ⟨⟨_, rfl, ChE.refl _⟩, ?_⟩)
theorem sealed_in (hl : s.sealed.length ≤ 1000) : AFn Go.Proofs.Tryd.prog 22 [.ptr 0 0] s.H (fun _ : Unit => .iv (.sl 5 s.sealed.length (slF s.sealed))) (fun _ => s.H) := by
  refine ACall.fin ?_
  refine ACall.walk (C := cfg 10 3) (cfgOk _ _) [] (fn := Go.Proofs.Tryd.f22) (by kernel_rfl) (by kernel_rfl) rfl (by kernel_rfl) (by kernel_rfl) rfl rfl ?_
  (conv => whnf); repeat ((first | (refine And.intro ?_ ?_; (focus ((repeat' (first | exact trivial | refine And.intro rfl ?_)); done))) | (refine And.intro ?_ ?_; (focus (first | omega | (dsimp -iota only; omega) | (simp -iota; omega) | (simp -iota; done) | decide)))); conv => whnf)
  refine AFn.use [0, 1, 2] (mnone_in s) (by kernel_rfl) rfl (by repeat' first | exact trivial | refine ⟨rfl, ?_⟩) fun _ => ?_
  (conv => whnf); repeat ((first | (refine And.intro ?_ ?_; (focus ((repeat' (first | exact trivial | refine And.intro rfl ?_)); done))) | (refine And.intro ?_ ?_; (focus (first | omega | (dsimp -iota only; omega) | (simp -iota; omega) | (simp -iota; done) | decide)))); conv => whnf)
  refine AFn.use [2] (clR_ok s.sealed.length hl (slF s.sealed)) (by kernel_rfl) rfl (by repeat' first | exact trivial | refine ⟨rfl, ?_⟩) fun _ => ?_
  (conv => whnf); repeat ((first | (refine And.intro ?_ ?_; (focus ((repeat' (first | exact trivial | refine And.intro rfl ?_)); done))) | (refine And.intro ?_ ?_; (focus (first | omega | (dsimp -iota only; omega) | (simp -iota; omega) | (simp -iota; done) | decide)))); conv => whnf)
  refine ⟨_, _, (Ent.freeze 3 _ rfl rfl (e' := [(0, .iv (.sl 5 s.sealed.length (slF s.sealed)))]) ⟨AVF.sl (Nat.le_refl _), trivial⟩).trans (Ent.mk' (e' := [(0, .iv (.sl 5 s.sealed.length (slF s.sealed)))]) (H' := s.H) [some 0, some 1, some 2] (by kernel_rfl) ?_ ?_), (), rfl, rfl⟩
  · exact ⟨AVE.refl _, trivial⟩
  · (repeat' first | exact trivial | refine ⟨⟨_, rfl, ChE.refl _⟩, ?_⟩)
def lastF (b : Nat) (l : List Seal) : Nat := l.foldl (fun a x => max a x.last) b
def SD.last (s : SD) : Nat := lastF s.base s.sealed
theorem lastF_take (b : Nat) (l : List Seal) {i : Nat} (h : i < l.length) : lastF b (l.take (i + 1)) = max (lastF b (l.take i)) (l.getD i default).last := by
  unfold lastF
  rw [List.take_add_one, List.foldl_append, List.getElem?_eq_getElem h]
  simp [List.getD, h]
def topF (b : Nat) (l : List Seal) : Nat := l.foldl (fun a x => max a x.id) b
def SD.top (s : SD) : Nat := topF s.op s.sealed
theorem topF_take (b : Nat) (l : List Seal) {i : Nat} (h : i < l.length) : topF b (l.take (i + 1)) = max (topF b (l.take i)) (l.getD i default).id := by
  unfold topF
  rw [List.take_add_one, List.foldl_append, List.getElem?_eq_getElem h]
  simp [List.getD, h]
theorem last_in (hl : s.sealed.length ≤ 1000) : AFn Go.Proofs.Tryd.prog 13 [.ptr 0 0] s.H (fun _ : Unit => AV.int .u64 s.last) (fun _ => s.H) := by
  refine ACall.fin ?_
  refine ACall.walk (C := cfg 21 3) (cfgOk _ _) [] (fn := Go.Proofs.Tryd.f13) (by kernel_rfl) (by kernel_rfl) rfl (by kernel_rfl) (by kernel_rfl) rfl rfl ?_
  (conv => whnf); repeat ((first | (refine And.intro ?_ ?_; (focus ((repeat' (first | exact trivial | refine And.intro rfl ?_)); done))) | (refine And.intro ?_ ?_; (focus (first | omega | (dsimp -iota only; omega) | (simp -iota; omega) | (simp -iota; done) | decide)))); conv => whnf)
  refine AFn.use [0, 1, 2] (base_in s) (by kernel_rfl) rfl (by repeat' first | exact trivial | refine ⟨rfl, ?_⟩) fun _ => ?_
  (conv => whnf); repeat ((first | (refine And.intro ?_ ?_; (focus ((repeat' (first | exact trivial | refine And.intro rfl ?_)); done))) | (refine And.intro ?_ ?_; (focus (first | omega | (dsimp -iota only; omega) | (simp -iota; omega) | (simp -iota; done) | decide)))); conv => whnf)
  refine AFn.use [0, 1, 2] (sealed_in s hl) (by kernel_rfl) rfl (by repeat' first | exact trivial | refine ⟨rfl, ?_⟩) fun _ => ?_
  (conv => whnf); repeat ((first | (refine And.intro ?_ ?_; (focus ((repeat' (first | exact trivial | refine And.intro rfl ?_)); done))) | (refine And.intro ?_ ?_; (focus (first | omega | (dsimp -iota only; omega) | (simp -iota; omega) | (simp -iota; done) | decide)))); conv => whnf)
  refine AWP.loop (X := { x : Nat // x ≤ s.sealed.length }) (fun x => [(3, AV.int .u64 (lastF s.base (s.sealed.take x.1))), (9, .iv (.sl 5 s.sealed.length (slF s.sealed))), (10, AV.int .i64 s.sealed.length), (11, AV.int .i64 x.1)]) (fun x => s.H) (fun x => s.sealed.length - x.1) (⟨0, Nat.zero_le _⟩) ?_ fun x => AWP.go (S := []) (cfgOk _ _) (.of_eq (by kernel_rfl)) ?_
  · exact Ent.mk' [some 0, some 1, some 2] (by kernel_rfl) (by repeat' first | exact trivial | refine And.intro (AVE.refl _) ?_ | refine And.intro (AVE.int (by first | rfl | omega | (dsimp only; omega) | (simp -iota; omega) | (simp -iota; done))) ?_ | refine And.intro (AVE.bool (by assumption)) ?_ | refine And.intro (AVE.len (by first | rfl | omega | (dsimp only; omega) | (simp -iota; omega) | (simp -iota; done))) ?_) (by repeat' (first | exact trivial | refine ⟨⟨_, rfl, ChE.refl _⟩, ?_⟩))
  · obtain ⟨i, hi⟩ := x
    have hix : ((i : Nat) : Int).toNat = i := by simp
    (conv => whnf); repeat ((first | (refine And.intro ?_ ?_; (focus ((repeat' (first | exact trivial | refine And.intro rfl ?_)); done))) | (refine And.intro ?_ ?_; (focus (first | omega | (dsimp -iota only; omega) | (simp -iota; omega) | (simp -iota; done) | decide)))); conv => whnf)
    refine branchB_of (fun g => ?_) (fun g => ?_) <;> (first | replace g := not_t g | replace g := not_f g | skip) <;> (first | replace g := of_decide_eq_true g | replace g := of_decide_eq_false g | skip) <;> (first | replace g := Classical.not_not.1 g | skip) <;> (try dsimp only at g)
    · have hi' : i < s.sealed.length := by omega
      have hk := lastF_take s.base s.sealed hi'
      (conv => whnf); repeat ((first | (refine And.intro ?_ ?_; (focus ((repeat' (first | exact trivial | refine And.intro rfl ?_)); done))) | (refine And.intro ?_ ?_; (focus (first | omega | (dsimp -iota only; omega) | (simp -iota; omega) | (simp -iota; done) | decide)))); conv => whnf)
      rw [hix]
      refine ⟨⟨i + 1, by omega⟩, Ent.mk' [some 0, some 1, some 2] (by kernel_rfl) (by repeat' first | exact trivial | refine And.intro (AVE.refl _) ?_ | refine And.intro (AVE.int (by first | rfl | omega | (dsimp only; omega) | (simp -iota; omega) | (simp -iota; done))) ?_ | refine And.intro (AVE.bool (by assumption)) ?_ | refine And.intro (AVE.len (by first | rfl | omega | (dsimp only; omega) | (simp -iota; omega) | (simp -iota; done))) ?_) (by repeat' (first | exact trivial | refine ⟨⟨_, rfl, ChE.refl _⟩, ?_⟩)), ?_⟩
      show s.sealed.length - (i + 1) < s.sealed.length - i
      omega
    · have hk : lastF s.base (s.sealed.take i) = s.last := by rw [List.take_of_length_le (by omega)]; rfl
      rw [← hk]
      (conv => whnf); repeat ((first | (refine And.intro ?_ ?_; (focus ((repeat' (first | exact trivial | refine And.intro rfl ?_)); done))) | (refine And.intro ?_ ?_; (focus (first | omega | (dsimp -iota only; omega) | (simp -iota; omega) | (simp -iota; done) | decide)))); conv => whnf)
      refine ⟨_, _, Ent.mk' (e' := [(0, AV.int .u64 (lastF s.base (s.sealed.take i)))]) (H' := s.H) [some 0, some 1, some 2] (by kernel_rfl) ?_ ?_, (), rfl, rfl⟩
      · exact ⟨AVE.refl _, trivial⟩
      · (repeat' first | exact trivial | refine ⟨⟨_, rfl, ChE.refl _⟩, ?_⟩)
theorem top_in (hl : s.sealed.length ≤ 1000) : AFn Go.Proofs.Tryd.prog 12 [.ptr 0 0] s.H (fun _ : Unit => AV.int .u32 s.top) (fun _ => s.H) := by
  refine ACall.fin ?_
  refine ACall.walk (C := cfg 25 3) (cfgOk _ _) [] (fn := Go.Proofs.Tryd.f12) (by kernel_rfl) (by kernel_rfl) rfl (by kernel_rfl) (by kernel_rfl) rfl rfl ?_
  (conv => whnf); repeat ((first | (refine And.intro ?_ ?_; (focus ((repeat' (first | exact trivial | refine And.intro rfl ?_)); done))) | (refine And.intro ?_ ?_; (focus (first | omega | (dsimp -iota only; omega) | (simp -iota; omega) | (simp -iota; done) | decide)))); conv => whnf)
  refine AFn.use [0, 1, 2] (open_in s) (by kernel_rfl) rfl (by repeat' first | exact trivial | refine ⟨rfl, ?_⟩) fun _ => ?_
  (conv => whnf); repeat ((first | (refine And.intro ?_ ?_; (focus ((repeat' (first | exact trivial | refine And.intro rfl ?_)); done))) | (refine And.intro ?_ ?_; (focus (first | omega | (dsimp -iota only; omega) | (simp -iota; omega) | (simp -iota; done) | decide)))); conv => whnf)
  refine AFn.use [0, 1, 2] (sealed_in s hl) (by kernel_rfl) rfl (by repeat' first | exact trivial | refine ⟨rfl, ?_⟩) fun _ => ?_
  (conv => whnf); repeat ((first | (refine And.intro ?_ ?_; (focus ((repeat' (first | exact trivial | refine And.intro rfl ?_)); done))) | (refine And.intro ?_ ?_; (focus (first | omega | (dsimp -iota only; omega) | (simp -iota; omega) | (simp -iota; done) | decide)))); conv => whnf)
  refine AWP.loop (X := { x : Nat // x ≤ s.sealed.length }) (fun x => [(3, AV.int .u32 (topF s.op (s.sealed.take x.1))), (13, .iv (.sl 5 s.sealed.length (slF s.sealed))), (14, AV.int .i64 s.sealed.length), (15, AV.int .i64 x.1)]) (fun x => s.H) (fun x => s.sealed.length - x.1) (⟨0, Nat.zero_le _⟩) ?_ fun x => AWP.go (S := []) (cfgOk _ _) (.of_eq (by kernel_rfl)) ?_
  · exact Ent.mk' [some 0, some 1, some 2] (by kernel_rfl) (by repeat' first | exact trivial | refine And.intro (AVE.refl _) ?_ | refine And.intro (AVE.int (by first | rfl | omega | (dsimp only; omega) | (simp -iota; omega) | (simp -iota; done))) ?_ | refine And.intro (AVE.bool (by assumption)) ?_ | refine And.intro (AVE.len (by first | rfl | omega | (dsimp only; omega) | (simp -iota; omega) | (simp -iota; done))) ?_) (by repeat' (first | exact trivial | refine ⟨⟨_, rfl, ChE.refl _⟩, ?_⟩))
  · obtain ⟨i, hi⟩ := x
    have hix : ((i : Nat) : Int).toNat = i := by simp
    (conv => whnf); repeat ((first | (refine And.intro ?_ ?_; (focus ((repeat' (first | exact trivial | refine And.intro rfl ?_)); done))) | (refine And.intro ?_ ?_; (focus (first | omega | (dsimp -iota only; omega) | (simp -iota; omega) | (simp -iota; done) | decide)))); conv => whnf)
    refine branchB_of (fun g => ?_) (fun g => ?_) <;> (first | replace g := not_t g | replace g := not_f g | skip) <;> (first | replace g := of_decide_eq_true g | replace g := of_decide_eq_false g | skip) <;> (first | replace g := Classical.not_not.1 g | skip) <;> (try dsimp only at g)
    · have hi' : i < s.sealed.length := by omega
      have hk := topF_take s.op s.sealed hi'
      (conv => whnf); repeat ((first | (refine And.intro ?_ ?_; (focus ((repeat' (first | exact trivial | refine And.intro rfl ?_)); done))) | (refine And.intro ?_ ?_; (focus (first | omega | (dsimp -iota only; omega) | (simp -iota; omega) | (simp -iota; done) | decide)))); conv => whnf)
      rw [hix]
      refine ⟨⟨i + 1, by omega⟩, Ent.mk' [some 0, some 1, some 2] (by kernel_rfl) (by repeat' first | exact trivial | refine And.intro (AVE.refl _) ?_ | refine And.intro (AVE.int (by first | rfl | omega | (dsimp only; omega) | (simp -iota; omega) | (simp -iota; done))) ?_ | refine And.intro (AVE.bool (by assumption)) ?_ | refine And.intro (AVE.len (by first | rfl | omega | (dsimp only; omega) | (simp -iota; omega) | (simp -iota; done))) ?_) (by repeat' (first | exact trivial | refine ⟨⟨_, rfl, ChE.refl _⟩, ?_⟩)), ?_⟩
      show s.sealed.length - (i + 1) < s.sealed.length - i
      omega
    · have hk : topF s.op (s.sealed.take i) = s.top := by rw [List.take_of_length_le (by omega)]; rfl
      rw [← hk]
      (conv => whnf); repeat ((first | (refine And.intro ?_ ?_; (focus ((repeat' (first | exact trivial | refine And.intro rfl ?_)); done))) | (refine And.intro ?_ ?_; (focus (first | omega | (dsimp -iota only; omega) | (simp -iota; omega) | (simp -iota; done) | decide)))); conv => whnf)
      refine ⟨_, _, Ent.mk' (e' := [(0, AV.int .u32 (topF s.op (s.sealed.take i)))]) (H' := s.H) [some 0, some 1, some 2] (by kernel_rfl) ?_ ?_, (), rfl, rfl⟩
      · exact ⟨AVE.refl _, trivial⟩
      · (repeat' first | exact trivial | refine ⟨⟨_, rfl, ChE.refl _⟩, ?_⟩)
theorem snaps_in (hs : s.sn.Ok) : AFn Go.Proofs.Tryd.prog 24 [.ptr 0 0] s.H (fun _ : Unit => .iv (.sl 2 s.sn.list.length (nqF s.sn.list))) (fun _ => s.H) := by
  refine ACall.fin ?_
  refine ACall.walk (C := cfg 10 3) (cfgOk _ _) [] (fn := Go.Proofs.Tryd.f24) (by kernel_rfl) (by kernel_rfl) rfl (by kernel_rfl) (by kernel_rfl) rfl rfl ?_
  (conv => whnf); repeat ((first | (refine And.intro ?_ ?_; (focus ((repeat' (first | exact trivial | refine And.intro rfl ?_)); done))) | (refine And.intro ?_ ?_; (focus (first | omega | (dsimp -iota only; omega) | (simp -iota; omega) | (simp -iota; done) | decide)))); conv => whnf)
  refine AFn.use [0, 1, 2] (mnone_in s) (by kernel_rfl) rfl (by repeat' first | exact trivial | refine ⟨rfl, ?_⟩) fun _ => ?_
  (conv => whnf); repeat ((first | (refine And.intro ?_ ?_; (focus ((repeat' (first | exact trivial | refine And.intro rfl ?_)); done))) | (refine And.intro ?_ ?_; (focus (first | omega | (dsimp -iota only; omega) | (simp -iota; omega) | (simp -iota; done) | decide)))); conv => whnf)
  refine AFn.use [1] (list_ok s.sn hs) (by kernel_rfl) rfl (by repeat' first | exact trivial | refine ⟨rfl, ?_⟩) fun _ => ?_
  (conv => whnf); repeat ((first | (refine And.intro ?_ ?_; (focus ((repeat' (first | exact trivial | refine And.intro rfl ?_)); done))) | (refine And.intro ?_ ?_; (focus (first | omega | (dsimp -iota only; omega) | (simp -iota; omega) | (simp -iota; done) | decide)))); conv => whnf)
  refine ⟨_, _, Ent.mk' (e' := [(0, .iv (.sl 2 s.sn.list.length (nqF s.sn.list)))]) (H' := s.H) [some 0, some 1, some 2] (by kernel_rfl) ?_ ?_, (), rfl, rfl⟩
  · exact ⟨AVE.refl _, trivial⟩
  · (repeat' first | exact trivial | refine ⟨⟨_, rfl, ChE.refl _⟩, ?_⟩)
theorem mcopy_ok (hl : s.sealed.length ≤ 1000) : AFn Go.Proofs.Tryd.prog 20 [.ptr 0 0] (one s.H) (fun _ : Unit => .ptr 1 0) (fun _ => ⟨2, [(0, .sem (Nest s.H)), (1, .sem (Nest s.H))]⟩) := by
  refine ACall.fin ?_
  refine ACall.walkE (C := cfg 22 1) (cfgOk _ _) sch20 (fn := Go.Proofs.Tryd.f20) (by kernel_rfl) (by kernel_rfl) rfl (by kernel_rfl) (by kernel_rfl) rfl rfl (H1 := s.H) (fun _ _ => (HEnt.openOne (s.H) rfl rfl).ent) fun hlen hheap => ?_
  (conv => whnf); repeat ((first | (refine And.intro ?_ ?_; (focus ((repeat' (first | exact trivial | refine And.intro rfl ?_)); done))) | (refine And.intro ?_ ?_; (focus (first | omega | (dsimp -iota only; omega) | (simp -iota; omega) | (simp -iota; done) | decide)))); conv => whnf)
  refine AFn.use [0, 1, 2] (mnone_in s) (by kernel_rfl) rfl (by repeat' first | exact trivial | refine ⟨rfl, ?_⟩) fun _ => ?_
  (conv => whnf); repeat ((first | (refine And.intro ?_ ?_; (focus ((repeat' (first | exact trivial | refine And.intro rfl ?_)); done))) | (refine And.intro ?_ ?_; (focus (first | omega | (dsimp -iota only; omega) | (simp -iota; omega) | (simp -iota; done) | decide)))); conv => whnf)
  repeat' (first | (refine And.intro ?_ ?_ <;> ((conv => whnf); repeat ((first | (refine And.intro ?_ ?_; (focus ((repeat' (first | exact trivial | refine And.intro rfl ?_)); done))) | (refine And.intro ?_ ?_; (focus (first | omega | (dsimp -iota only; omega) | (simp -iota; omega) | (simp -iota; done) | decide)))); conv => whnf))) | (refine AFn.use [1] (copy_ok s.sn) (by kernel_rfl) rfl (by repeat' first | exact trivial | refine ⟨rfl, ?_⟩) fun _ => ?_; ((conv => whnf); repeat ((first | (refine And.intro ?_ ?_; (focus ((repeat' (first | exact trivial | refine And.intro rfl ?_)); done))) | (refine And.intro ?_ ?_; (focus (first | omega | (dsimp -iota only; omega) | (simp -iota; omega) | (simp -iota; done) | decide)))); conv => whnf))) | (refine AFn.use [0, 1, 2] (sealedR_in s hl) (by kernel_rfl) rfl (by repeat' first | exact trivial | refine ⟨rfl, ?_⟩) fun _ => ?_; ((conv => whnf); repeat ((first | (refine And.intro ?_ ?_; (focus ((repeat' (first | exact trivial | refine And.intro rfl ?_)); done))) | (refine And.intro ?_ ?_; (focus (first | omega | (dsimp -iota only; omega) | (simp -iota; omega) | (simp -iota; done) | decide)))); conv => whnf))))
  all_goals
    refine ⟨_, _, Ent.trans (HEnt.ent (HEnt.trans (HEnt.close [0, 1, 2] 0 s.H ?_ ?_) (HEnt.close [5, 3, 4] 5 s.H ?_ ?_))) (Ent.mk' (e' := [(0, .ptr 1 0)]) (H' := ⟨2, [(0, .sem (Nest s.H)), (1, .sem (Nest s.H))]⟩) [some 0, some 5] ?_ ?_ ?_), (), rfl, rfl⟩
    · kernel_rfl
    · repeat' first | exact trivial | refine ⟨rfl, ?_⟩
    · kernel_rfl
    · repeat' first | exact trivial | refine ⟨rfl, ?_⟩
    · kernel_rfl
    · exact ⟨AVE.refl _, trivial⟩
    · (repeat' first | exact trivial | refine ⟨⟨_, rfl, ChE.refl _⟩, ?_⟩)
theorem mnone_ok : AFn Go.Proofs.Tryd.prog 27 [.ptr 0 0] (one s.H) (fun _ : Unit => AV.bool false) (fun _ => one s.H) := AFn.shut (mnone_in s) rfl rfl (fun _ => ⟨by kernel_rfl, by kernel_rfl⟩) (fun _ => (by repeat' first | exact trivial | refine ⟨rfl, ?_⟩)) (fun _ => rfl)
theorem base_ok : AFn Go.Proofs.Tryd.prog 14 [.ptr 0 0] (one s.H) (fun _ : Unit => AV.int .u64 s.base) (fun _ => one s.H) := AFn.shut (base_in s) rfl rfl (fun _ => ⟨by kernel_rfl, by kernel_rfl⟩) (fun _ => (by repeat' first | exact trivial | refine ⟨rfl, ?_⟩)) (fun _ => rfl)
theorem open_ok : AFn Go.Proofs.Tryd.prog 23 [.ptr 0 0] (one s.H) (fun _ : Unit => .tup [AV.int .u32 s.op, AV.bool (decide (s.op > 0))]) (fun _ => one s.H) := AFn.shut (open_in s) rfl rfl (fun _ => ⟨by kernel_rfl, by kernel_rfl⟩) (fun _ => (by repeat' first | exact trivial | refine ⟨rfl, ?_⟩)) (fun _ => rfl)
theorem sealed_ok (hl : s.sealed.length ≤ 1000) : AFn Go.Proofs.Tryd.prog 22 [.ptr 0 0] (one s.H) (fun _ : Unit => .iv (.sl 5 s.sealed.length (slF s.sealed))) (fun _ => one s.H) := AFn.shut (sealed_in s hl) rfl rfl (fun _ => ⟨by kernel_rfl, by kernel_rfl⟩) (fun _ => (by repeat' first | exact trivial | refine ⟨rfl, ?_⟩)) (fun _ => rfl)
theorem last_ok (hl : s.sealed.length ≤ 1000) : AFn Go.Proofs.Tryd.prog 13 [.ptr 0 0] (one s.H) (fun _ : Unit => AV.int .u64 s.last) (fun _ => one s.H) := AFn.shut (last_in s hl) rfl rfl (fun _ => ⟨by kernel_rfl, by kernel_rfl⟩) (fun _ => (by repeat' first | exact trivial | refine ⟨rfl, ?_⟩)) (fun _ => rfl)
theorem top_ok (hl : s.sealed.length ≤ 1000) : AFn Go.Proofs.Tryd.prog 12 [.ptr 0 0] (one s.H) (fun _ : Unit => AV.int .u32 s.top) (fun _ => one s.H) := AFn.shut (top_in s hl) rfl rfl (fun _ => ⟨by kernel_rfl, by kernel_rfl⟩) (fun _ => (by repeat' first | exact trivial | refine ⟨rfl, ?_⟩)) (fun _ => rfl)
theorem snaps_ok (hs : s.sn.Ok) : AFn Go.Proofs.Tryd.prog 24 [.ptr 0 0] (one s.H) (fun _ : Unit => .iv (.sl 2 s.sn.list.length (nqF s.sn.list))) (fun _ => one s.H) := AFn.shut (snaps_in s hs) rfl rfl (fun _ => ⟨by kernel_rfl, by kernel_rfl⟩) (fun _ => (by repeat' first | exact trivial | refine ⟨rfl, ?_⟩)) (fun _ => rfl)
end
theorem list_len16 {s : SN} (hs : s.Ok) : s.list.length ≤ 1000 := by
  unfold SN.list
  rw [listS_length]
  have := hs.len
  simp [SN.nqs]
  omega
def SD.same (a b : SD) : Bool := decide (a.last = b.last ∧ a.op = b.op ∧ a.sn.list = b.sn.list ∧ a.sealed = b.sealed)
theorem same_ok (a b : SD) (ha : a.sealed.length ≤ 1000) (hb : b.sealed.length ≤ 1000) (ka : a.sn.Ok) (kb : b.sn.Ok) : AFn Go.Proofs.Tryd.prog 11 [.ptr 0 0, .ptr 1 0] ⟨2, [(0, .sem (Nest a.H)), (1, .sem (Nest b.H))]⟩ (fun _ : Unit => AV.bool (a.same b)) (fun _ => ⟨2, [(0, .sem (Nest a.H)), (1, .sem (Nest b.H))]⟩) := by
  refine ACall.fin ?_
  refine ACall.walk (C := cfg 50 2) (cfgOk _ _) [] (fn := Go.Proofs.Tryd.f11) (by kernel_rfl) (by kernel_rfl) rfl (by kernel_rfl) (by kernel_rfl) rfl rfl ?_
  (conv => whnf); repeat ((first | (refine And.intro ?_ ?_; (focus ((repeat' (first | exact trivial | refine And.intro rfl ?_)); done))) | (refine And.intro ?_ ?_; (focus (first | omega | (dsimp -iota only; omega) | (simp -iota; omega) | (simp -iota; done) | decide)))); conv => whnf)
  refine AFn.use [0] (open_ok a) (by kernel_rfl) rfl (by repeat' first | exact trivial | refine ⟨rfl, ?_⟩) fun _ => ?_
  (conv => whnf); repeat ((first | (refine And.intro ?_ ?_; (focus ((repeat' (first | exact trivial | refine And.intro rfl ?_)); done))) | (refine And.intro ?_ ?_; (focus (first | omega | (dsimp -iota only; omega) | (simp -iota; omega) | (simp -iota; done) | decide)))); conv => whnf)
  refine AFn.use [1] (open_ok b) (by kernel_rfl) rfl (by repeat' first | exact trivial | refine ⟨rfl, ?_⟩) fun _ => ?_
  (conv => whnf); repeat ((first | (refine And.intro ?_ ?_; (focus ((repeat' (first | exact trivial | refine And.intro rfl ?_)); done))) | (refine And.intro ?_ ?_; (focus (first | omega | (dsimp -iota only; omega) | (simp -iota; omega) | (simp -iota; done) | decide)))); conv => whnf)
  refine AFn.use [0] (mnone_ok a) (by kernel_rfl) rfl (by repeat' first | exact trivial | refine ⟨rfl, ?_⟩) fun _ => ?_
  (conv => whnf); repeat ((first | (refine And.intro ?_ ?_; (focus ((repeat' (first | exact trivial | refine And.intro rfl ?_)); done))) | (refine And.intro ?_ ?_; (focus (first | omega | (dsimp -iota only; omega) | (simp -iota; omega) | (simp -iota; done) | decide)))); conv => whnf)
  refine AFn.use [1] (mnone_ok b) (by kernel_rfl) rfl (by repeat' first | exact trivial | refine ⟨rfl, ?_⟩) fun _ => ?_
  (conv => whnf); repeat ((first | (refine And.intro ?_ ?_; (focus ((repeat' (first | exact trivial | refine And.intro rfl ?_)); done))) | (refine And.intro ?_ ?_; (focus (first | omega | (dsimp -iota only; omega) | (simp -iota; omega) | (simp -iota; done) | decide)))); conv => whnf)
  refine AFn.use [0] (last_ok a ha) (by kernel_rfl) rfl (by repeat' first | exact trivial | refine ⟨rfl, ?_⟩) fun _ => ?_
  (conv => whnf); repeat ((first | (refine And.intro ?_ ?_; (focus ((repeat' (first | exact trivial | refine And.intro rfl ?_)); done))) | (refine And.intro ?_ ?_; (focus (first | omega | (dsimp -iota only; omega) | (simp -iota; omega) | (simp -iota; done) | decide)))); conv => whnf)
  refine AFn.use [1] (last_ok b hb) (by kernel_rfl) rfl (by repeat' first | exact trivial | refine ⟨rfl, ?_⟩) fun _ => ?_
  (conv => whnf); repeat ((first | (refine And.intro ?_ ?_; (focus ((repeat' (first | exact trivial | refine And.intro rfl ?_)); done))) | (refine And.intro ?_ ?_; (focus (first | omega | (dsimp -iota only; omega) | (simp -iota; omega) | (simp -iota; done) | decide)))); conv => whnf)
  repeat' (first
    | (refine branchB_of (fun q => ?_) (fun q => ?_) <;> (first | replace q := not_t q | replace q := not_f q | skip) <;> (first | replace q := of_decide_eq_true q | replace q := of_decide_eq_false q | skip) <;> (first | replace q := Classical.not_not.1 q | skip) <;> (try dsimp only at q) <;> ((conv => whnf); repeat ((first | (refine And.intro ?_ ?_; (focus ((repeat' (first | exact trivial | refine And.intro rfl ?_)); done))) | (refine And.intro ?_ ?_; (focus (first | omega | (dsimp -iota only; omega) | (simp -iota; omega) | (simp -iota; done) | decide)))); conv => whnf)))
    | (refine AFn.use [0] (snaps_ok a ka) (by kernel_rfl) rfl (by repeat' first | exact trivial | refine ⟨rfl, ?_⟩) fun _ => ?_
       (conv => whnf); repeat ((first | (refine And.intro ?_ ?_; (focus ((repeat' (first | exact trivial | refine And.intro rfl ?_)); done))) | (refine And.intro ?_ ?_; (focus (first | omega | (dsimp -iota only; omega) | (simp -iota; omega) | (simp -iota; done) | decide)))); conv => whnf)
       refine AFn.use [1] (snaps_ok b kb) (by kernel_rfl) rfl (by repeat' first | exact trivial | refine ⟨rfl, ?_⟩) fun _ => ?_
       (conv => whnf); repeat ((first | (refine And.intro ?_ ?_; (focus ((repeat' (first | exact trivial | refine And.intro rfl ?_)); done))) | (refine And.intro ?_ ?_; (focus (first | omega | (dsimp -iota only; omega) | (simp -iota; omega) | (simp -iota; done) | decide)))); conv => whnf)
       refine AFn.use [] (equal_ok a.sn.list b.sn.list (list_len16 ka) (list_len16 kb)) (by kernel_rfl) rfl (by repeat' first | exact trivial | refine ⟨rfl, ?_⟩) fun _ => ?_
       (conv => whnf); repeat ((first | (refine And.intro ?_ ?_; (focus ((repeat' (first | exact trivial | refine And.intro rfl ?_)); done))) | (refine And.intro ?_ ?_; (focus (first | omega | (dsimp -iota only; omega) | (simp -iota; omega) | (simp -iota; done) | decide)))); conv => whnf))
    | (refine AFn.use [0] (sealed_ok a ha) (by kernel_rfl) rfl (by repeat' first | exact trivial | refine ⟨rfl, ?_⟩) fun _ => ?_
       (conv => whnf); repeat ((first | (refine And.intro ?_ ?_; (focus ((repeat' (first | exact trivial | refine And.intro rfl ?_)); done))) | (refine And.intro ?_ ?_; (focus (first | omega | (dsimp -iota only; omega) | (simp -iota; omega) | (simp -iota; done) | decide)))); conv => whnf)
       refine AFn.use [1] (sealed_ok b hb) (by kernel_rfl) rfl (by repeat' first | exact trivial | refine ⟨rfl, ?_⟩) fun _ => ?_
       (conv => whnf); repeat ((first | (refine And.intro ?_ ?_; (focus ((repeat' (first | exact trivial | refine And.intro rfl ?_)); done))) | (refine And.intro ?_ ?_; (focus (first | omega | (dsimp -iota only; omega) | (simp -iota; omega) | (simp -iota; done) | decide)))); conv => whnf)
       refine AFn.use [] (equalS_ok a.sealed b.sealed ha hb) (by kernel_rfl) rfl (by repeat' first | exact trivial | refine ⟨rfl, ?_⟩) fun _ => ?_
       (conv => whnf); repeat ((first | (refine And.intro ?_ ?_; (focus ((repeat' (first | exact trivial | refine And.intro rfl ?_)); done))) | (refine And.intro ?_ ?_; (focus (first | omega | (dsimp -iota only; omega) | (simp -iota; omega) | (simp -iota; done) | decide)))); conv => whnf)))
  all_goals
    refine ⟨_, _, Ent.mk' (e' := [(0, AV.bool (a.same b))]) (H' := ⟨2, [(0, .sem (Nest a.H)), (1, .sem (Nest b.H))]⟩) [some 0, some 1] (by kernel_rfl) ?_ ?_, (), rfl, rfl⟩
    · refine ⟨AVE.bool ?_, trivial⟩
      unfold SD.same
      first
        | (symm; refine decide_eq_false fun e => ?_; simp_all; done)
        | (symm; refine decide_eq_false fun e => ?_; omega)
        | (refine decide_eq_decide.2 ?_; simp_all; done)
        | (refine decide_eq_decide.2 ?_; constructor <;> intro h <;> simp_all <;> omega)
    · (repeat' first | exact trivial | refine ⟨⟨_, rfl, ChE.refl _⟩, ?_⟩)
end Go.Proofs.YtmlhaellfpbcgaaDoor.Ax

namespace Go.Proofs.YtmlhaellfpbcgaaDoor.Ax
open Go.RowKit
set_option maxRecDepth 100000
/-- Seals may stand behind an id and a number. -/
def folF : List Seal → Nat → Nat → Nat → Bool
  | [], _, _, _ => true
  | x :: l, a, n, m => bif decide (x.id ≤ a ∨ x.last > m ∨ (x.many > 0 ∧ x.first ≤ n)) then false else folF l x.id (max n x.last) m
theorem folF_drop {l : List Seal} {i : Nat} (h : i < l.length) (a n m : Nat) : folF (l.drop i) a n m = bif decide ((l.getD i default).id ≤ a ∨ (l.getD i default).last > m ∨ ((l.getD i default).many > 0 ∧ (l.getD i default).first ≤ n)) then false else folF (l.drop (i + 1)) (l.getD i default).id (max n (l.getD i default).last) m := by
  rw [List.drop_eq_getElem_cons h]
  simp only [List.getD_eq_getElem?_getD, List.getElem?_eq_getElem h, Option.getD_some]
  rfl
structure FolX (l : List Seal) (a n m : Nat) where
  i : Nat
  a' : Nat
  n' : Nat
  hi : i ≤ l.length
  h : folF (l.drop i) a' n' m = folF l a n m
theorem fol_ok (l : List Seal) (hl : l.length ≤ 1000) (a n m : Nat) : AFn Go.Proofs.Tryd.prog 102 [.iv (.sl 5 l.length (slF l)), AV.int .u32 a, AV.int .u64 n, AV.int .u64 m] ⟨0, []⟩ (fun _ : Unit => AV.bool (folF l a n m)) (fun _ => ⟨0, []⟩) := by
  refine ACall.fin ?_
  refine ACall.walk (C := cfg 45 0) (cfgOk _ _) sch102 (fn := Go.Proofs.Tryd.f102) (by kernel_rfl) (by kernel_rfl) rfl (by kernel_rfl) (by kernel_rfl) rfl rfl ?_
  (conv => whnf); repeat ((first | (refine And.intro ?_ ?_; (focus ((repeat' (first | exact trivial | refine And.intro rfl ?_)); done))) | (refine And.intro ?_ ?_; (focus (first | omega | (dsimp -iota only; omega) | (simp -iota; omega) | (simp -iota; done) | decide)))); conv => whnf)
  refine AWP.loop (X := FolX l a n m) (fun x => [(1, AV.int .u32 x.a'), (2, AV.int .u64 x.n'), (3, AV.int .u64 m), (11, .iv (.sl 5 l.length (slF l))), (12, AV.int .i64 l.length), (13, AV.int .i64 x.i)]) (fun x => ⟨0, []⟩) (fun x => l.length - x.i) (⟨0, a, n, Nat.zero_le _, by rw [List.drop_zero]⟩) ?_ fun x => AWP.go (S := sch102) (cfgOk _ _) (.of_eq (by kernel_rfl)) ?_
  · exact Ent.mk' [] (by kernel_rfl) (by repeat' first | exact trivial | refine And.intro (AVE.refl _) ?_ | refine And.intro (AVE.int (by first | rfl | omega | (dsimp only; omega) | (simp -iota; omega) | (simp -iota; done))) ?_ | refine And.intro (AVE.bool (by assumption)) ?_ | refine And.intro (AVE.len (by first | rfl | omega | (dsimp only; omega) | (simp -iota; omega) | (simp -iota; done))) ?_) (by repeat' (first | exact trivial | refine ⟨⟨_, rfl, ChE.refl _⟩, ?_⟩))
  · obtain ⟨i, a', n', hi, h⟩ := x
    have hix : ((i : Nat) : Int).toNat = i := by simp
    (conv => whnf); repeat ((first | (refine And.intro ?_ ?_; (focus ((repeat' (first | exact trivial | refine And.intro rfl ?_)); done))) | (refine And.intro ?_ ?_; (focus (first | omega | (dsimp -iota only; omega) | (simp -iota; omega) | (simp -iota; done) | decide)))); conv => whnf)
    refine branchB_of (fun g => ?_) (fun g => ?_) <;> (first | replace g := not_t g | replace g := not_f g | skip) <;> (first | replace g := of_decide_eq_true g | replace g := of_decide_eq_false g | skip) <;> (first | replace g := Classical.not_not.1 g | skip) <;> (try dsimp only at g)
    · have hi' : i < l.length := by omega
      have hk := folF_drop hi' a' n' m
      (conv => whnf); repeat ((first | (refine And.intro ?_ ?_; (focus ((repeat' (first | exact trivial | refine And.intro rfl ?_)); done))) | (refine And.intro ?_ ?_; (focus (first | omega | (dsimp -iota only; omega) | (simp -iota; omega) | (simp -iota; done) | decide)))); conv => whnf)
      rw [hix]
      repeat' (refine branchB_of (fun q => ?_) (fun q => ?_) <;> (first | replace q := not_t q | replace q := not_f q | skip) <;> (first | replace q := of_decide_eq_true q | replace q := of_decide_eq_false q | skip) <;> (first | replace q := Classical.not_not.1 q | skip) <;> (try dsimp only at q) <;> ((conv => whnf); repeat ((first | (refine And.intro ?_ ?_; (focus ((repeat' (first | exact trivial | refine And.intro rfl ?_)); done))) | (refine And.intro ?_ ?_; (focus (first | omega | (dsimp -iota only; omega) | (simp -iota; omega) | (simp -iota; done) | decide)))); conv => whnf)))
      all_goals repeat' (first | (refine And.intro ?_ ?_ <;> ((conv => whnf); repeat ((first | (refine And.intro ?_ ?_; (focus ((repeat' (first | exact trivial | refine And.intro rfl ?_)); done))) | (refine And.intro ?_ ?_; (focus (first | omega | (dsimp -iota only; omega) | (simp -iota; omega) | (simp -iota; done) | decide)))); conv => whnf))))
      all_goals first
        | (have hf : folF l a n m = false := by
             rw [← h, hk]
             rw [decide_eq_true (by omega)]
             rfl
           rw [hf]
           refine ⟨_, _, Ent.mk' (e' := [(0, AV.bool false)]) (H' := ⟨0, []⟩) [] (by kernel_rfl) ?_ ?_, (), rfl, rfl⟩
           · exact ⟨AVE.refl _, trivial⟩
           · trivial)
        | (refine ⟨⟨i + 1, (l.getD i default).id, max n' (l.getD i default).last, by omega, by
             rw [← h, hk]
             rw [decide_eq_false (by omega)]
             rfl⟩, Ent.mk' [] (by kernel_rfl) (by repeat' first | exact trivial | refine And.intro (AVE.refl _) ?_ | refine And.intro (AVE.int (by first | rfl | omega | (dsimp only; omega) | (simp -iota; omega) | (simp -iota; done))) ?_ | refine And.intro (AVE.bool (by assumption)) ?_ | refine And.intro (AVE.len (by first | rfl | omega | (dsimp only; omega) | (simp -iota; omega) | (simp -iota; done))) ?_) (by repeat' (first | exact trivial | refine ⟨⟨_, rfl, ChE.refl _⟩, ?_⟩)), ?_⟩
           show l.length - (i + 1) < l.length - i
           omega)
    · have hf : folF l a n m = true := by
        rw [← h, List.drop_of_length_le (by omega)]
        rfl
      rw [hf]
      (conv => whnf); repeat ((first | (refine And.intro ?_ ?_; (focus ((repeat' (first | exact trivial | refine And.intro rfl ?_)); done))) | (refine And.intro ?_ ?_; (focus (first | omega | (dsimp -iota only; omega) | (simp -iota; omega) | (simp -iota; done) | decide)))); conv => whnf)
      refine ⟨_, _, Ent.mk' (e' := [(0, AV.bool true)]) (H' := ⟨0, []⟩) [] (by kernel_rfl) ?_ ?_, (), rfl, rfl⟩
      · exact ⟨AVE.refl _, trivial⟩
      · trivial
section
variable (s : SD) (e : Edt)
def SD.f1 : Bool := decide (s.last ≤ e.seq)
def SD.d1 : SD := bif s.f1 e then ⟨e.seq, s.sn, s.sealed, s.op⟩ else s
theorem d1_ok (hl : s.sealed.length ≤ 1000) : AFn Go.Proofs.Tryd.prog 94 [.ptr 0 0, editA e] (one s.H) (fun _ : Unit => AV.bool (s.f1 e)) (fun _ => one (s.d1 e).H) := by
  refine ACall.fin ?_
  refine ACall.walkE (C := cfg 18 1) (cfgOk _ _) sch94 (fn := Go.Proofs.Tryd.f94) (by kernel_rfl) (by kernel_rfl) rfl (by kernel_rfl) (by kernel_rfl) rfl rfl (H1 := s.H) (fun _ _ => (HEnt.openOne (s.H) rfl rfl).ent) fun hlen hheap => ?_
  (conv => whnf); repeat ((first | (refine And.intro ?_ ?_; (focus ((repeat' (first | exact trivial | refine And.intro rfl ?_)); done))) | (refine And.intro ?_ ?_; (focus (first | omega | (dsimp -iota only; omega) | (simp -iota; omega) | (simp -iota; done) | decide)))); conv => whnf)
  repeat' (first | (refine And.intro ?_ ?_ <;> ((conv => whnf); repeat ((first | (refine And.intro ?_ ?_; (focus ((repeat' (first | exact trivial | refine And.intro rfl ?_)); done))) | (refine And.intro ?_ ?_; (focus (first | omega | (dsimp -iota only; omega) | (simp -iota; omega) | (simp -iota; done) | decide)))); conv => whnf))) | (refine AFn.use [0, 1, 2] (last_in s hl) (by kernel_rfl) rfl (by repeat' first | exact trivial | refine ⟨rfl, ?_⟩) fun _ => ?_; ((conv => whnf); repeat ((first | (refine And.intro ?_ ?_; (focus ((repeat' (first | exact trivial | refine And.intro rfl ?_)); done))) | (refine And.intro ?_ ?_; (focus (first | omega | (dsimp -iota only; omega) | (simp -iota; omega) | (simp -iota; done) | decide)))); conv => whnf))))
  all_goals
    refine branchB_of (fun q => ?_) (fun q => ?_) <;> (first | replace q := not_t q | replace q := not_f q | skip) <;> (first | replace q := of_decide_eq_true q | replace q := of_decide_eq_false q | skip) <;> (first | replace q := Classical.not_not.1 q | skip) <;> (try dsimp only at q)
    · have e1 : s.f1 e = true := decide_eq_true (by omega)
      have e2 : s.d1 e = ⟨e.seq, s.sn, s.sealed, s.op⟩ := by unfold SD.d1; rw [e1]; rfl
      rw [e1, e2]
      (conv => whnf); repeat ((first | (refine And.intro ?_ ?_; (focus ((repeat' (first | exact trivial | refine And.intro rfl ?_)); done))) | (refine And.intro ?_ ?_; (focus (first | omega | (dsimp -iota only; omega) | (simp -iota; omega) | (simp -iota; done) | decide)))); conv => whnf)
      refine ⟨_, _, Ent.shutAt (r2 := AV.bool true) [some 0, some 1, some 2] (SD.H ⟨e.seq, s.sn, s.sealed, s.op⟩) rfl (by kernel_rfl) (AVE.of_eq ?_) ?_ (by kernel_rfl) (by kernel_rfl) (by repeat' first | exact trivial | refine ⟨rfl, ?_⟩) rfl, (), ?_, ?_⟩
      all_goals first | rfl | exact congrArg AV.bool (decide_eq_true (by omega)) | (repeat' first | exact trivial | refine ⟨⟨_, rfl, ChE.refl _⟩, ?_⟩)
    · have e1 : s.f1 e = false := decide_eq_false (by omega)
      have e2 : s.d1 e = s := by unfold SD.d1; rw [e1]; rfl
      rw [e1, e2]
      (conv => whnf); repeat ((first | (refine And.intro ?_ ?_; (focus ((repeat' (first | exact trivial | refine And.intro rfl ?_)); done))) | (refine And.intro ?_ ?_; (focus (first | omega | (dsimp -iota only; omega) | (simp -iota; omega) | (simp -iota; done) | decide)))); conv => whnf)
      refine ⟨_, _, Ent.shutAt (r2 := AV.bool false) [some 0, some 1, some 2] (s.H) rfl (by kernel_rfl) (AVE.of_eq ?_) ?_ (by kernel_rfl) (by kernel_rfl) (by repeat' first | exact trivial | refine ⟨rfl, ?_⟩) rfl, (), ?_, ?_⟩
      all_goals first | rfl | exact congrArg AV.bool (decide_eq_false (by omega)) | (repeat' first | exact trivial | refine ⟨⟨_, rfl, ChE.refl _⟩, ?_⟩)
def SD.f2 : Bool := decide (s.sn.addE e.name e.seq = 0)
def SD.d2 : SD := ⟨s.base, s.sn.add e.name e.seq, s.sealed, s.op⟩
theorem d2_ok (hs : s.sn.Ok) (hq : e.seq ≤ 18446744073709551615) : AFn Go.Proofs.Tryd.prog 95 [.ptr 0 0, editA e] (one s.H) (fun _ : Unit => AV.bool (s.f2 e)) (fun _ => one (s.d2 e).H) := by
  refine ACall.fin ?_
  refine ACall.walkE (C := cfg 21 1) (cfgOk _ _) sch95 (fn := Go.Proofs.Tryd.f95) (by kernel_rfl) (by kernel_rfl) rfl (by kernel_rfl) (by kernel_rfl) rfl rfl (H1 := s.H) (fun _ _ => (HEnt.openOne (s.H) rfl rfl).ent) fun hlen hheap => ?_
  (conv => whnf); repeat ((first | (refine And.intro ?_ ?_; (focus ((repeat' (first | exact trivial | refine And.intro rfl ?_)); done))) | (refine And.intro ?_ ?_; (focus (first | omega | (dsimp -iota only; omega) | (simp -iota; omega) | (simp -iota; done) | decide)))); conv => whnf)
  repeat' (first | (refine And.intro ?_ ?_ <;> ((conv => whnf); repeat ((first | (refine And.intro ?_ ?_; (focus ((repeat' (first | exact trivial | refine And.intro rfl ?_)); done))) | (refine And.intro ?_ ?_; (focus (first | omega | (dsimp -iota only; omega) | (simp -iota; omega) | (simp -iota; done) | decide)))); conv => whnf))) | (refine AFn.use [1] (add_ok s.sn hs e.name e.seq hq) (by kernel_rfl) rfl (by repeat' first | exact trivial | refine ⟨rfl, ?_⟩) fun _ => ?_; ((conv => whnf); repeat ((first | (refine And.intro ?_ ?_; (focus ((repeat' (first | exact trivial | refine And.intro rfl ?_)); done))) | (refine And.intro ?_ ?_; (focus (first | omega | (dsimp -iota only; omega) | (simp -iota; omega) | (simp -iota; done) | decide)))); conv => whnf))))
  all_goals
    refine ⟨_, _, Ent.shutAt (r2 := AV.bool (s.f2 e)) [some 0, some 1, some 2] ((s.d2 e).H) rfl (by kernel_rfl) (AVE.of_eq ?_) ?_ (by kernel_rfl) (by kernel_rfl) (by repeat' first | exact trivial | refine ⟨rfl, ?_⟩) rfl, (), ?_, ?_⟩
    all_goals first | rfl | (repeat' first | exact trivial | refine ⟨⟨_, rfl, ChE.refl _⟩, ?_⟩)
def SD.f3 : Bool := decide (s.sn.findE e.name = 0)
def SD.d3 : SD := ⟨s.base, s.sn.drop e.name, s.sealed, s.op⟩
theorem d3_ok : AFn Go.Proofs.Tryd.prog 97 [.ptr 0 0, editA e] (one s.H) (fun _ : Unit => AV.bool (s.f3 e)) (fun _ => one (s.d3 e).H) := by
  refine ACall.fin ?_
  refine ACall.walkE (C := cfg 13 1) (cfgOk _ _) sch97 (fn := Go.Proofs.Tryd.f97) (by kernel_rfl) (by kernel_rfl) rfl (by kernel_rfl) (by kernel_rfl) rfl rfl (H1 := s.H) (fun _ _ => (HEnt.openOne (s.H) rfl rfl).ent) fun hlen hheap => ?_
  (conv => whnf); repeat ((first | (refine And.intro ?_ ?_; (focus ((repeat' (first | exact trivial | refine And.intro rfl ?_)); done))) | (refine And.intro ?_ ?_; (focus (first | omega | (dsimp -iota only; omega) | (simp -iota; omega) | (simp -iota; done) | decide)))); conv => whnf)
  repeat' (first | (refine And.intro ?_ ?_ <;> ((conv => whnf); repeat ((first | (refine And.intro ?_ ?_; (focus ((repeat' (first | exact trivial | refine And.intro rfl ?_)); done))) | (refine And.intro ?_ ?_; (focus (first | omega | (dsimp -iota only; omega) | (simp -iota; omega) | (simp -iota; done) | decide)))); conv => whnf))) | (refine AFn.use [1] (drop_ok s.sn e.name) (by kernel_rfl) rfl (by repeat' first | exact trivial | refine ⟨rfl, ?_⟩) fun _ => ?_; ((conv => whnf); repeat ((first | (refine And.intro ?_ ?_; (focus ((repeat' (first | exact trivial | refine And.intro rfl ?_)); done))) | (refine And.intro ?_ ?_; (focus (first | omega | (dsimp -iota only; omega) | (simp -iota; omega) | (simp -iota; done) | decide)))); conv => whnf))))
  all_goals
    refine ⟨_, _, Ent.shutAt (r2 := AV.bool (s.f3 e)) [some 0, some 1, some 2] ((s.d3 e).H) rfl (by kernel_rfl) (AVE.of_eq ?_) ?_ (by kernel_rfl) (by kernel_rfl) (by repeat' first | exact trivial | refine ⟨rfl, ?_⟩) rfl, (), ?_, ?_⟩
    all_goals first | rfl | (repeat' first | exact trivial | refine ⟨⟨_, rfl, ChE.refl _⟩, ?_⟩)
def SD.f4 : Bool := decide (s.op = 0 ∧ s.top < e.id ∧ s.sealed.length < 200)
def SD.d4 : SD := bif s.f4 e then ⟨s.base, s.sn, s.sealed, e.id⟩ else s
theorem d4_ok (hl : s.sealed.length ≤ 1000) : AFn Go.Proofs.Tryd.prog 99 [.ptr 0 0, editA e] (one s.H) (fun _ : Unit => AV.bool (s.f4 e)) (fun _ => one (s.d4 e).H) := by
  refine ACall.fin ?_
  refine ACall.walkE (C := cfg 33 1) (cfgOk _ _) sch99 (fn := Go.Proofs.Tryd.f99) (by kernel_rfl) (by kernel_rfl) rfl (by kernel_rfl) (by kernel_rfl) rfl rfl (H1 := s.H) (fun _ _ => (HEnt.openOne (s.H) rfl rfl).ent) fun hlen hheap => ?_
  (conv => whnf); repeat ((first | (refine And.intro ?_ ?_; (focus ((repeat' (first | exact trivial | refine And.intro rfl ?_)); done))) | (refine And.intro ?_ ?_; (focus (first | omega | (dsimp -iota only; omega) | (simp -iota; omega) | (simp -iota; done) | decide)))); conv => whnf)
  repeat' (first | (refine And.intro ?_ ?_ <;> ((conv => whnf); repeat ((first | (refine And.intro ?_ ?_; (focus ((repeat' (first | exact trivial | refine And.intro rfl ?_)); done))) | (refine And.intro ?_ ?_; (focus (first | omega | (dsimp -iota only; omega) | (simp -iota; omega) | (simp -iota; done) | decide)))); conv => whnf))) | (refine AFn.use [0, 1, 2] (top_in s hl) (by kernel_rfl) rfl (by repeat' first | exact trivial | refine ⟨rfl, ?_⟩) fun _ => ?_; ((conv => whnf); repeat ((first | (refine And.intro ?_ ?_; (focus ((repeat' (first | exact trivial | refine And.intro rfl ?_)); done))) | (refine And.intro ?_ ?_; (focus (first | omega | (dsimp -iota only; omega) | (simp -iota; omega) | (simp -iota; done) | decide)))); conv => whnf))) | (refine branchB_of (fun q => ?_) (fun q => ?_) <;> (first | replace q := not_t q | replace q := not_f q | skip) <;> (first | replace q := of_decide_eq_true q | replace q := of_decide_eq_false q | skip) <;> (first | replace q := Classical.not_not.1 q | skip) <;> (try dsimp only at q) <;> ((conv => whnf); repeat ((first | (refine And.intro ?_ ?_; (focus ((repeat' (first | exact trivial | refine And.intro rfl ?_)); done))) | (refine And.intro ?_ ?_; (focus (first | omega | (dsimp -iota only; omega) | (simp -iota; omega) | (simp -iota; done) | decide)))); conv => whnf))))
  all_goals first
    | (have e1 : s.f4 e = true := decide_eq_true (by omega)
       have e2 : s.d4 e = ⟨s.base, s.sn, s.sealed, e.id⟩ := by unfold SD.d4; rw [e1]; rfl
       rw [e1, e2]
       (conv => whnf); repeat ((first | (refine And.intro ?_ ?_; (focus ((repeat' (first | exact trivial | refine And.intro rfl ?_)); done))) | (refine And.intro ?_ ?_; (focus (first | omega | (dsimp -iota only; omega) | (simp -iota; omega) | (simp -iota; done) | decide)))); conv => whnf)
       refine ⟨_, _, Ent.shutAt (r2 := AV.bool true) [some 0, some 1, some 2] (SD.H ⟨s.base, s.sn, s.sealed, e.id⟩) rfl (by kernel_rfl) (AVE.of_eq ?_) ?_ (by kernel_rfl) (by kernel_rfl) (by repeat' first | exact trivial | refine ⟨rfl, ?_⟩) rfl, (), ?_, ?_⟩
       all_goals first | rfl | exact congrArg AV.bool (decide_eq_true (by omega)) | (repeat' first | exact trivial | refine ⟨⟨_, rfl, ChE.refl _⟩, ?_⟩))
    | (have e1 : s.f4 e = false := decide_eq_false (by omega)
       have e2 : s.d4 e = s := by unfold SD.d4; rw [e1]; rfl
       rw [e1, e2]
       (conv => whnf); repeat ((first | (refine And.intro ?_ ?_; (focus ((repeat' (first | exact trivial | refine And.intro rfl ?_)); done))) | (refine And.intro ?_ ?_; (focus (first | omega | (dsimp -iota only; omega) | (simp -iota; omega) | (simp -iota; done) | decide)))); conv => whnf)
       refine ⟨_, _, Ent.shutAt (r2 := AV.bool false) [some 0, some 1, some 2] (s.H) rfl (by kernel_rfl) (AVE.of_eq ?_) ?_ (by kernel_rfl) (by kernel_rfl) (by repeat' first | exact trivial | refine ⟨rfl, ?_⟩) rfl, (), ?_, ?_⟩
       all_goals first | rfl | exact congrArg AV.bool (decide_eq_false (by omega)) | (repeat' first | exact trivial | refine ⟨⟨_, rfl, ChE.refl _⟩, ?_⟩))
def Edt.x (e : Edt) : Seal := e.seals.getD (Int.toNat 0) default
def SD.f5 : Bool := decide (e.x.id = s.op ∧ (e.x.many = 0 ∨ s.last < e.x.first))
def SD.d5 : SD := bif s.f5 e then ⟨s.base, s.sn, s.sealed ++ [e.x], 0⟩ else s
theorem slF_push {l : List Seal} {p : Seal} {c : Nat} {g : Nat → List IV} (hg : g 0 = sealI p) : ChE (.rowc c 5 (l.length + 1) fun j => if j < l.length then slF l j else g (j - l.length)) (.rowc c 5 (l ++ [p]).length (slF (l ++ [p]))) := by
  refine ChE.row (by simp) fun j hj => ?_
  by_cases h : j < l.length
  · simp only [if_pos h]
    unfold slF
    simp [List.getD, List.getElem?_append_left, h]
  · have : j = l.length := by simp at hj; omega
    subst this
    simp only [if_neg h, Nat.sub_self]
    rw [hg]
    simp [slF]
theorem d5_ok (hl : s.sealed.length ≤ 1000) (h1 : e.seals.length = 1) : AFn Go.Proofs.Tryd.prog 100 [.ptr 0 0, editA e] (one s.H) (fun _ : Unit => AV.bool (s.f5 e)) (fun _ => one (s.d5 e).H) := by
  refine ACall.fin ?_
  refine ACall.walkE (C := cfg 45 1) (cfgOk _ _) sch100 (fn := Go.Proofs.Tryd.f100) (by kernel_rfl) (by kernel_rfl) rfl (by kernel_rfl) (by kernel_rfl) rfl rfl (H1 := s.H) (fun _ _ => (HEnt.openOne (s.H) rfl rfl).ent) fun hlen hheap => ?_
  (conv => whnf); repeat ((first | (refine And.intro ?_ ?_; (focus ((repeat' (first | exact trivial | refine And.intro rfl ?_)); done))) | (refine And.intro ?_ ?_; (focus (first | omega | (dsimp -iota only; omega) | (simp -iota; omega) | (simp -iota; done) | decide)))); conv => whnf)
  repeat' (first | (refine And.intro ?_ ?_ <;> ((conv => whnf); repeat ((first | (refine And.intro ?_ ?_; (focus ((repeat' (first | exact trivial | refine And.intro rfl ?_)); done))) | (refine And.intro ?_ ?_; (focus (first | omega | (dsimp -iota only; omega) | (simp -iota; omega) | (simp -iota; done) | decide)))); conv => whnf))) | (refine AFn.use [0, 1, 2] (last_in s hl) (by kernel_rfl) rfl (by repeat' first | exact trivial | refine ⟨rfl, ?_⟩) fun _ => ?_; ((conv => whnf); repeat ((first | (refine And.intro ?_ ?_; (focus ((repeat' (first | exact trivial | refine And.intro rfl ?_)); done))) | (refine And.intro ?_ ?_; (focus (first | omega | (dsimp -iota only; omega) | (simp -iota; omega) | (simp -iota; done) | decide)))); conv => whnf))) | (refine branchB_of (fun q => ?_) (fun q => ?_) <;> (first | replace q := not_t q | replace q := not_f q | skip) <;> (first | replace q := of_decide_eq_true q | replace q := of_decide_eq_false q | skip) <;> (first | replace q := Classical.not_not.1 q | skip) <;> (try dsimp only at q) <;> ((conv => whnf); repeat ((first | (refine And.intro ?_ ?_; (focus ((repeat' (first | exact trivial | refine And.intro rfl ?_)); done))) | (refine And.intro ?_ ?_; (focus (first | omega | (dsimp -iota only; omega) | (simp -iota; omega) | (simp -iota; done) | decide)))); conv => whnf))))
  all_goals first
    | (have e1 : s.f5 e = true := decide_eq_true (by unfold Edt.x; omega)
       have e2 : s.d5 e = ⟨s.base, s.sn, s.sealed ++ [e.x], 0⟩ := by unfold SD.d5; rw [e1]; rfl
       rw [e1, e2]
       (conv => whnf); repeat ((first | (refine And.intro ?_ ?_; (focus ((repeat' (first | exact trivial | refine And.intro rfl ?_)); done))) | (refine And.intro ?_ ?_; (focus (first | omega | (dsimp -iota only; omega) | (simp -iota; omega) | (simp -iota; done) | decide)))); conv => whnf)
       refine ⟨_, _, Ent.shutAt (r2 := AV.bool true) [some 0, some 1, some 6] (SD.H ⟨s.base, s.sn, s.sealed ++ [e.x], 0⟩) rfl (by kernel_rfl) (AVE.of_eq ?_) ?_ (by kernel_rfl) (by kernel_rfl) (by repeat' first | exact trivial | refine ⟨rfl, ?_⟩) rfl, (), ?_, ?_⟩
       all_goals first | rfl | exact congrArg AV.bool (decide_eq_true (by omega)) | exact ⟨⟨_, rfl, ChE.cells ⟨AVE.refl _, AVE.refl _, AVE.len (by simp), AVE.refl _, rfl⟩⟩, ⟨_, rfl, ChE.refl _⟩, ⟨_, rfl, slF_push rfl⟩, trivial⟩ | (repeat' first | exact trivial | refine ⟨⟨_, rfl, ChE.refl _⟩, ?_⟩))
    | (have e1 : s.f5 e = false := decide_eq_false (by unfold Edt.x; omega)
       have e2 : s.d5 e = s := by unfold SD.d5; rw [e1]; rfl
       rw [e1, e2]
       (conv => whnf); repeat ((first | (refine And.intro ?_ ?_; (focus ((repeat' (first | exact trivial | refine And.intro rfl ?_)); done))) | (refine And.intro ?_ ?_; (focus (first | omega | (dsimp -iota only; omega) | (simp -iota; omega) | (simp -iota; done) | decide)))); conv => whnf)
       refine ⟨_, _, Ent.shutAt (r2 := AV.bool false) [some 0, some 1, some 2] (s.H) rfl (by kernel_rfl) (AVE.of_eq ?_) ?_ (by kernel_rfl) (by kernel_rfl) (by repeat' first | exact trivial | refine ⟨rfl, ?_⟩) rfl, (), ?_, ?_⟩
       all_goals first | rfl | exact congrArg AV.bool (decide_eq_false (by omega)) | (repeat' first | exact trivial | refine ⟨⟨_, rfl, ChE.refl _⟩, ?_⟩))
end
end Go.Proofs.YtmlhaellfpbcgaaDoor.Ax
