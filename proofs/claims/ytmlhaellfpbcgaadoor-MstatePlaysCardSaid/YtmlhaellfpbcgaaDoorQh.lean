/-
  Chapter 23: what follows in the document's state; Apply.
-/
import Derived.Test.YtmlhaellfpbcgaaDoorQg
namespace Go.Proofs.YtmlhaellfpbcgaaDoor.Ax
open Go.RowKit
set_option maxRecDepth 100000
set_option maxHeartbeats 1000000 in
theorem rsame_ok (a b : Edt) (ha : a.seals.length ≤ 1000) : AFn Go.Proofs.Tryd.prog 41 [editA a, editA b] ⟨0, []⟩ (fun _ : Unit => AV.bool (decide (a = b))) (fun _ => ⟨0, []⟩) := by
  refine ACall.fin ?_
  refine ACall.walk (C := cfg 59 0) (cfgOk _ _) sch41 (fn := Go.Proofs.Tryd.f41) (by kernel_rfl) (by kernel_rfl) rfl (by kernel_rfl) (by kernel_rfl) rfl rfl ?_
  (conv => whnf); repeat ((first | (refine And.intro ?_ ?_; (focus ((repeat' (first | exact trivial | refine And.intro rfl ?_)); done))) | (refine And.intro ?_ ?_; (focus (first | omega | (dsimp -iota only; omega) | (simp -iota; omega) | (simp -iota; done) | decide)))); conv => whnf)
  apply AWP.aheadF (C := cfg 59 0) (Y := PLift (a.kind = b.kind ∧ a.name = b.name ∧ a.seq = b.seq ∧ a.id = b.id ∧ a.seals.length = b.seals.length)) (fun _ => [(2, .ptr 0 0), (3, .ptr 1 0), (5, AV.int .i64 0)]) (fun _ => ⟨2, [(0, .cells 51 [AV.int .i64 a.kind, AV.str a.name, AV.int .u64 a.seq, AV.int .u32 a.id, .iv (.sl 5 a.seals.length (slF a.seals))]), (1, .cells 51 [AV.int .i64 b.kind, AV.str b.name, AV.int .u64 b.seq, AV.int .u32 b.id, .iv (.sl 5 b.seals.length (slF b.seals))])]⟩)
  · intro key
    repeat' (refine branchB_of (fun q => ?_) (fun q => ?_) <;> (first | replace q := not_t q | replace q := not_f q | skip) <;> (first | replace q := of_decide_eq_true q | replace q := of_decide_eq_false q | skip) <;> (first | replace q := Classical.not_not.1 q | skip) <;> (try dsimp only at q) <;> ((conv => whnf); repeat ((first | (refine And.intro ?_ ?_; (focus ((repeat' (first | exact trivial | refine And.intro rfl ?_)); done))) | (refine And.intro ?_ ?_; (focus (first | omega | (dsimp -iota only; omega) | (simp -iota; omega) | (simp -iota; done) | decide)))); conv => whnf)))
    all_goals first
      | (have hm : decide (a = b) = false := decide_eq_false fun e => by
           rw [e] at q
           first | exact q rfl | omega
         rw [hm]
         refine ⟨_, _, Ent.mk' (e' := [(0, AV.bool false)]) (H' := ⟨0, []⟩) [] (by kernel_rfl) ?_ ?_, (), rfl, rfl⟩
         · exact ⟨AVE.refl _, trivial⟩
         · trivial)
      | (refine AWP.of_ent ?_ (key ⟨by assumption, by assumption, by omega, by omega, by omega⟩)
         exact Ent.mk' [some 0, some 1] (by kernel_rfl) (by repeat' first | exact trivial | refine And.intro (AVE.refl _) ?_) (by repeat' (first | exact trivial | refine ⟨⟨_, rfl, ChE.refl _⟩, ?_⟩)))
  · intro hh
    obtain ⟨hh1, hh2, hh3, hh4, hh5⟩ := hh
    refine AWP.loop (X := { x : Nat // x ≤ a.seals.length ∧ ∀ j, j < x → a.seals.getD j default = b.seals.getD j default }) (fun x => [(2, .ptr 0 0), (3, .ptr 1 0), (5, AV.int .i64 x.1)]) (fun x => ⟨2, [(0, .cells 51 [AV.int .i64 a.kind, AV.str a.name, AV.int .u64 a.seq, AV.int .u32 a.id, .iv (.sl 5 a.seals.length (slF a.seals))]), (1, .cells 51 [AV.int .i64 b.kind, AV.str b.name, AV.int .u64 b.seq, AV.int .u32 b.id, .iv (.sl 5 b.seals.length (slF b.seals))])]⟩) (fun x => a.seals.length - x.1) (⟨0, Nat.zero_le _, fun j hj => absurd hj (Nat.not_lt_zero _)⟩) ?_ fun x => AWP.go (S := sch41) (cfgOk _ _) (.of_eq (by kernel_rfl)) ?_
    · exact Ent.mk' [some 0, some 1] (by kernel_rfl) (by repeat' first | exact trivial | refine And.intro (AVE.refl _) ?_ | refine And.intro (AVE.int (by first | rfl | omega | (dsimp only; omega) | (simp -iota; omega) | (simp -iota; done))) ?_ | refine And.intro (AVE.bool (by assumption)) ?_ | refine And.intro (AVE.len (by first | rfl | omega | (dsimp only; omega) | (simp -iota; omega) | (simp -iota; done))) ?_) (by repeat' (first | exact trivial | refine ⟨⟨_, rfl, ChE.refl _⟩, ?_⟩))
    · obtain ⟨x, hx, hj⟩ := x
      have hxx : ((x : Nat) : Int).toNat = x := by simp
      (conv => whnf); repeat ((first | (refine And.intro ?_ ?_; (focus ((repeat' (first | exact trivial | refine And.intro rfl ?_)); done))) | (refine And.intro ?_ ?_; (focus (first | omega | (dsimp -iota only; omega) | (simp -iota; omega) | (simp -iota; done) | decide)))); conv => whnf)
      refine branchB_of (fun g => ?_) (fun g => ?_) <;> (first | replace g := not_t g | replace g := not_f g | skip) <;> (first | replace g := of_decide_eq_true g | replace g := of_decide_eq_false g | skip) <;> (first | replace g := Classical.not_not.1 g | skip) <;> (try dsimp only at g)
      · (conv => whnf); repeat ((first | (refine And.intro ?_ ?_; (focus ((repeat' (first | exact trivial | refine And.intro rfl ?_)); done))) | (refine And.intro ?_ ?_; (focus (first | omega | (dsimp -iota only; omega) | (simp -iota; omega) | (simp -iota; done) | decide)))); conv => whnf)
        repeat' (first | (refine And.intro ?_ ?_ <;> ((conv => whnf); repeat ((first | (refine And.intro ?_ ?_; (focus ((repeat' (first | exact trivial | refine And.intro rfl ?_)); done))) | (refine And.intro ?_ ?_; (focus (first | omega | (dsimp -iota only; omega) | (simp -iota; omega) | (simp -iota; done) | decide)))); conv => whnf))))
        all_goals
          refine branchB_of (fun g2 => ?_) (fun g2 => ?_) <;> (first | replace g2 := not_t g2 | replace g2 := not_f g2 | skip) <;> (first | replace g2 := of_decide_eq_true g2 | replace g2 := of_decide_eq_false g2 | skip) <;> (first | replace g2 := Classical.not_not.1 g2 | skip) <;> (try dsimp only at g2)
          · have hne : decide (a = b) = false := decide_eq_false fun e => by
              subst e
              simp at g2
            rw [hne]
            (conv => whnf); repeat ((first | (refine And.intro ?_ ?_; (focus ((repeat' (first | exact trivial | refine And.intro rfl ?_)); done))) | (refine And.intro ?_ ?_; (focus (first | omega | (dsimp -iota only; omega) | (simp -iota; omega) | (simp -iota; done) | decide)))); conv => whnf)
            refine ⟨_, _, Ent.mk' (e' := [(0, AV.bool false)]) (H' := ⟨0, []⟩) [] (by kernel_rfl) ?_ ?_, (), rfl, rfl⟩
            · exact ⟨AVE.refl _, trivial⟩
            · trivial
          · rw [hxx] at g2
            simp only [Bool.and_eq_true, decide_eq_true_eq, and_true] at g2
            obtain ⟨e1, e2, e3, e4, e5⟩ := g2
            (conv => whnf); repeat ((first | (refine And.intro ?_ ?_; (focus ((repeat' (first | exact trivial | refine And.intro rfl ?_)); done))) | (refine And.intro ?_ ?_; (focus (first | omega | (dsimp -iota only; omega) | (simp -iota; omega) | (simp -iota; done) | decide)))); conv => whnf)
            refine ⟨⟨x + 1, by omega, fun j hj' => ?_⟩, Ent.mk' [some 0, some 1] (by kernel_rfl) (by repeat' first | exact trivial | refine And.intro (AVE.refl _) ?_ | refine And.intro (AVE.int (by first | rfl | omega | (dsimp only; omega) | (simp -iota; omega) | (simp -iota; done))) ?_ | refine And.intro (AVE.bool (by assumption)) ?_ | refine And.intro (AVE.len (by first | rfl | omega | (dsimp only; omega) | (simp -iota; omega) | (simp -iota; done))) ?_) (by repeat' (first | exact trivial | refine ⟨⟨_, rfl, ChE.refl _⟩, ?_⟩)), ?_⟩
            · by_cases e : j = x
              · subst e
                generalize a.seals.getD j default = u at *
                generalize b.seals.getD j default = v at *
                obtain ⟨a1, a2, a3, a4, a5⟩ := u
                obtain ⟨b1, b2, b3, b4, b5⟩ := v
                simp only at e1 e2 e3 e4 e5
                simp only [Seal.mk.injEq]
                omega
              · exact hj j (by omega)
            · show a.seals.length - (x + 1) < a.seals.length - x
              omega
      · have hm : decide (a = b) = true := decide_eq_true (edt_ext.2 ⟨hh1, hh2, hh3, hh4, seals_ext hh5 fun j hjl => hj j (by omega)⟩)
        rw [hm]
        (conv => whnf); repeat ((first | (refine And.intro ?_ ?_; (focus ((repeat' (first | exact trivial | refine And.intro rfl ?_)); done))) | (refine And.intro ?_ ?_; (focus (first | omega | (dsimp -iota only; omega) | (simp -iota; omega) | (simp -iota; done) | decide)))); conv => whnf)
        refine ⟨_, _, Ent.mk' (e' := [(0, AV.bool true)]) (H' := ⟨0, []⟩) [] (by kernel_rfl) ?_ ?_, (), rfl, rfl⟩
        · exact ⟨AVE.refl _, trivial⟩
        · trivial
section
variable (s : SD)
theorem rlast_in (hl : s.sealed.length ≤ 1000) : AFn Go.Proofs.Tryd.prog 38 [.ptr 0 0] s.R (fun _ : Unit => AV.int .u64 s.last) (fun _ => s.R) := by
  refine ACall.fin ?_
  refine ACall.walk (C := cfg 37 3) (cfgOk _ _) [] (fn := Go.Proofs.Tryd.f38) (by kernel_rfl) (by kernel_rfl) rfl (by kernel_rfl) (by kernel_rfl) rfl rfl ?_
  (conv => whnf); repeat ((first | (refine And.intro ?_ ?_; (focus ((repeat' (first | exact trivial | refine And.intro rfl ?_)); done))) | (refine And.intro ?_ ?_; (focus (first | omega | (dsimp -iota only; omega) | (simp -iota; omega) | (simp -iota; done) | decide)))); conv => whnf)
  refine AWP.loop (X := { x : Nat // x ≤ s.sealed.length }) (fun x => [(0, .ptr 0 0), (3, AV.int .u64 (lastF s.base (s.sealed.take x.1))), (4, AV.int .i64 x.1)]) (fun x => s.R) (fun x => s.sealed.length - x.1) (⟨0, Nat.zero_le _⟩) ?_ fun x => AWP.go (S := []) (cfgOk _ _) (.of_eq (by kernel_rfl)) ?_
  · exact Ent.mk' [some 0, some 1, some 2] (by kernel_rfl) (by repeat' first | exact trivial | refine And.intro (AVE.refl _) ?_ | refine And.intro (AVE.int (by first | rfl | omega | (dsimp only; omega) | (simp -iota; omega) | (simp -iota; done))) ?_ | refine And.intro (AVE.bool (by assumption)) ?_ | refine And.intro (AVE.len (by first | rfl | omega | (dsimp only; omega) | (simp -iota; omega) | (simp -iota; done))) ?_) (by repeat' (first | exact trivial | refine ⟨⟨_, rfl, ChE.refl _⟩, ?_⟩))
  · obtain ⟨i, hi⟩ := x
    have hix : ((i : Nat) : Int).toNat = i := by simp
    (conv => whnf); repeat ((first | (refine And.intro ?_ ?_; (focus ((repeat' (first | exact trivial | refine And.intro rfl ?_)); done))) | (refine And.intro ?_ ?_; (focus (first | omega | (dsimp -iota only; omega) | (simp -iota; omega) | (simp -iota; done) | decide)))); conv => whnf)
    refine branchB_of (fun g => ?_) (fun g => ?_) <;> (first | replace g := not_t g | replace g := not_f g | skip) <;> (first | replace g := of_decide_eq_true g | replace g := of_decide_eq_false g | skip) <;> (first | replace g := Classical.not_not.1 g | skip) <;> (try dsimp only at g)
    · have hi' : i < s.sealed.length := by omega
      have hk := lastF_take s.base s.sealed hi'
      (conv => whnf); repeat ((first | (refine And.intro ?_ ?_; (focus ((repeat' (first | exact trivial | refine And.intro rfl ?_)); done))) | (refine And.intro ?_ ?_; (focus (first | omega | (dsimp -iota only; omega) | (simp -iota; omega) | (simp -iota; done) | decide)))); conv => whnf)
      rw [hix, Nat.zero_add]
      refine branchB_of (fun g2 => ?_) (fun g2 => ?_) <;> (first | replace g2 := not_t g2 | replace g2 := not_f g2 | skip) <;> (first | replace g2 := of_decide_eq_true g2 | replace g2 := of_decide_eq_false g2 | skip) <;> (first | replace g2 := Classical.not_not.1 g2 | skip) <;> (try dsimp only at g2)
      · (conv => whnf); repeat ((first | (refine And.intro ?_ ?_; (focus ((repeat' (first | exact trivial | refine And.intro rfl ?_)); done))) | (refine And.intro ?_ ?_; (focus (first | omega | (dsimp -iota only; omega) | (simp -iota; omega) | (simp -iota; done) | decide)))); conv => whnf)
        rw [hix, Nat.zero_add]
        refine ⟨⟨i + 1, by omega⟩, Ent.mk' [some 0, some 1, some 2] (by kernel_rfl) (by repeat' first | exact trivial | refine And.intro (AVE.refl _) ?_ | refine And.intro (AVE.int (by first | rfl | omega | (dsimp only; omega) | (simp -iota; omega) | (simp -iota; done))) ?_ | refine And.intro (AVE.bool (by assumption)) ?_ | refine And.intro (AVE.len (by first | rfl | omega | (dsimp only; omega) | (simp -iota; omega) | (simp -iota; done))) ?_) (by repeat' (first | exact trivial | refine ⟨⟨_, rfl, ChE.refl _⟩, ?_⟩)), ?_⟩
        show s.sealed.length - (i + 1) < s.sealed.length - i
        omega
      · (conv => whnf); repeat ((first | (refine And.intro ?_ ?_; (focus ((repeat' (first | exact trivial | refine And.intro rfl ?_)); done))) | (refine And.intro ?_ ?_; (focus (first | omega | (dsimp -iota only; omega) | (simp -iota; omega) | (simp -iota; done) | decide)))); conv => whnf)
        refine ⟨⟨i + 1, by omega⟩, Ent.mk' [some 0, some 1, some 2] (by kernel_rfl) (by repeat' first | exact trivial | refine And.intro (AVE.refl _) ?_ | refine And.intro (AVE.int (by first | rfl | omega | (dsimp only; omega) | (simp -iota; omega) | (simp -iota; done))) ?_ | refine And.intro (AVE.bool (by assumption)) ?_ | refine And.intro (AVE.len (by first | rfl | omega | (dsimp only; omega) | (simp -iota; omega) | (simp -iota; done))) ?_) (by repeat' (first | exact trivial | refine ⟨⟨_, rfl, ChE.refl _⟩, ?_⟩)), ?_⟩
        show s.sealed.length - (i + 1) < s.sealed.length - i
        omega
    · have hk : lastF s.base (s.sealed.take i) = s.last := by rw [List.take_of_length_le (by omega)]; rfl
      rw [← hk]
      (conv => whnf); repeat ((first | (refine And.intro ?_ ?_; (focus ((repeat' (first | exact trivial | refine And.intro rfl ?_)); done))) | (refine And.intro ?_ ?_; (focus (first | omega | (dsimp -iota only; omega) | (simp -iota; omega) | (simp -iota; done) | decide)))); conv => whnf)
      refine ⟨_, _, Ent.mk' (e' := [(0, AV.int .u64 (lastF s.base (s.sealed.take i)))]) (H' := s.R) [some 0, some 1, some 2] (by kernel_rfl) ?_ ?_, (), rfl, rfl⟩
      · exact ⟨AVE.refl _, trivial⟩
      · (repeat' first | exact trivial | refine ⟨⟨_, rfl, ChE.refl _⟩, ?_⟩)
theorem rtop_in (hl : s.sealed.length ≤ 1000) : AFn Go.Proofs.Tryd.prog 39 [.ptr 0 0] s.R (fun _ : Unit => AV.int .u32 s.top) (fun _ => s.R) := by
  refine ACall.fin ?_
  refine ACall.walk (C := cfg 37 3) (cfgOk _ _) [] (fn := Go.Proofs.Tryd.f39) (by kernel_rfl) (by kernel_rfl) rfl (by kernel_rfl) (by kernel_rfl) rfl rfl ?_
  (conv => whnf); repeat ((first | (refine And.intro ?_ ?_; (focus ((repeat' (first | exact trivial | refine And.intro rfl ?_)); done))) | (refine And.intro ?_ ?_; (focus (first | omega | (dsimp -iota only; omega) | (simp -iota; omega) | (simp -iota; done) | decide)))); conv => whnf)
  refine AWP.loop (X := { x : Nat // x ≤ s.sealed.length }) (fun x => [(0, .ptr 0 0), (3, AV.int .u32 (topF s.op (s.sealed.take x.1))), (4, AV.int .i64 x.1)]) (fun x => s.R) (fun x => s.sealed.length - x.1) (⟨0, Nat.zero_le _⟩) ?_ fun x => AWP.go (S := []) (cfgOk _ _) (.of_eq (by kernel_rfl)) ?_
  · exact Ent.mk' [some 0, some 1, some 2] (by kernel_rfl) (by repeat' first | exact trivial | refine And.intro (AVE.refl _) ?_ | refine And.intro (AVE.int (by first | rfl | omega | (dsimp only; omega) | (simp -iota; omega) | (simp -iota; done))) ?_ | refine And.intro (AVE.bool (by assumption)) ?_ | refine And.intro (AVE.len (by first | rfl | omega | (dsimp only; omega) | (simp -iota; omega) | (simp -iota; done))) ?_) (by repeat' (first | exact trivial | refine ⟨⟨_, rfl, ChE.refl _⟩, ?_⟩))
  · obtain ⟨i, hi⟩ := x
    have hix : ((i : Nat) : Int).toNat = i := by simp
    (conv => whnf); repeat ((first | (refine And.intro ?_ ?_; (focus ((repeat' (first | exact trivial | refine And.intro rfl ?_)); done))) | (refine And.intro ?_ ?_; (focus (first | omega | (dsimp -iota only; omega) | (simp -iota; omega) | (simp -iota; done) | decide)))); conv => whnf)
    refine branchB_of (fun g => ?_) (fun g => ?_) <;> (first | replace g := not_t g | replace g := not_f g | skip) <;> (first | replace g := of_decide_eq_true g | replace g := of_decide_eq_false g | skip) <;> (first | replace g := Classical.not_not.1 g | skip) <;> (try dsimp only at g)
    · have hi' : i < s.sealed.length := by omega
      have hk := topF_take s.op s.sealed hi'
      (conv => whnf); repeat ((first | (refine And.intro ?_ ?_; (focus ((repeat' (first | exact trivial | refine And.intro rfl ?_)); done))) | (refine And.intro ?_ ?_; (focus (first | omega | (dsimp -iota only; omega) | (simp -iota; omega) | (simp -iota; done) | decide)))); conv => whnf)
      rw [hix, Nat.zero_add]
      refine branchB_of (fun g2 => ?_) (fun g2 => ?_) <;> (first | replace g2 := not_t g2 | replace g2 := not_f g2 | skip) <;> (first | replace g2 := of_decide_eq_true g2 | replace g2 := of_decide_eq_false g2 | skip) <;> (first | replace g2 := Classical.not_not.1 g2 | skip) <;> (try dsimp only at g2)
      · (conv => whnf); repeat ((first | (refine And.intro ?_ ?_; (focus ((repeat' (first | exact trivial | refine And.intro rfl ?_)); done))) | (refine And.intro ?_ ?_; (focus (first | omega | (dsimp -iota only; omega) | (simp -iota; omega) | (simp -iota; done) | decide)))); conv => whnf)
        rw [hix, Nat.zero_add]
        refine ⟨⟨i + 1, by omega⟩, Ent.mk' [some 0, some 1, some 2] (by kernel_rfl) (by repeat' first | exact trivial | refine And.intro (AVE.refl _) ?_ | refine And.intro (AVE.int (by first | rfl | omega | (dsimp only; omega) | (simp -iota; omega) | (simp -iota; done))) ?_ | refine And.intro (AVE.bool (by assumption)) ?_ | refine And.intro (AVE.len (by first | rfl | omega | (dsimp only; omega) | (simp -iota; omega) | (simp -iota; done))) ?_) (by repeat' (first | exact trivial | refine ⟨⟨_, rfl, ChE.refl _⟩, ?_⟩)), ?_⟩
        show s.sealed.length - (i + 1) < s.sealed.length - i
        omega
      · (conv => whnf); repeat ((first | (refine And.intro ?_ ?_; (focus ((repeat' (first | exact trivial | refine And.intro rfl ?_)); done))) | (refine And.intro ?_ ?_; (focus (first | omega | (dsimp -iota only; omega) | (simp -iota; omega) | (simp -iota; done) | decide)))); conv => whnf)
        refine ⟨⟨i + 1, by omega⟩, Ent.mk' [some 0, some 1, some 2] (by kernel_rfl) (by repeat' first | exact trivial | refine And.intro (AVE.refl _) ?_ | refine And.intro (AVE.int (by first | rfl | omega | (dsimp only; omega) | (simp -iota; omega) | (simp -iota; done))) ?_ | refine And.intro (AVE.bool (by assumption)) ?_ | refine And.intro (AVE.len (by first | rfl | omega | (dsimp only; omega) | (simp -iota; omega) | (simp -iota; done))) ?_) (by repeat' (first | exact trivial | refine ⟨⟨_, rfl, ChE.refl _⟩, ?_⟩)), ?_⟩
        show s.sealed.length - (i + 1) < s.sealed.length - i
        omega
    · have hk : topF s.op (s.sealed.take i) = s.top := by rw [List.take_of_length_le (by omega)]; rfl
      rw [← hk]
      (conv => whnf); repeat ((first | (refine And.intro ?_ ?_; (focus ((repeat' (first | exact trivial | refine And.intro rfl ?_)); done))) | (refine And.intro ?_ ?_; (focus (first | omega | (dsimp -iota only; omega) | (simp -iota; omega) | (simp -iota; done) | decide)))); conv => whnf)
      refine ⟨_, _, Ent.mk' (e' := [(0, AV.int .u32 (topF s.op (s.sealed.take i)))]) (H' := s.R) [some 0, some 1, some 2] (by kernel_rfl) ?_ ?_, (), rfl, rfl⟩
      · exact ⟨AVE.refl _, trivial⟩
      · (repeat' first | exact trivial | refine ⟨⟨_, rfl, ChE.refl _⟩, ?_⟩)
/-! What follows, as the document says. -/
def dfol (top m : Nat) : List Seal → Nat → Bool
  | [], _ => true
  | x :: l, n => bif decide (x.id ≤ top ∨ x.last > m) then false else bif decide (x.many > 0) then (bif decide (x.first ≤ n) then false else dfol top m l x.last) else dfol top m l n
def Asc (a : Nat) : List Seal → Prop
  | [] => True
  | x :: l => a < x.id ∧ Asc x.id l
theorem dfol_asc {top m : Nat} : ∀ (l : List Seal) (a n : Nat), top ≤ a → Asc a l → (∀ x ∈ l, x.ok = true) → dfol top m l n = folF l a n m
  | [], _, _, _, _, _ => rfl
  | x :: l, a, n, ha, hA, hk => by
    obtain ⟨h1, h2⟩ := hA
    have hx := ok_p (hk x (List.mem_cons_self ..))
    have hl : ∀ y ∈ l, y.ok = true := fun y hy => hk y (List.mem_cons_of_mem _ hy)
    unfold dfol
    rw [Bool.eq_iff_iff, folF_cons]
    by_cases g1 : x.last > m
    · rw [decide_eq_true (show x.id ≤ top ∨ x.last > m by omega)]
      simp only [cond_true, Bool.false_eq_true, false_iff]
      omega
    · rw [decide_eq_false (show ¬ (x.id ≤ top ∨ x.last > m) by omega)]
      simp only [cond_false]
      by_cases g2 : x.many > 0
      · rw [decide_eq_true g2]
        simp only [cond_true]
        by_cases g3 : x.first ≤ n
        · rw [decide_eq_true g3]
          simp only [cond_true, Bool.false_eq_true, false_iff]
          omega
        · rw [decide_eq_false g3]
          simp only [cond_false]
          have h6 := hx.2.2.2.2.2 (by omega)
          rw [dfol_asc l x.id x.last (by omega) h2 hl, show max n x.last = x.last by omega]
          exact ⟨fun h => ⟨by omega, h⟩, fun h => h.2⟩
      · rw [decide_eq_false g2]
        simp only [cond_false]
        have h6 := hx.2.2.2.2.1 (by omega)
        rw [dfol_asc l x.id n (by omega) h2 hl, show max n x.last = n by omega]
        exact ⟨fun h => ⟨by omega, h⟩, fun h => h.2⟩
theorem dfol_eq {top m : Nat} (l : List Seal) (h : ∀ i, 0 < i → i < l.length → (l.getD (i - 1) default).id < (l.getD i default).id) (hk : ∀ x ∈ l, x.ok = true) : dfol top m l 0 = folF l top 0 m := by
  have asc : ∀ (l : List Seal) (x : Seal), (∀ i, 0 < i → i < (x :: l).length → ((x :: l).getD (i - 1) default).id < ((x :: l).getD i default).id) → Asc x.id l := by
    intro l
    induction l with
    | nil => intro x _; trivial
    | cons y l ih =>
      intro x hh
      refine ⟨by simpa using hh 1 (by decide) (by simp), ih y fun i h1 h2 => ?_⟩
      have := hh (i + 1) (by omega) (by simp at h2 ⊢; omega)
      cases i with
      | zero => omega
      | succ i => simpa using this
  cases l with
  | nil => rfl
  | cons x l =>
    have hx := ok_p (hk x (List.mem_cons_self ..))
    have hl : ∀ y ∈ l, y.ok = true := fun y hy => hk y (List.mem_cons_of_mem _ hy)
    by_cases g0 : top < x.id
    · exact dfol_asc (x :: l) top 0 (Nat.le_refl _) ⟨g0, asc l x h⟩ hk
    · have e1 : dfol top m (x :: l) 0 = false := by
        unfold dfol
        rw [decide_eq_true (show x.id ≤ top ∨ x.last > m by omega)]
        rfl
      have e2 : folF (x :: l) top 0 m = false := by
        rw [Bool.eq_false_iff, ne_eq, folF_cons]
        omega
      rw [e1, e2]
theorem may_dfol {e : Edt} (hm : e.may = true) (top m : Nat) : dfol top m e.seals 0 = folF e.seals top 0 m := by
  refine dfol_eq _ (fun i h1 h2 => ?_) (may_seals e hm)
  unfold Edt.may at hm
  rw [Bool.and_eq_true] at hm
  have := List.all_eq_true.1 hm.2 i (List.mem_range.2 h2)
  unfold sealAt at this
  rw [Bool.and_eq_true, decide_eq_true_eq] at this
  rcases this.2 with h | h
  · omega
  · exact h
end
end Go.Proofs.YtmlhaellfpbcgaaDoor.Ax

namespace Go.Proofs.YtmlhaellfpbcgaaDoor.Ax
open Go.RowKit
set_option maxRecDepth 100000
theorem dfol_drop {top m : Nat} {l : List Seal} {i : Nat} (h : i < l.length) (n : Nat) : dfol top m (l.drop i) n = bif decide ((l.getD i default).id ≤ top ∨ (l.getD i default).last > m) then false else bif decide ((l.getD i default).many > 0) then (bif decide ((l.getD i default).first ≤ n) then false else dfol top m (l.drop (i + 1)) (l.getD i default).last) else dfol top m (l.drop (i + 1)) n := by
  rw [List.drop_eq_getElem_cons h]
  simp only [List.getD_eq_getElem?_getD, List.getElem?_eq_getElem h, Option.getD_some]
  rfl
structure DfX (l : List Seal) (top m : Nat) where
  i : Nat
  n : Nat
  hi : i ≤ l.length
  h : dfol top m (l.drop i) n = dfol top m l 0
section
variable (s : SD) (e : Edt)
theorem add_zero (hs : s.sn.Ok) (hk : okN e.name = true) (hq : e.seq ≤ 1099511627776) : s.f2 e = decide (afind s.sn.l e.name = none ∧ s.sn.l.length < 16) := by
  have := hs.len
  unfold SD.f2 SN.addE
  rw [hk, decide_eq_false (show ¬ 1099511627776 < e.seq by omega)]
  simp only [Bool.not_true, cond_false]
  cases hf : afind s.sn.l e.name with
  | some p => simp
  | none =>
    simp only [Option.isSome_none, cond_false, true_and]
    by_cases g : 16 ≤ s.sn.l.length
    · rw [decide_eq_true g]; simp; omega
    · rw [decide_eq_false g]; simp; omega
theorem find_zero (hk : okN e.name = true) : s.f3 e = (afind s.sn.l e.name).isSome := by
  unfold SD.f3 SN.findE
  rw [hk]
  simp only [Bool.not_true, cond_false]
  cases hf : afind s.sn.l e.name <;> simp
set_option maxHeartbeats 4000000 in
theorem rfollows_in (hs : s.In) (hm : e.may = true) : AFn Go.Proofs.Tryd.prog 33 [.ptr 0 0, editA e] s.R (fun _ : Unit => AV.bool (s.fo e)) (fun _ => s.R) := by
  have hp := may_hp e hm
  have hl := hs.len
  have hll := hs.sn.len
  refine ACall.fin ?_
  refine ACall.walk (C := cfg 141 3) (cfgOk _ _) sch33 (fn := Go.Proofs.Tryd.f33) (by kernel_rfl) (by kernel_rfl) rfl (by kernel_rfl) (by kernel_rfl) rfl rfl ?_
  (conv => whnf); repeat ((first | (refine And.intro ?_ ?_; (focus ((repeat' (first | exact trivial | refine And.intro rfl ?_)); done))) | (refine And.intro ?_ ?_; (focus (first | omega | (dsimp -iota only; omega) | (simp -iota; omega) | (simp -iota; done) | decide)))); conv => whnf)
  have hk : e.kind = 1 ∨ e.kind = 2 ∨ e.kind = 3 ∨ e.kind = 4 ∨ e.kind = 5 ∨ e.kind = 6 := by omega
  rcases hk with hk | hk | hk | hk | hk | hk
  · have e3 : s.fo e = s.f1 e := by unfold SD.fo; simp [hk]
    rw [e3]
    repeat' (first | (refine branchB_of (fun q => ?_) (fun q => ?_) <;> (first | replace q := not_t q | replace q := not_f q | skip) <;> (first | replace q := of_decide_eq_true q | replace q := of_decide_eq_false q | skip) <;> (first | replace q := Classical.not_not.1 q | skip) <;> (try dsimp only at q) <;> (first | (exfalso; omega) | ((conv => whnf); repeat ((first | (refine And.intro ?_ ?_; (focus ((repeat' (first | exact trivial | refine And.intro rfl ?_)); done))) | (refine And.intro ?_ ?_; (focus (first | omega | (dsimp -iota only; omega) | (simp -iota; omega) | (simp -iota; done) | decide)))); conv => whnf)))) | (refine And.intro ?_ ?_ <;> ((conv => whnf); repeat ((first | (refine And.intro ?_ ?_; (focus ((repeat' (first | exact trivial | refine And.intro rfl ?_)); done))) | (refine And.intro ?_ ?_; (focus (first | omega | (dsimp -iota only; omega) | (simp -iota; omega) | (simp -iota; done) | decide)))); conv => whnf))) | (refine AFn.use [0, 1, 2] (rlast_in s hl) (by kernel_rfl) rfl (by repeat' first | exact trivial | refine ⟨rfl, ?_⟩) fun _ => ?_; ((conv => whnf); repeat ((first | (refine And.intro ?_ ?_; (focus ((repeat' (first | exact trivial | refine And.intro rfl ?_)); done))) | (refine And.intro ?_ ?_; (focus (first | omega | (dsimp -iota only; omega) | (simp -iota; omega) | (simp -iota; done) | decide)))); conv => whnf))))
    all_goals
      refine ⟨_, _, Ent.mk' (e' := [(0, AV.bool (s.f1 e))]) (H' := s.R) [some 0, some 1, some 2] (by kernel_rfl) ?_ ?_, (), rfl, rfl⟩
      · exact ⟨AVE.bool (decide_eq_decide.2 (by omega)), trivial⟩
      · (repeat' first | exact trivial | refine ⟨⟨_, rfl, ChE.refl _⟩, ?_⟩)
  · have e3 : s.fo e = s.f2 e := by unfold SD.fo; simp [hk]
    have hok : okN e.name = true := decide_eq_true (hp.2.2.2.2.1 (.inl hk))
    rw [e3, add_zero s e hs.sn hok hp.2.1]
    cases hf : afind s.sn.l e.name with
    | some p =>
      obtain ⟨k, k1, k2, _⟩ := plc_find hs.sn.dup hf
      have kp := place_in s (by omega) e.name
      rw [k2] at kp
      rw [show decide ((some p : Option Pin) = none ∧ s.sn.l.length < 16) = false by simp]
      repeat' (first | (refine branchB_of (fun q => ?_) (fun q => ?_) <;> (first | replace q := not_t q | replace q := not_f q | skip) <;> (first | replace q := of_decide_eq_true q | replace q := of_decide_eq_false q | skip) <;> (first | replace q := Classical.not_not.1 q | skip) <;> (try dsimp only at q) <;> (first | (exfalso; omega) | ((conv => whnf); repeat ((first | (refine And.intro ?_ ?_; (focus ((repeat' (first | exact trivial | refine And.intro rfl ?_)); done))) | (refine And.intro ?_ ?_; (focus (first | omega | (dsimp -iota only; omega) | (simp -iota; omega) | (simp -iota; done) | decide)))); conv => whnf)))) | (refine And.intro ?_ ?_ <;> ((conv => whnf); repeat ((first | (refine And.intro ?_ ?_; (focus ((repeat' (first | exact trivial | refine And.intro rfl ?_)); done))) | (refine And.intro ?_ ?_; (focus (first | omega | (dsimp -iota only; omega) | (simp -iota; omega) | (simp -iota; done) | decide)))); conv => whnf))) | (refine AFn.use [0, 1, 2] (kp) (by kernel_rfl) rfl (by repeat' first | exact trivial | refine ⟨rfl, ?_⟩) fun _ => ?_; ((conv => whnf); repeat ((first | (refine And.intro ?_ ?_; (focus ((repeat' (first | exact trivial | refine And.intro rfl ?_)); done))) | (refine And.intro ?_ ?_; (focus (first | omega | (dsimp -iota only; omega) | (simp -iota; omega) | (simp -iota; done) | decide)))); conv => whnf))))
      all_goals
        refine ⟨_, _, Ent.mk' (e' := [(0, AV.bool false)]) (H' := s.R) [some 0, some 1, some 2] (by kernel_rfl) ?_ ?_, (), rfl, rfl⟩
        · first | exact ⟨AVE.refl _, trivial⟩ | exact ⟨AVE.bool (decide_eq_false (by omega)), trivial⟩
        · (repeat' first | exact trivial | refine ⟨⟨_, rfl, ChE.refl _⟩, ?_⟩)
    | none =>
      have kp := place_in s (by omega) e.name
      rw [plc_find_none hf] at kp
      rw [show decide ((none : Option Pin) = none ∧ s.sn.l.length < 16) = decide (s.sn.l.length < 16) by simp]
      repeat' (first | (refine branchB_of (fun q => ?_) (fun q => ?_) <;> (first | replace q := not_t q | replace q := not_f q | skip) <;> (first | replace q := of_decide_eq_true q | replace q := of_decide_eq_false q | skip) <;> (first | replace q := Classical.not_not.1 q | skip) <;> (try dsimp only at q) <;> (first | (exfalso; omega) | ((conv => whnf); repeat ((first | (refine And.intro ?_ ?_; (focus ((repeat' (first | exact trivial | refine And.intro rfl ?_)); done))) | (refine And.intro ?_ ?_; (focus (first | omega | (dsimp -iota only; omega) | (simp -iota; omega) | (simp -iota; done) | decide)))); conv => whnf)))) | (refine And.intro ?_ ?_ <;> ((conv => whnf); repeat ((first | (refine And.intro ?_ ?_; (focus ((repeat' (first | exact trivial | refine And.intro rfl ?_)); done))) | (refine And.intro ?_ ?_; (focus (first | omega | (dsimp -iota only; omega) | (simp -iota; omega) | (simp -iota; done) | decide)))); conv => whnf))) | (refine AFn.use [0, 1, 2] (kp) (by kernel_rfl) rfl (by repeat' first | exact trivial | refine ⟨rfl, ?_⟩) fun _ => ?_; ((conv => whnf); repeat ((first | (refine And.intro ?_ ?_; (focus ((repeat' (first | exact trivial | refine And.intro rfl ?_)); done))) | (refine And.intro ?_ ?_; (focus (first | omega | (dsimp -iota only; omega) | (simp -iota; omega) | (simp -iota; done) | decide)))); conv => whnf))))
      all_goals
        refine ⟨_, _, Ent.mk' (e' := [(0, AV.bool (decide (s.sn.l.length < 16)))]) (H' := s.R) [some 0, some 1, some 2] (by kernel_rfl) ?_ ?_, (), rfl, rfl⟩
        · exact ⟨AVE.bool (decide_eq_decide.2 (by omega)), trivial⟩
        · (repeat' first | exact trivial | refine ⟨⟨_, rfl, ChE.refl _⟩, ?_⟩)
  · have e3 : s.fo e = s.f3 e := by unfold SD.fo; simp [hk]
    have hok : okN e.name = true := decide_eq_true (hp.2.2.2.2.1 (.inr hk))
    rw [e3, find_zero s e hok]
    cases hf : afind s.sn.l e.name with
    | some p =>
      obtain ⟨k, k1, k2, _⟩ := plc_find hs.sn.dup hf
      have kp := place_in s (by omega) e.name
      rw [k2] at kp
      repeat' (first | (refine branchB_of (fun q => ?_) (fun q => ?_) <;> (first | replace q := not_t q | replace q := not_f q | skip) <;> (first | replace q := of_decide_eq_true q | replace q := of_decide_eq_false q | skip) <;> (first | replace q := Classical.not_not.1 q | skip) <;> (try dsimp only at q) <;> (first | (exfalso; omega) | ((conv => whnf); repeat ((first | (refine And.intro ?_ ?_; (focus ((repeat' (first | exact trivial | refine And.intro rfl ?_)); done))) | (refine And.intro ?_ ?_; (focus (first | omega | (dsimp -iota only; omega) | (simp -iota; omega) | (simp -iota; done) | decide)))); conv => whnf)))) | (refine And.intro ?_ ?_ <;> ((conv => whnf); repeat ((first | (refine And.intro ?_ ?_; (focus ((repeat' (first | exact trivial | refine And.intro rfl ?_)); done))) | (refine And.intro ?_ ?_; (focus (first | omega | (dsimp -iota only; omega) | (simp -iota; omega) | (simp -iota; done) | decide)))); conv => whnf))) | (refine AFn.use [0, 1, 2] (kp) (by kernel_rfl) rfl (by repeat' first | exact trivial | refine ⟨rfl, ?_⟩) fun _ => ?_; ((conv => whnf); repeat ((first | (refine And.intro ?_ ?_; (focus ((repeat' (first | exact trivial | refine And.intro rfl ?_)); done))) | (refine And.intro ?_ ?_; (focus (first | omega | (dsimp -iota only; omega) | (simp -iota; omega) | (simp -iota; done) | decide)))); conv => whnf))))
      all_goals
        refine ⟨_, _, Ent.mk' (e' := [(0, AV.bool true)]) (H' := s.R) [some 0, some 1, some 2] (by kernel_rfl) ?_ ?_, (), rfl, rfl⟩
        · exact ⟨AVE.bool (decide_eq_true (by omega)), trivial⟩
        · (repeat' first | exact trivial | refine ⟨⟨_, rfl, ChE.refl _⟩, ?_⟩)
    | none =>
      have kp := place_in s (by omega) e.name
      rw [plc_find_none hf] at kp
      repeat' (first | (refine branchB_of (fun q => ?_) (fun q => ?_) <;> (first | replace q := not_t q | replace q := not_f q | skip) <;> (first | replace q := of_decide_eq_true q | replace q := of_decide_eq_false q | skip) <;> (first | replace q := Classical.not_not.1 q | skip) <;> (try dsimp only at q) <;> (first | (exfalso; omega) | ((conv => whnf); repeat ((first | (refine And.intro ?_ ?_; (focus ((repeat' (first | exact trivial | refine And.intro rfl ?_)); done))) | (refine And.intro ?_ ?_; (focus (first | omega | (dsimp -iota only; omega) | (simp -iota; omega) | (simp -iota; done) | decide)))); conv => whnf)))) | (refine And.intro ?_ ?_ <;> ((conv => whnf); repeat ((first | (refine And.intro ?_ ?_; (focus ((repeat' (first | exact trivial | refine And.intro rfl ?_)); done))) | (refine And.intro ?_ ?_; (focus (first | omega | (dsimp -iota only; omega) | (simp -iota; omega) | (simp -iota; done) | decide)))); conv => whnf))) | (refine AFn.use [0, 1, 2] (kp) (by kernel_rfl) rfl (by repeat' first | exact trivial | refine ⟨rfl, ?_⟩) fun _ => ?_; ((conv => whnf); repeat ((first | (refine And.intro ?_ ?_; (focus ((repeat' (first | exact trivial | refine And.intro rfl ?_)); done))) | (refine And.intro ?_ ?_; (focus (first | omega | (dsimp -iota only; omega) | (simp -iota; omega) | (simp -iota; done) | decide)))); conv => whnf))))
      all_goals
        refine ⟨_, _, Ent.mk' (e' := [(0, AV.bool false)]) (H' := s.R) [some 0, some 1, some 2] (by kernel_rfl) ?_ ?_, (), rfl, rfl⟩
        · exact ⟨AVE.bool (decide_eq_false (by omega)), trivial⟩
        · (repeat' first | exact trivial | refine ⟨⟨_, rfl, ChE.refl _⟩, ?_⟩)
  · have e3 : s.fo e = s.f4 e := by unfold SD.fo; simp [hk]
    rw [e3]
    repeat' (first | (refine branchB_of (fun q => ?_) (fun q => ?_) <;> (first | replace q := not_t q | replace q := not_f q | skip) <;> (first | replace q := of_decide_eq_true q | replace q := of_decide_eq_false q | skip) <;> (first | replace q := Classical.not_not.1 q | skip) <;> (try dsimp only at q) <;> (first | (exfalso; omega) | ((conv => whnf); repeat ((first | (refine And.intro ?_ ?_; (focus ((repeat' (first | exact trivial | refine And.intro rfl ?_)); done))) | (refine And.intro ?_ ?_; (focus (first | omega | (dsimp -iota only; omega) | (simp -iota; omega) | (simp -iota; done) | decide)))); conv => whnf)))) | (refine And.intro ?_ ?_ <;> ((conv => whnf); repeat ((first | (refine And.intro ?_ ?_; (focus ((repeat' (first | exact trivial | refine And.intro rfl ?_)); done))) | (refine And.intro ?_ ?_; (focus (first | omega | (dsimp -iota only; omega) | (simp -iota; omega) | (simp -iota; done) | decide)))); conv => whnf))) | (refine AFn.use [0, 1, 2] (rtop_in s hl) (by kernel_rfl) rfl (by repeat' first | exact trivial | refine ⟨rfl, ?_⟩) fun _ => ?_; ((conv => whnf); repeat ((first | (refine And.intro ?_ ?_; (focus ((repeat' (first | exact trivial | refine And.intro rfl ?_)); done))) | (refine And.intro ?_ ?_; (focus (first | omega | (dsimp -iota only; omega) | (simp -iota; omega) | (simp -iota; done) | decide)))); conv => whnf))))
    all_goals
      refine ⟨_, _, Ent.mk' (e' := [(0, AV.bool (s.f4 e))]) (H' := s.R) [some 0, some 1, some 2] (by kernel_rfl) ?_ ?_, (), rfl, rfl⟩
      · refine ⟨AVE.bool ?_, trivial⟩
        unfold SD.f4
        first
          | (symm; refine decide_eq_false ?_; omega)
          | (refine decide_eq_decide.2 ?_; omega)
      · (repeat' first | exact trivial | refine ⟨⟨_, rfl, ChE.refl _⟩, ?_⟩)
  · have e3 : s.fo e = s.f5 e := by unfold SD.fo; simp [hk]
    have h1 : e.seals.length = 1 := hp.2.2.2.2.2.2.2.2.1 hk
    rw [e3]
    repeat' (first | (refine branchB_of (fun q => ?_) (fun q => ?_) <;> (first | replace q := not_t q | replace q := not_f q | skip) <;> (first | replace q := of_decide_eq_true q | replace q := of_decide_eq_false q | skip) <;> (first | replace q := Classical.not_not.1 q | skip) <;> (try dsimp only at q) <;> (first | (exfalso; omega) | ((conv => whnf); repeat ((first | (refine And.intro ?_ ?_; (focus ((repeat' (first | exact trivial | refine And.intro rfl ?_)); done))) | (refine And.intro ?_ ?_; (focus (first | omega | (dsimp -iota only; omega) | (simp -iota; omega) | (simp -iota; done) | decide)))); conv => whnf)))) | (refine And.intro ?_ ?_ <;> ((conv => whnf); repeat ((first | (refine And.intro ?_ ?_; (focus ((repeat' (first | exact trivial | refine And.intro rfl ?_)); done))) | (refine And.intro ?_ ?_; (focus (first | omega | (dsimp -iota only; omega) | (simp -iota; omega) | (simp -iota; done) | decide)))); conv => whnf))) | (refine AFn.use [0, 1, 2] (rlast_in s hl) (by kernel_rfl) rfl (by repeat' first | exact trivial | refine ⟨rfl, ?_⟩) fun _ => ?_; ((conv => whnf); repeat ((first | (refine And.intro ?_ ?_; (focus ((repeat' (first | exact trivial | refine And.intro rfl ?_)); done))) | (refine And.intro ?_ ?_; (focus (first | omega | (dsimp -iota only; omega) | (simp -iota; omega) | (simp -iota; done) | decide)))); conv => whnf))))
    all_goals
      refine ⟨_, _, Ent.mk' (e' := [(0, AV.bool (s.f5 e))]) (H' := s.R) [some 0, some 1, some 2] (by kernel_rfl) ?_ ?_, (), rfl, rfl⟩
      · refine ⟨AVE.bool ?_, trivial⟩
        unfold SD.f5 Edt.x
        first
          | (symm; refine decide_eq_false ?_; omega)
          | (symm; refine decide_eq_true ?_; omega)
          | (refine decide_eq_decide.2 ?_; omega)
      · (repeat' first | exact trivial | refine ⟨⟨_, rfl, ChE.refl _⟩, ?_⟩)
  · have e3 : s.fo e = s.f6 e := by unfold SD.fo; simp [hk]
    have hl2 : e.seals.length ≤ 200 := hp.2.2.2.2.2.2.2.2.2
    have hdf := may_dfol hm s.top e.seq
    rw [e3]
    apply AWP.aheadF (C := cfg 141 3) (Y := PLift (s.op = 0 ∧ s.last ≤ e.seq)) (fun _ => [(0, .ptr 0 0), (3, .ptr 3 0), (5, AV.int .u64 0), (6, AV.int .i64 0)]) (fun _ => ⟨4, [(0, .cells 46 [AV.int .u64 s.base, .row 1 3 0 s.sn.l.length, AV.int .u64 s.sn.n, .row 2 5 0 s.sealed.length, AV.int .u32 s.op]), (1, .rowc 98 3 s.sn.l.length (oF s.sn.l)), (2, .rowc 49 5 s.sealed.length (slF s.sealed)), (3, .cells 51 [AV.int .i64 e.kind, AV.str e.name, AV.int .u64 e.seq, AV.int .u32 e.id, .iv (.sl 5 e.seals.length (slF e.seals))])]⟩)
    · intro key
      repeat' (first | (refine branchB_of (fun q => ?_) (fun q => ?_) <;> (first | replace q := not_t q | replace q := not_f q | skip) <;> (first | replace q := of_decide_eq_true q | replace q := of_decide_eq_false q | skip) <;> (first | replace q := Classical.not_not.1 q | skip) <;> (try dsimp only at q) <;> (first | (exfalso; omega) | ((conv => whnf); repeat ((first | (refine And.intro ?_ ?_; (focus ((repeat' (first | exact trivial | refine And.intro rfl ?_)); done))) | (refine And.intro ?_ ?_; (focus (first | omega | (dsimp -iota only; omega) | (simp -iota; omega) | (simp -iota; done) | decide)))); conv => whnf)))) | (refine And.intro ?_ ?_ <;> ((conv => whnf); repeat ((first | (refine And.intro ?_ ?_; (focus ((repeat' (first | exact trivial | refine And.intro rfl ?_)); done))) | (refine And.intro ?_ ?_; (focus (first | omega | (dsimp -iota only; omega) | (simp -iota; omega) | (simp -iota; done) | decide)))); conv => whnf))) | (refine AFn.use [0, 1, 2] (rlast_in s hl) (by kernel_rfl) rfl (by repeat' first | exact trivial | refine ⟨rfl, ?_⟩) fun _ => ?_; ((conv => whnf); repeat ((first | (refine And.intro ?_ ?_; (focus ((repeat' (first | exact trivial | refine And.intro rfl ?_)); done))) | (refine And.intro ?_ ?_; (focus (first | omega | (dsimp -iota only; omega) | (simp -iota; omega) | (simp -iota; done) | decide)))); conv => whnf))))
      all_goals first
        | (have hf : s.f6 e = false := decide_eq_false (by rintro ⟨g1, g2, _⟩; omega)
           rw [hf]
           refine ⟨_, _, Ent.mk' (e' := [(0, AV.bool false)]) (H' := s.R) [some 0, some 1, some 2] (by kernel_rfl) ?_ ?_, (), rfl, rfl⟩
           · exact ⟨AVE.refl _, trivial⟩
           · (repeat' first | exact trivial | refine ⟨⟨_, rfl, ChE.refl _⟩, ?_⟩))
        | (refine AWP.of_ent ?_ (key ⟨by omega, by omega⟩)
           exact Ent.mk' [some 0, some 1, some 2, some 3] (by kernel_rfl) (by repeat' first | exact trivial | refine And.intro (AVE.refl _) ?_) (by repeat' (first | exact trivial | refine ⟨⟨_, rfl, ChE.refl _⟩, ?_⟩)))
    · intro hh
      obtain ⟨hh1, hh2⟩ := hh
      refine AWP.loop (X := DfX e.seals s.top e.seq) (fun x => [(0, .ptr 0 0), (3, .ptr 3 0), (5, AV.int .u64 x.n), (6, AV.int .i64 x.i)]) (fun x => ⟨4, [(0, .cells 46 [AV.int .u64 s.base, .row 1 3 0 s.sn.l.length, AV.int .u64 s.sn.n, .row 2 5 0 s.sealed.length, AV.int .u32 s.op]), (1, .rowc 98 3 s.sn.l.length (oF s.sn.l)), (2, .rowc 49 5 s.sealed.length (slF s.sealed)), (3, .cells 51 [AV.int .i64 e.kind, AV.str e.name, AV.int .u64 e.seq, AV.int .u32 e.id, .iv (.sl 5 e.seals.length (slF e.seals))])]⟩) (fun x => e.seals.length - x.i) (⟨0, 0, Nat.zero_le _, rfl⟩) ?_ fun x => AWP.go (S := sch33) (cfgOk _ _) (.of_eq (by kernel_rfl)) ?_
      · exact Ent.mk' [some 0, some 1, some 2, some 3] (by kernel_rfl) (by repeat' first | exact trivial | refine And.intro (AVE.refl _) ?_ | refine And.intro (AVE.int (by first | rfl | omega | (dsimp only; omega) | (simp -iota; omega) | (simp -iota; done))) ?_ | refine And.intro (AVE.bool (by assumption)) ?_ | refine And.intro (AVE.len (by first | rfl | omega | (dsimp only; omega) | (simp -iota; omega) | (simp -iota; done))) ?_) (by repeat' (first | exact trivial | refine ⟨⟨_, rfl, ChE.refl _⟩, ?_⟩))
      · obtain ⟨i, n, hi, h⟩ := x
        have hix : ((i : Nat) : Int).toNat = i := by simp
        (conv => whnf); repeat ((first | (refine And.intro ?_ ?_; (focus ((repeat' (first | exact trivial | refine And.intro rfl ?_)); done))) | (refine And.intro ?_ ?_; (focus (first | omega | (dsimp -iota only; omega) | (simp -iota; omega) | (simp -iota; done) | decide)))); conv => whnf)
        refine branchB_of (fun g => ?_) (fun g => ?_) <;> (first | replace g := not_t g | replace g := not_f g | skip) <;> (first | replace g := of_decide_eq_true g | replace g := of_decide_eq_false g | skip) <;> (first | replace g := Classical.not_not.1 g | skip) <;> (try dsimp only at g)
        · have hi' : i < e.seals.length := by omega
          have hkk := dfol_drop (top := s.top) (m := e.seq) hi' n
          (conv => whnf); repeat ((first | (refine And.intro ?_ ?_; (focus ((repeat' (first | exact trivial | refine And.intro rfl ?_)); done))) | (refine And.intro ?_ ?_; (focus (first | omega | (dsimp -iota only; omega) | (simp -iota; omega) | (simp -iota; done) | decide)))); conv => whnf)
          rw [hix]
          generalize e.seals.getD i default = x at *
          repeat' (first | (refine branchB_of (fun q => ?_) (fun q => ?_) <;> (first | replace q := not_t q | replace q := not_f q | skip) <;> (first | replace q := of_decide_eq_true q | replace q := of_decide_eq_false q | skip) <;> (first | replace q := Classical.not_not.1 q | skip) <;> (try dsimp only at q) <;> ((conv => whnf); repeat ((first | (refine And.intro ?_ ?_; (focus ((repeat' (first | exact trivial | refine And.intro rfl ?_)); done))) | (refine And.intro ?_ ?_; (focus (first | omega | (dsimp -iota only; omega) | (simp -iota; omega) | (simp -iota; done) | decide)))); conv => whnf))) | (refine And.intro ?_ ?_ <;> ((conv => whnf); repeat ((first | (refine And.intro ?_ ?_; (focus ((repeat' (first | exact trivial | refine And.intro rfl ?_)); done))) | (refine And.intro ?_ ?_; (focus (first | omega | (dsimp -iota only; omega) | (simp -iota; omega) | (simp -iota; done) | decide)))); conv => whnf))) | (refine AFn.use [0, 1, 2] (rtop_in s hl) (by kernel_rfl) rfl (by repeat' first | exact trivial | refine ⟨rfl, ?_⟩) fun _ => ?_; ((conv => whnf); repeat ((first | (refine And.intro ?_ ?_; (focus ((repeat' (first | exact trivial | refine And.intro rfl ?_)); done))) | (refine And.intro ?_ ?_; (focus (first | omega | (dsimp -iota only; omega) | (simp -iota; omega) | (simp -iota; done) | decide)))); conv => whnf))))
          all_goals first
            | (have hf : s.f6 e = false := decide_eq_false (by
                 rintro ⟨_, _, g3⟩
                 rw [← hdf, ← h, hkk] at g3
                 first
                   | (rw [decide_eq_true (show x.id ≤ s.top ∨ x.last > e.seq by omega)] at g3; cases g3)
                   | (rw [decide_eq_false (show ¬ (x.id ≤ s.top ∨ x.last > e.seq) by omega), decide_eq_true (show x.many > 0 by omega), decide_eq_true (show x.first ≤ n by omega)] at g3; cases g3))
               rw [hf]
               refine ⟨_, _, Ent.mk' (e' := [(0, AV.bool false)]) (H' := s.R) [some 0, some 1, some 2] (by kernel_rfl) ?_ ?_, (), rfl, rfl⟩
               · exact ⟨AVE.refl _, trivial⟩
               · (repeat' first | exact trivial | refine ⟨⟨_, rfl, ChE.refl _⟩, ?_⟩))
            | (refine ⟨⟨i + 1, x.last, by omega, by
                 rw [← h, hkk, decide_eq_false (show ¬ (x.id ≤ s.top ∨ x.last > e.seq) by omega), decide_eq_true (show x.many > 0 by omega), decide_eq_false (show ¬ x.first ≤ n by omega)]
                 rfl⟩, Ent.mk' [some 0, some 1, some 2, some 3] (by kernel_rfl) (by repeat' first | exact trivial | refine And.intro (AVE.refl _) ?_ | refine And.intro (AVE.int (by first | rfl | omega | (dsimp only; omega) | (simp -iota; omega) | (simp -iota; done))) ?_ | refine And.intro (AVE.bool (by assumption)) ?_ | refine And.intro (AVE.len (by first | rfl | omega | (dsimp only; omega) | (simp -iota; omega) | (simp -iota; done))) ?_) (by repeat' (first | exact trivial | refine ⟨⟨_, rfl, ChE.refl _⟩, ?_⟩)), ?_⟩
               show e.seals.length - (i + 1) < e.seals.length - i
               omega)
            | (refine ⟨⟨i + 1, n, by omega, by
                 rw [← h, hkk, decide_eq_false (show ¬ (x.id ≤ s.top ∨ x.last > e.seq) by omega), decide_eq_false (show ¬ x.many > 0 by omega)]
                 rfl⟩, Ent.mk' [some 0, some 1, some 2, some 3] (by kernel_rfl) (by repeat' first | exact trivial | refine And.intro (AVE.refl _) ?_ | refine And.intro (AVE.int (by first | rfl | omega | (dsimp only; omega) | (simp -iota; omega) | (simp -iota; done))) ?_ | refine And.intro (AVE.bool (by assumption)) ?_ | refine And.intro (AVE.len (by first | rfl | omega | (dsimp only; omega) | (simp -iota; omega) | (simp -iota; done))) ?_) (by repeat' (first | exact trivial | refine ⟨⟨_, rfl, ChE.refl _⟩, ?_⟩)), ?_⟩
               show e.seals.length - (i + 1) < e.seals.length - i
               omega)
        · have hf : s.f6 e = true := by
            rw [List.drop_of_length_le (by omega)] at h
            refine decide_eq_true ⟨hh1, hh2, ?_⟩
            rw [← hdf, ← h]
            rfl
          rw [hf]
          (conv => whnf); repeat ((first | (refine And.intro ?_ ?_; (focus ((repeat' (first | exact trivial | refine And.intro rfl ?_)); done))) | (refine And.intro ?_ ?_; (focus (first | omega | (dsimp -iota only; omega) | (simp -iota; omega) | (simp -iota; done) | decide)))); conv => whnf)
          refine ⟨_, _, Ent.mk' (e' := [(0, AV.bool true)]) (H' := s.R) [some 0, some 1, some 2] (by kernel_rfl) ?_ ?_, (), rfl, rfl⟩
          · exact ⟨AVE.refl _, trivial⟩
          · (repeat' first | exact trivial | refine ⟨⟨_, rfl, ChE.refl _⟩, ?_⟩)
end
end Go.Proofs.YtmlhaellfpbcgaaDoor.Ax

namespace Go.Proofs.YtmlhaellfpbcgaaDoor.Ax
open Go.RowKit
set_option maxRecDepth 100000
section
variable (s : SD) (e : Edt)
set_option maxHeartbeats 4000000 in
theorem rapply_ok (hs : s.In) (he : e.In) (hn : s.sealed.length ≤ 500) : AFn Go.Proofs.Tryd.prog 19 [.ptr 0 0, editA e] (one s.R) (fun _ : Unit => AV.int .i64 (s.appE e)) (fun _ => one (s.app e).R) := by
  have hl := hs.len
  refine ACall.fin ?_
  refine ACall.walkE (C := cfg 84 1) (cfgOk _ _) sch19 (fn := Go.Proofs.Tryd.f19) (by kernel_rfl) (by kernel_rfl) rfl (by kernel_rfl) (by kernel_rfl) rfl rfl (H1 := s.R) (fun _ _ => (HEnt.openOne (s.R) rfl rfl).ent) fun hlen hheap => ?_
  (conv => whnf); repeat ((first | (refine And.intro ?_ ?_; (focus ((repeat' (first | exact trivial | refine And.intro rfl ?_)); done))) | (refine And.intro ?_ ?_; (focus (first | omega | (dsimp -iota only; omega) | (simp -iota; omega) | (simp -iota; done) | decide)))); conv => whnf)
  refine AFn.use [] (rmay_e e he.b) (by kernel_rfl) rfl (by repeat' first | exact trivial | refine ⟨rfl, ?_⟩) fun _ => ?_
  (conv => whnf); repeat ((first | (refine And.intro ?_ ?_; (focus ((repeat' (first | exact trivial | refine And.intro rfl ?_)); done))) | (refine And.intro ?_ ?_; (focus (first | omega | (dsimp -iota only; omega) | (simp -iota; omega) | (simp -iota; done) | decide)))); conv => whnf)
  cases hm : e.may with
  | false =>
    have e1 : s.appE e = 1 := by unfold SD.appE; rw [hm]; rfl
    have e2 : s.app e = s := by unfold SD.app; rw [hm]; rfl
    rw [e1, e2]
    (conv => whnf); repeat ((first | (refine And.intro ?_ ?_; (focus ((repeat' (first | exact trivial | refine And.intro rfl ?_)); done))) | (refine And.intro ?_ ?_; (focus (first | omega | (dsimp -iota only; omega) | (simp -iota; omega) | (simp -iota; done) | decide)))); conv => whnf)
    refine ⟨_, _, Ent.shutAt (r2 := AV.int .i64 1) [some 0, some 1, some 2] (s.R) rfl (by kernel_rfl) (AVE.of_eq ?_) ?_ (by kernel_rfl) (by kernel_rfl) (by repeat' first | exact trivial | refine ⟨rfl, ?_⟩) rfl, (), ?_, ?_⟩
    all_goals first | rfl | (repeat' first | exact trivial | refine ⟨⟨_, rfl, ChE.refl _⟩, ?_⟩)
  | true =>
    have hp := may_hp e hm
    have e2 : s.app e = s.dd e := by unfold SD.app; rw [hm]; rfl
    (conv => whnf); repeat ((first | (refine And.intro ?_ ?_; (focus ((repeat' (first | exact trivial | refine And.intro rfl ?_)); done))) | (refine And.intro ?_ ?_; (focus (first | omega | (dsimp -iota only; omega) | (simp -iota; omega) | (simp -iota; done) | decide)))); conv => whnf)
    refine AFn.use [0, 1, 2] (rfollows_in s e hs hm) (by kernel_rfl) rfl (by repeat' first | exact trivial | refine ⟨rfl, ?_⟩) fun _ => ?_
    (conv => whnf); repeat ((first | (refine And.intro ?_ ?_; (focus ((repeat' (first | exact trivial | refine And.intro rfl ?_)); done))) | (refine And.intro ?_ ?_; (focus (first | omega | (dsimp -iota only; omega) | (simp -iota; omega) | (simp -iota; done) | decide)))); conv => whnf)
    cases hf : s.fo e with
    | false =>
      have e1 : s.appE e = 5 := by unfold SD.appE; rw [hm, hf]; rfl
      have e3 : s.app e = s := app_no s e (by rw [e1]; decide)
      rw [e1, e3]
      (conv => whnf); repeat ((first | (refine And.intro ?_ ?_; (focus ((repeat' (first | exact trivial | refine And.intro rfl ?_)); done))) | (refine And.intro ?_ ?_; (focus (first | omega | (dsimp -iota only; omega) | (simp -iota; omega) | (simp -iota; done) | decide)))); conv => whnf)
      refine ⟨_, _, Ent.shutAt (r2 := AV.int .i64 5) [some 0, some 1, some 2] (s.R) rfl (by kernel_rfl) (AVE.of_eq ?_) ?_ (by kernel_rfl) (by kernel_rfl) (by repeat' first | exact trivial | refine ⟨rfl, ?_⟩) rfl, (), ?_, ?_⟩
      all_goals first | rfl | (repeat' first | exact trivial | refine ⟨⟨_, rfl, ChE.refl _⟩, ?_⟩)
    | true =>
      have e1 : s.appE e = 0 := by unfold SD.appE; rw [hm, hf]; rfl
      rw [e1, e2]
      have hk : e.kind = 1 ∨ e.kind = 2 ∨ e.kind = 3 ∨ e.kind = 4 ∨ e.kind = 5 ∨ e.kind = 6 := by omega
      (conv => whnf); repeat ((first | (refine And.intro ?_ ?_; (focus ((repeat' (first | exact trivial | refine And.intro rfl ?_)); done))) | (refine And.intro ?_ ?_; (focus (first | omega | (dsimp -iota only; omega) | (simp -iota; omega) | (simp -iota; done) | decide)))); conv => whnf)
      rcases hk with hk | hk | hk | hk | hk | hk
      · have hg : s.f1 e = true := by unfold SD.fo at hf; simpa [hk] using hf
        have e4 : s.dd e = ⟨e.seq, s.sn, s.sealed, s.op⟩ := by unfold SD.dd SD.d1; simp [hk, hg]
        rw [e4]
        repeat' (first | (refine branchB_of (fun q => ?_) (fun q => ?_) <;> (first | replace q := not_t q | replace q := not_f q | skip) <;> (first | replace q := of_decide_eq_true q | replace q := of_decide_eq_false q | skip) <;> (first | replace q := Classical.not_not.1 q | skip) <;> (try dsimp only at q) <;> (first | (exfalso; omega) | ((conv => whnf); repeat ((first | (refine And.intro ?_ ?_; (focus ((repeat' (first | exact trivial | refine And.intro rfl ?_)); done))) | (refine And.intro ?_ ?_; (focus (first | omega | (dsimp -iota only; omega) | (simp -iota; omega) | (simp -iota; done) | decide)))); conv => whnf)))) | (refine And.intro ?_ ?_ <;> ((conv => whnf); repeat ((first | (refine And.intro ?_ ?_; (focus ((repeat' (first | exact trivial | refine And.intro rfl ?_)); done))) | (refine And.intro ?_ ?_; (focus (first | omega | (dsimp -iota only; omega) | (simp -iota; omega) | (simp -iota; done) | decide)))); conv => whnf))))
        all_goals
          refine ⟨_, _, Ent.shutAt (r2 := AV.int .i64 0) [some 0, some 1, some 2] (SD.R ⟨e.seq, s.sn, s.sealed, s.op⟩) rfl (by kernel_rfl) (AVE.of_eq ?_) ?_ (by kernel_rfl) (by kernel_rfl) (by repeat' first | exact trivial | refine ⟨rfl, ?_⟩) rfl, (), ?_, ?_⟩
          all_goals first | rfl | (repeat' first | exact trivial | refine ⟨⟨_, rfl, ChE.refl _⟩, ?_⟩)
      · have e4 : s.dd e = s.snW (s.sn.add e.name e.seq) := by unfold SD.dd SD.d2; simp [hk, SD.snW]
        rw [e4]
        repeat' (first | (refine branchB_of (fun q => ?_) (fun q => ?_) <;> (first | replace q := not_t q | replace q := not_f q | skip) <;> (first | replace q := of_decide_eq_true q | replace q := of_decide_eq_false q | skip) <;> (first | replace q := Classical.not_not.1 q | skip) <;> (try dsimp only at q) <;> (first | (exfalso; omega) | ((conv => whnf); repeat ((first | (refine And.intro ?_ ?_; (focus ((repeat' (first | exact trivial | refine And.intro rfl ?_)); done))) | (refine And.intro ?_ ?_; (focus (first | omega | (dsimp -iota only; omega) | (simp -iota; omega) | (simp -iota; done) | decide)))); conv => whnf)))) | (refine And.intro ?_ ?_ <;> ((conv => whnf); repeat ((first | (refine And.intro ?_ ?_; (focus ((repeat' (first | exact trivial | refine And.intro rfl ?_)); done))) | (refine And.intro ?_ ?_; (focus (first | omega | (dsimp -iota only; omega) | (simp -iota; omega) | (simp -iota; done) | decide)))); conv => whnf))))
        all_goals
          refine ACall.hent (HEnt.close [0, 1, 2] 0 s.R ?_ ?_) ?_
          · kernel_rfl
          · repeat' first | exact trivial | refine ⟨rfl, ?_⟩
          refine AFn.use [0] (radd_ok s hs.sn e.name e.seq he.seq) (by kernel_rfl) rfl (by repeat' first | exact trivial | refine ⟨rfl, ?_⟩) fun _ => ?_
          refine ⟨_, HEnt.refl _, ?_⟩
          (conv => whnf); repeat ((first | (refine And.intro ?_ ?_; (focus ((repeat' (first | exact trivial | refine And.intro rfl ?_)); done))) | (refine And.intro ?_ ?_; (focus (first | omega | (dsimp -iota only; omega) | (simp -iota; omega) | (simp -iota; done) | decide)))); conv => whnf)
          refine ⟨_, _, Ent.mk' (e' := [(0, AV.int .i64 0)]) (H' := one (s.snW (s.sn.add e.name e.seq)).R) [some 0] (by kernel_rfl) ?_ ?_, (), rfl, rfl⟩
          · exact ⟨AVE.refl _, trivial⟩
          · (repeat' first | exact trivial | refine ⟨⟨_, rfl, ChE.refl _⟩, ?_⟩)
      · have e4 : s.dd e = s.snW (s.sn.drop e.name) := by unfold SD.dd SD.d3; simp [hk, SD.snW]
        rw [e4]
        repeat' (first | (refine branchB_of (fun q => ?_) (fun q => ?_) <;> (first | replace q := not_t q | replace q := not_f q | skip) <;> (first | replace q := of_decide_eq_true q | replace q := of_decide_eq_false q | skip) <;> (first | replace q := Classical.not_not.1 q | skip) <;> (try dsimp only at q) <;> (first | (exfalso; omega) | ((conv => whnf); repeat ((first | (refine And.intro ?_ ?_; (focus ((repeat' (first | exact trivial | refine And.intro rfl ?_)); done))) | (refine And.intro ?_ ?_; (focus (first | omega | (dsimp -iota only; omega) | (simp -iota; omega) | (simp -iota; done) | decide)))); conv => whnf)))) | (refine And.intro ?_ ?_ <;> ((conv => whnf); repeat ((first | (refine And.intro ?_ ?_; (focus ((repeat' (first | exact trivial | refine And.intro rfl ?_)); done))) | (refine And.intro ?_ ?_; (focus (first | omega | (dsimp -iota only; omega) | (simp -iota; omega) | (simp -iota; done) | decide)))); conv => whnf))))
        all_goals
          refine ACall.hent (HEnt.close [0, 1, 2] 0 s.R ?_ ?_) ?_
          · kernel_rfl
          · repeat' first | exact trivial | refine ⟨rfl, ?_⟩
          refine AFn.use [0] (rdrop_ok s hs.sn e.name) (by kernel_rfl) rfl (by repeat' first | exact trivial | refine ⟨rfl, ?_⟩) fun _ => ?_
          refine ⟨_, HEnt.refl _, ?_⟩
          (conv => whnf); repeat ((first | (refine And.intro ?_ ?_; (focus ((repeat' (first | exact trivial | refine And.intro rfl ?_)); done))) | (refine And.intro ?_ ?_; (focus (first | omega | (dsimp -iota only; omega) | (simp -iota; omega) | (simp -iota; done) | decide)))); conv => whnf)
          refine ⟨_, _, Ent.mk' (e' := [(0, AV.int .i64 0)]) (H' := one (s.snW (s.sn.drop e.name)).R) [some 0] (by kernel_rfl) ?_ ?_, (), rfl, rfl⟩
          · exact ⟨AVE.refl _, trivial⟩
          · (repeat' first | exact trivial | refine ⟨⟨_, rfl, ChE.refl _⟩, ?_⟩)
      · have hg : s.f4 e = true := by unfold SD.fo at hf; simpa [hk] using hf
        have e4 : s.dd e = ⟨s.base, s.sn, s.sealed, e.id⟩ := by unfold SD.dd SD.d4; simp [hk, hg]
        rw [e4]
        repeat' (first | (refine branchB_of (fun q => ?_) (fun q => ?_) <;> (first | replace q := not_t q | replace q := not_f q | skip) <;> (first | replace q := of_decide_eq_true q | replace q := of_decide_eq_false q | skip) <;> (first | replace q := Classical.not_not.1 q | skip) <;> (try dsimp only at q) <;> (first | (exfalso; omega) | ((conv => whnf); repeat ((first | (refine And.intro ?_ ?_; (focus ((repeat' (first | exact trivial | refine And.intro rfl ?_)); done))) | (refine And.intro ?_ ?_; (focus (first | omega | (dsimp -iota only; omega) | (simp -iota; omega) | (simp -iota; done) | decide)))); conv => whnf)))) | (refine And.intro ?_ ?_ <;> ((conv => whnf); repeat ((first | (refine And.intro ?_ ?_; (focus ((repeat' (first | exact trivial | refine And.intro rfl ?_)); done))) | (refine And.intro ?_ ?_; (focus (first | omega | (dsimp -iota only; omega) | (simp -iota; omega) | (simp -iota; done) | decide)))); conv => whnf))))
        all_goals
          refine ⟨_, _, Ent.shutAt (r2 := AV.int .i64 0) [some 0, some 1, some 2] (SD.R ⟨s.base, s.sn, s.sealed, e.id⟩) rfl (by kernel_rfl) (AVE.of_eq ?_) ?_ (by kernel_rfl) (by kernel_rfl) (by repeat' first | exact trivial | refine ⟨rfl, ?_⟩) rfl, (), ?_, ?_⟩
          all_goals first | rfl | (repeat' first | exact trivial | refine ⟨⟨_, rfl, ChE.refl _⟩, ?_⟩)
      · have hg : s.f5 e = true := by unfold SD.fo at hf; simpa [hk] using hf
        have h1 : e.seals.length = 1 := hp.2.2.2.2.2.2.2.2.1 hk
        have e4 : s.dd e = ⟨s.base, s.sn, s.sealed ++ [e.x], 0⟩ := by unfold SD.dd SD.d5; simp [hk, hg]
        rw [e4]
        repeat' (first | (refine branchB_of (fun q => ?_) (fun q => ?_) <;> (first | replace q := not_t q | replace q := not_f q | skip) <;> (first | replace q := of_decide_eq_true q | replace q := of_decide_eq_false q | skip) <;> (first | replace q := Classical.not_not.1 q | skip) <;> (try dsimp only at q) <;> (first | (exfalso; omega) | ((conv => whnf); repeat ((first | (refine And.intro ?_ ?_; (focus ((repeat' (first | exact trivial | refine And.intro rfl ?_)); done))) | (refine And.intro ?_ ?_; (focus (first | omega | (dsimp -iota only; omega) | (simp -iota; omega) | (simp -iota; done) | decide)))); conv => whnf)))) | (refine And.intro ?_ ?_ <;> ((conv => whnf); repeat ((first | (refine And.intro ?_ ?_; (focus ((repeat' (first | exact trivial | refine And.intro rfl ?_)); done))) | (refine And.intro ?_ ?_; (focus (first | omega | (dsimp -iota only; omega) | (simp -iota; omega) | (simp -iota; done) | decide)))); conv => whnf))))
        all_goals
          refine ⟨_, _, Ent.shutAt (r2 := AV.int .i64 0) [some 0, some 1, some 5] (SD.R ⟨s.base, s.sn, s.sealed ++ [e.x], 0⟩) rfl (by kernel_rfl) (AVE.of_eq ?_) ?_ (by kernel_rfl) (by kernel_rfl) (by repeat' first | exact trivial | refine ⟨rfl, ?_⟩) rfl, (), ?_, ?_⟩
          all_goals first | rfl | exact ⟨⟨_, rfl, ChE.cells ⟨AVE.refl _, AVE.refl _, AVE.refl _, AVE.len (by simp), AVE.refl _, rfl⟩⟩, ⟨_, rfl, ChE.refl _⟩, ⟨_, rfl, slF_push rfl⟩, trivial⟩ | (repeat' first | exact trivial | refine ⟨⟨_, rfl, ChE.refl _⟩, ?_⟩)
      · have hg : s.f6 e = true := by unfold SD.fo at hf; simpa [hk] using hf
        have hl2 : e.seals.length ≤ 200 := hp.2.2.2.2.2.2.2.2.2
        have e4 : s.dd e = ⟨e.seq, s.sn, e.seals, s.op⟩ := by unfold SD.dd SD.d6; simp [hk, hg]
        rw [e4]
        repeat' (first | (refine branchB_of (fun q => ?_) (fun q => ?_) <;> (first | replace q := not_t q | replace q := not_f q | skip) <;> (first | replace q := of_decide_eq_true q | replace q := of_decide_eq_false q | skip) <;> (first | replace q := Classical.not_not.1 q | skip) <;> (try dsimp only at q) <;> (first | (exfalso; omega) | ((conv => whnf); repeat ((first | (refine And.intro ?_ ?_; (focus ((repeat' (first | exact trivial | refine And.intro rfl ?_)); done))) | (refine And.intro ?_ ?_; (focus (first | omega | (dsimp -iota only; omega) | (simp -iota; omega) | (simp -iota; done) | decide)))); conv => whnf)))) | (refine And.intro ?_ ?_ <;> ((conv => whnf); repeat ((first | (refine And.intro ?_ ?_; (focus ((repeat' (first | exact trivial | refine And.intro rfl ?_)); done))) | (refine And.intro ?_ ?_; (focus (first | omega | (dsimp -iota only; omega) | (simp -iota; omega) | (simp -iota; done) | decide)))); conv => whnf))))
        all_goals
          refine ⟨_, _, Ent.shutAt (r2 := AV.int .i64 0) [some 0, some 1, some 4] (SD.R ⟨e.seq, s.sn, e.seals, s.op⟩) rfl (by kernel_rfl) (AVE.of_eq ?_) ?_ (by kernel_rfl) (by kernel_rfl) (by repeat' first | exact trivial | refine ⟨rfl, ?_⟩) rfl, (), ?_, ?_⟩
          all_goals first | rfl | (repeat' first | exact trivial | refine ⟨⟨_, rfl, ChE.refl _⟩, ?_⟩)
end
end Go.Proofs.YtmlhaellfpbcgaaDoor.Ax
