/-
  Chapter 19: the small functions of snaps.
-/
import Derived.Test.YtoofmkkcaoojiaaSp
import Derived.Test.YtoofmkkcaoojiaaTT19
import Derived.Test.YtoofmkkcaoojiaaSch19
namespace Go.Proofs.Ytoofmkkcaoojiaa.Ax
open Go.RowKit
set_option maxRecDepth 100000
noncomputable def cfg (N b : Nat) : Cfg := { P := Go.Proofs.Try.prog, T := tt, wr := false, N := N, pure := [], base := b }
theorem cfgOk (N b : Nat) : (cfg N b).Ok := ⟨ttOk, ttBytes, by kernel_rfl⟩
/-- What a snapshot pins, and its mark. -/
abbrev Pin := Nat × Nat
def pg (p : Pin) : IV := .agg [.v (.int .u64 p.1), .v (.int .u64 p.2)]
/-- Snapshots: pins in the order in which they were added; how many marks were told. -/
structure SN where
  l : List (List UInt8 × Pin)
  n : Nat
@[reducible] def SN.H (s : SN) : AH := ⟨2, [(0, .cells 64 [.mp 1, .int .u64 s.n]), (1, .map none (smap pg s.l))]⟩
def okN (k : List UInt8) : Bool := decide (1 ≤ k.length ∧ k.length ≤ 32)
theorem mayName_ok (l : List UInt8) : AFn Go.Proofs.Try.prog 35 [.str l] ⟨0, []⟩ (fun _ : Unit => AV.bool (okN l)) (fun _ => ⟨0, []⟩) := by
  refine ACall.walk (C := cfg 11 0) (cfgOk _ _) [] (fn := Go.Proofs.Try.f35) (by kernel_rfl) (by kernel_rfl) rfl (by kernel_rfl) (by kernel_rfl) rfl rfl ?_
  conv => whnf
  refine branchB_of (fun h => ?_) (fun h => ?_)
  · conv => whnf
    refine ⟨(), ?_, rfl⟩
    simp only [decide_eq_true_eq] at h
    congr 3
    exact decide_eq_decide.2 (by omega)
  · conv => whnf
    refine ⟨(), ?_, rfl⟩
    simp only [decide_eq_false_iff_not] at h
    congr 3
    exact (decide_eq_false (by omega)).symm
section
variable (s : SN)
def SN.asks (x : List UInt8) : Int := bif !okN x then 32 else 0
def SN.findE (s : SN) (x : List UInt8) : Int := bif !okN x then 32 else bif (afind s.l x).isSome then 0 else 33
def SN.findP (s : SN) (x : List UInt8) : Pin := bif okN x then (afind s.l x).getD (0, 0) else (0, 0)
theorem none_in : AFn Go.Proofs.Try.prog 25 [.ptr 0 0] s.H (fun _ : Unit => AV.bool false) (fun _ => s.H) := by
  refine ACall.walk (C := cfg 12 2) (cfgOk _ _) [] (fn := Go.Proofs.Try.f25) (by kernel_rfl) (by kernel_rfl) rfl (by kernel_rfl) (by kernel_rfl) rfl rfl ?_
  conv => whnf
  exact ⟨(), rfl, rfl⟩
theorem asks_in (x : List UInt8) : AFn Go.Proofs.Try.prog 24 [.ptr 0 0, .str x] s.H (fun _ : Unit => AV.int .i64 (SN.asks x)) (fun _ => s.H) := by
  refine ACall.walk (C := cfg 12 2) (cfgOk _ _) [] (fn := Go.Proofs.Try.f24) (by kernel_rfl) (by kernel_rfl) rfl (by kernel_rfl) (by kernel_rfl) rfl rfl ?_
  conv => whnf
  refine AFn.use [0, 1] (none_in s) (by kernel_rfl) rfl (by repeat' first | exact trivial | refine ⟨rfl, ?_⟩) fun _ => ?_
  conv => whnf
  refine AFn.use [] (mayName_ok x) (by kernel_rfl) rfl (by repeat' first | exact trivial | refine ⟨rfl, ?_⟩) fun _ => ?_
  conv => whnf
  refine branchB_of (fun h => ?_) (fun h => ?_)
  · conv => whnf
    exact ⟨(), by simp [SN.asks, not_t h], rfl⟩
  · conv => whnf
    exact ⟨(), by simp [SN.asks, not_f h], rfl⟩
theorem len_in : AFn Go.Proofs.Try.prog 15 [.ptr 0 0] s.H (fun _ : Unit => AV.int .i64 s.l.length) (fun _ => s.H) := by
  refine ACall.walk (C := cfg 10 2) (cfgOk _ _) [] (fn := Go.Proofs.Try.f15) (by kernel_rfl) (by kernel_rfl) rfl (by kernel_rfl) (by kernel_rfl) rfl rfl ?_
  conv => whnf
  refine AFn.use [0, 1] (none_in s) (by kernel_rfl) rfl (by repeat' first | exact trivial | refine ⟨rfl, ?_⟩) fun _ => ?_
  conv => whnf
  exact ⟨(), by simp [smap], rfl⟩
theorem find_in (x : List UInt8) : AFn Go.Proofs.Try.prog 31 [.ptr 0 0, .str x] s.H (fun _ : Unit => .tup [.agg [.int .u64 (s.findP x).1, .int .u64 (s.findP x).2], AV.int .i64 (s.findE x)]) (fun _ => s.H) := by
  refine ACall.fin ?_
  refine ACall.walk (C := cfg 29 2) (cfgOk _ _) [] (fn := Go.Proofs.Try.f31) (by kernel_rfl) (by kernel_rfl) rfl (by kernel_rfl) (by kernel_rfl) rfl rfl ?_
  (conv => whnf); repeat ((first | (refine And.intro ?_ ?_; (focus ((repeat' (first | exact trivial | refine And.intro rfl ?_)); done))) | (refine And.intro ?_ ?_; (focus (first | omega | (dsimp -iota only; omega) | (simp -iota; omega) | (simp -iota; done) | decide)))); conv => whnf)
  refine AFn.use [0, 1] (asks_in s x) (by kernel_rfl) rfl (by repeat' first | exact trivial | refine ⟨rfl, ?_⟩) fun _ => ?_
  (conv => whnf); repeat ((first | (refine And.intro ?_ ?_; (focus ((repeat' (first | exact trivial | refine And.intro rfl ?_)); done))) | (refine And.intro ?_ ?_; (focus (first | omega | (dsimp -iota only; omega) | (simp -iota; omega) | (simp -iota; done) | decide)))); conv => whnf)
  refine branchB_of (fun h => ?_) (fun h => ?_) <;> (first | replace h := not_t h | replace h := not_f h | skip) <;> (first | replace h := of_decide_eq_true h | replace h := of_decide_eq_false h | skip) <;> (first | replace h := Classical.not_not.1 h | skip) <;> (try dsimp only at h)
  · have hk : okN x = false := by
      cases hk : okN x with
      | false => rfl
      | true => simp [SN.asks, hk] at h
    have e1 : s.findP x = (0, 0) := by simp [SN.findP, hk]
    have e2 : s.findE x = 32 := by simp [SN.findE, hk]
    have e3 : SN.asks x = 32 := by simp [SN.asks, hk]
    rw [e1, e2, e3]
    (conv => whnf); repeat ((first | (refine And.intro ?_ ?_; (focus ((repeat' (first | exact trivial | refine And.intro rfl ?_)); done))) | (refine And.intro ?_ ?_; (focus (first | omega | (dsimp -iota only; omega) | (simp -iota; omega) | (simp -iota; done) | decide)))); conv => whnf)
    refine ⟨_, _, Ent.mk' (e' := [(0, .tup [.agg [AV.int .u64 0, AV.int .u64 0], AV.int .i64 32])]) (H' := s.H) [some 0, some 1] (by kernel_rfl) ?_ ?_, (), rfl, rfl⟩
    · exact ⟨AVE.refl _, trivial⟩
    · (repeat' first | exact trivial | refine ⟨⟨_, rfl, ChE.refl _⟩, ?_⟩)
  · have hk : okN x = true := by
      cases hk : okN x with
      | true => rfl
      | false => simp [SN.asks, hk] at h
    (conv => whnf); repeat ((first | (refine And.intro ?_ ?_; (focus ((repeat' (first | exact trivial | refine And.intro rfl ?_)); done))) | (refine And.intro ?_ ?_; (focus (first | omega | (dsimp -iota only; omega) | (simp -iota; omega) | (simp -iota; done) | decide)))); conv => whnf)
    rw [mfind_smap]
    refine ⟨fun y hy => ?_, fun hy => ?_⟩
    · obtain ⟨z, hz, hz2⟩ := Option.map_eq_some_iff.1 hy
      obtain ⟨p, hp, rfl⟩ := Option.map_eq_some_iff.1 hz
      subst hz2
      have e1 : s.findP x = p := by simp [SN.findP, hk, hp]
      have e2 : s.findE x = 0 := by simp [SN.findE, hk, hp]
      rw [e1, e2]
      (conv => whnf); repeat ((first | (refine And.intro ?_ ?_; (focus ((repeat' (first | exact trivial | refine And.intro rfl ?_)); done))) | (refine And.intro ?_ ?_; (focus (first | omega | (dsimp -iota only; omega) | (simp -iota; omega) | (simp -iota; done) | decide)))); conv => whnf)
      refine ⟨_, _, Ent.mk' (e' := [(0, .tup [.agg [AV.int .u64 p.1, AV.int .u64 p.2], AV.int .i64 0])]) (H' := s.H) [some 0, some 1] (by kernel_rfl) ?_ ?_, (), rfl, rfl⟩
      · exact ⟨AVE.refl _, trivial⟩
      · (repeat' first | exact trivial | refine ⟨⟨_, rfl, ChE.refl _⟩, ?_⟩)
    · have hy := Option.map_eq_none_iff.1 (Option.map_eq_none_iff.1 hy)
      have e1 : s.findP x = (0, 0) := by simp [SN.findP, hk, hy]
      have e2 : s.findE x = 33 := by simp [SN.findE, hk, hy]
      rw [e1, e2]
      (conv => whnf); repeat ((first | (refine And.intro ?_ ?_; (focus ((repeat' (first | exact trivial | refine And.intro rfl ?_)); done))) | (refine And.intro ?_ ?_; (focus (first | omega | (dsimp -iota only; omega) | (simp -iota; omega) | (simp -iota; done) | decide)))); conv => whnf)
      refine ⟨_, _, Ent.mk' (e' := [(0, .tup [.agg [AV.int .u64 0, AV.int .u64 0], AV.int .i64 33])]) (H' := s.H) [some 0, some 1] (by kernel_rfl) ?_ ?_, (), rfl, rfl⟩
      · exact ⟨AVE.refl _, trivial⟩
      · (repeat' first | exact trivial | refine ⟨⟨_, rfl, ChE.refl _⟩, ?_⟩)
end
end Go.Proofs.Ytoofmkkcaoojiaa.Ax
