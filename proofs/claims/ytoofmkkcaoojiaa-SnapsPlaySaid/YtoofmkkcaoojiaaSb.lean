/-
  Chapter 19: what snaps do.
-/
import Derived.Test.YtoofmkkcaoojiaaSo
namespace Go.Proofs.Ytoofmkkcaoojiaa.Ax
open Go.RowKit
set_option maxRecDepth 100000
/-- A map that is gone through: the entry at which it stands is forgotten. -/
theorem ChE.stand {kk : Option IntKind} {m : List (MK × IV)} {left : List MK} {i : Nat} {la : Option (MK × IV)} : ChE (.mapit kk m left i la) (.mapit kk m left i none) := ⟨fun ρ ι hv w h => by
  obtain ⟨b, it, hi, es, clock, since, seen, last, h1, h2, h3, h4, h5, h6, h7, h8, h9, h10, h11, _⟩ := h
  exact ⟨b, it, hi, es, clock, since, seen, last, h1, h2, h3, h4, h5, h6, h7, h8, h9, h10, h11, fun p hp => by cases hp⟩⟩
theorem left_lt {l : List MK} {k : MK} (h : k ∈ l) : (l.filter fun j => decide (j ≠ k)).length < l.length := List.length_filter_lt_length_iff_exists.2 ⟨k, h, by simp⟩
theorem left_mem {l : List MK} {k j : MK} : j ∉ l.filter (fun j => decide (j ≠ k)) ↔ j ∉ l ∨ j = k := by
  simp only [List.mem_filter, decide_eq_true_eq, not_and, Classical.not_not]
  constructor
  · intro h
    by_cases hj : j ∈ l
    · exact .inr (h hj)
    · exact .inl hj
  · rintro (h | h) hj
    · exact absurd hj h
    · exact h
theorem AVE.zs : AVE (.iv (.v (.string ⟨⟨[]⟩⟩))) (.str []) := ⟨fun ρ ι v h => by
  simp only [AV.R, IV.R] at h ⊢
  exact h⟩
theorem AVE.tup2 {x y x' y' : AV} (h1 : AVE x x') (h2 : AVE y y') : AVE (.tup [x, y]) (.tup [x', y']) := ⟨fun ρ ι v h => by
  simp only [AV.R, AV.Rs] at h ⊢
  obtain ⟨vs, rfl, u, us, rfl, g1, u', us', rfl, g2, rfl⟩ := h
  exact ⟨_, rfl, _, _, rfl, h1.run _ _ _ g1, _, _, rfl, h2.run _ _ _ g2, rfl⟩⟩
theorem AVE.agg2 {x y x' y' : AV} (h1 : AVE x x') (h2 : AVE y y') : AVE (.agg [x, y]) (.agg [x', y']) := ⟨fun ρ ι v h => by
  simp only [AV.R, AV.Rs] at h ⊢
  obtain ⟨vs, rfl, u, us, rfl, g1, u', us', rfl, g2, rfl⟩ := h
  exact ⟨_, rfl, _, _, rfl, h1.run _ _ _ g1, _, _, rfl, h2.run _ _ _ g2, rfl⟩⟩
theorem nodup_len {α : Type} [DecidableEq α] : ∀ {l m : List α}, l.Nodup → (∀ x ∈ l, x ∈ m) → l.length ≤ m.length
  | [], _, _, _ => Nat.zero_le _
  | x :: l, m, h, hs => by
    rw [List.nodup_cons] at h
    have hx := hs x (List.mem_cons_self ..)
    have h1 : l.length ≤ (m.erase x).length := nodup_len h.2 fun y hy => (List.mem_erase_of_ne (fun e => h.1 (by rw [← e]; exact hy))).2 (hs y (List.mem_cons_of_mem _ hy))
    have h2 := List.length_erase_of_mem hx
    have h3 := List.length_pos_of_mem hx
    simp only [List.length_cons]
    omega
theorem new_ok : AFn Go.Proofs.Try.prog 6 [] ⟨0, []⟩ (fun _ : Unit => .ptr 0 0) (fun _ => one (SN.H ⟨[], 0⟩)) := by
  refine ACall.fin ?_
  refine ACall.walk (C := cfg 4 0) (cfgOk _ _) [] (fn := Go.Proofs.Try.f6) (by kernel_rfl) (by kernel_rfl) rfl (by kernel_rfl) (by kernel_rfl) rfl rfl ?_
  (conv => whnf); repeat ((first | (refine And.intro ?_ ?_; (focus ((repeat' (first | exact trivial | refine And.intro rfl ?_)); done))) | (refine And.intro ?_ ?_; (focus (first | omega | (dsimp -iota only; omega) | (simp -iota; omega) | (simp -iota; done) | decide)))); conv => whnf)
  refine ⟨_, _, Ent.shutAt (r2 := .ptr 0 0) [some 1, some 0] (SN.H ⟨[], 0⟩) rfl (by kernel_rfl) (AVE.of_eq ?_) ?_ (by kernel_rfl) (by kernel_rfl) (by repeat' first | exact trivial | refine ⟨rfl, ?_⟩) rfl, (), ?_, ?_⟩
  all_goals first | rfl | (repeat' first | exact trivial | refine ⟨⟨_, rfl, ChE.refl _⟩, ?_⟩)
section
variable (s : SN)
structure SN.Ok (s : SN) : Prop where
  dup : (s.l.map (·.1)).Nodup
  mks : (s.l.map (·.2.2)).Nodup
  mark : ∀ p ∈ s.l, p.2.2 ≤ s.n
  mark0 : ∀ p ∈ s.l, 1 ≤ p.2.2
  len : s.l.length ≤ 16
  n : s.n ≤ 1000
  nm : ∀ p ∈ s.l, okN p.1 = true
  q : ∀ p ∈ s.l, p.2.1 ≤ 1099511627776
def SN.addE (x : List UInt8) (q : Nat) : Int := bif !okN x then 32 else bif decide (1099511627776 < q) then 1 else bif (afind s.l x).isSome then 34 else bif decide (16 ≤ s.l.length) then 39 else 0
def SN.addM (x : List UInt8) (q : Nat) : Nat := if s.addE x q = 0 then s.n + 1 else 0
def SN.add (x : List UInt8) (q : Nat) : SN := if s.addE x q = 0 then ⟨aput s.l x (q, s.n + 1), s.n + 1⟩ else s
theorem mput_pg (l : List (List UInt8 × Pin)) (x : List UInt8) (q n : Nat) : mput (smap pg l) (.s x) (.agg [.v (.int .u64 q), .v (.int .u64 ((n : Int) + 1))]) = smap pg (aput l x (q, n + 1)) := by
  rw [← mput_smap]
  rfl
theorem add_ok (hs : s.Ok) (x : List UInt8) (q : Nat) (hq : q ≤ 18446744073709551615) : AFn Go.Proofs.Try.prog 7 [.ptr 0 0, .str x, AV.int .u64 q] (one s.H) (fun _ : Unit => .tup [AV.int .u64 (s.addM x q), AV.int .i64 (s.addE x q)]) (fun _ => one (s.add x q).H) := by
  have hn := hs.n
  refine ACall.fin ?_
  refine ACall.walkE (C := cfg 60 1) (cfgOk _ _) sch7 (fn := Go.Proofs.Try.f7) (by kernel_rfl) (by kernel_rfl) rfl (by kernel_rfl) (by kernel_rfl) rfl rfl (H1 := s.H) (fun _ _ => (HEnt.openOne (s.H) rfl rfl).ent) fun hlen hheap => ?_
  (conv => whnf); repeat ((first | (refine And.intro ?_ ?_; (focus ((repeat' (first | exact trivial | refine And.intro rfl ?_)); done))) | (refine And.intro ?_ ?_; (focus (first | omega | (dsimp -iota only; omega) | (simp -iota; omega) | (simp -iota; done) | decide)))); conv => whnf)
  refine AFn.use [0, 1] (asks_in s x) (by kernel_rfl) rfl (by repeat' first | exact trivial | refine ⟨rfl, ?_⟩) fun _ => ?_
  (conv => whnf); repeat ((first | (refine And.intro ?_ ?_; (focus ((repeat' (first | exact trivial | refine And.intro rfl ?_)); done))) | (refine And.intro ?_ ?_; (focus (first | omega | (dsimp -iota only; omega) | (simp -iota; omega) | (simp -iota; done) | decide)))); conv => whnf)
  have hl : (smap pg s.l).length = s.l.length := smap_length _ _
  cases hk : okN x with
  | false =>
    have e3 : SN.asks x = 32 := by simp [SN.asks, hk]
    rw [e3]
    (conv => whnf); repeat ((first | (refine And.intro ?_ ?_; (focus ((repeat' (first | exact trivial | refine And.intro rfl ?_)); done))) | (refine And.intro ?_ ?_; (focus (first | omega | (dsimp -iota only; omega) | (simp -iota; omega) | (simp -iota; done) | decide)))); conv => whnf)
    have ha : s.addE x q = 32 := by simp [SN.addE, hk]
    have e1 : s.addM x q = 0 := by simp [SN.addM, ha]
    have e2 : s.add x q = s := by simp [SN.add, ha]
    rw [e1, e2, ha]
    (conv => whnf); repeat ((first | (refine And.intro ?_ ?_; (focus ((repeat' (first | exact trivial | refine And.intro rfl ?_)); done))) | (refine And.intro ?_ ?_; (focus (first | omega | (dsimp -iota only; omega) | (simp -iota; omega) | (simp -iota; done) | decide)))); conv => whnf)
    refine ⟨_, _, Ent.shutAt (r2 := .tup [AV.int .u64 0, AV.int .i64 32]) [some 0, some 1] (s.H) rfl (by kernel_rfl) (AVE.of_eq ?_) ?_ (by kernel_rfl) (by kernel_rfl) (by repeat' first | exact trivial | refine ⟨rfl, ?_⟩) rfl, (), ?_, ?_⟩
    all_goals first | rfl | (repeat' first | exact trivial | refine ⟨⟨_, rfl, ChE.refl _⟩, ?_⟩)
  | true =>
    have e3 : SN.asks x = 0 := by simp [SN.asks, hk]
    rw [e3]
    (conv => whnf); repeat ((first | (refine And.intro ?_ ?_; (focus ((repeat' (first | exact trivial | refine And.intro rfl ?_)); done))) | (refine And.intro ?_ ?_; (focus (first | omega | (dsimp -iota only; omega) | (simp -iota; omega) | (simp -iota; done) | decide)))); conv => whnf)
    rw [mfind_smap]
    refine ⟨fun y hy => ?_, fun hy => ?_⟩
    · obtain ⟨z, hz, hz2⟩ := Option.map_eq_some_iff.1 hy
      obtain ⟨p, hp, rfl⟩ := Option.map_eq_some_iff.1 hz
      subst hz2
      (conv => whnf); repeat ((first | (refine And.intro ?_ ?_; (focus ((repeat' (first | exact trivial | refine And.intro rfl ?_)); done))) | (refine And.intro ?_ ?_; (focus (first | omega | (dsimp -iota only; omega) | (simp -iota; omega) | (simp -iota; done) | decide)))); conv => whnf)
      refine branchB_of (fun g => ?_) (fun g => ?_) <;> (first | replace g := not_t g | replace g := not_f g | skip) <;> (first | replace g := of_decide_eq_true g | replace g := of_decide_eq_false g | skip) <;> (first | replace g := Classical.not_not.1 g | skip) <;> (try dsimp only at g)
      · have ha : s.addE x q = 1 := by simp [SN.addE, hk, show 1099511627776 < q from by omega]
        have e1 : s.addM x q = 0 := by simp [SN.addM, ha]
        have e2 : s.add x q = s := by simp [SN.add, ha]
        rw [e1, e2, ha]
        (conv => whnf); repeat ((first | (refine And.intro ?_ ?_; (focus ((repeat' (first | exact trivial | refine And.intro rfl ?_)); done))) | (refine And.intro ?_ ?_; (focus (first | omega | (dsimp -iota only; omega) | (simp -iota; omega) | (simp -iota; done) | decide)))); conv => whnf)
        refine ⟨_, _, Ent.shutAt (r2 := .tup [AV.int .u64 0, AV.int .i64 1]) [some 0, some 1] (s.H) rfl (by kernel_rfl) (AVE.of_eq ?_) ?_ (by kernel_rfl) (by kernel_rfl) (by repeat' first | exact trivial | refine ⟨rfl, ?_⟩) rfl, (), ?_, ?_⟩
        all_goals first | rfl | (repeat' first | exact trivial | refine ⟨⟨_, rfl, ChE.refl _⟩, ?_⟩)
      · have ha : s.addE x q = 34 := by simp [SN.addE, hk, hp, show ¬ 1099511627776 < q from by omega]
        have e1 : s.addM x q = 0 := by simp [SN.addM, ha]
        have e2 : s.add x q = s := by simp [SN.add, ha]
        rw [e1, e2, ha]
        (conv => whnf); repeat ((first | (refine And.intro ?_ ?_; (focus ((repeat' (first | exact trivial | refine And.intro rfl ?_)); done))) | (refine And.intro ?_ ?_; (focus (first | omega | (dsimp -iota only; omega) | (simp -iota; omega) | (simp -iota; done) | decide)))); conv => whnf)
        refine ⟨_, _, Ent.shutAt (r2 := .tup [AV.int .u64 0, AV.int .i64 34]) [some 0, some 1] (s.H) rfl (by kernel_rfl) (AVE.of_eq ?_) ?_ (by kernel_rfl) (by kernel_rfl) (by repeat' first | exact trivial | refine ⟨rfl, ?_⟩) rfl, (), ?_, ?_⟩
        all_goals first | rfl | (repeat' first | exact trivial | refine ⟨⟨_, rfl, ChE.refl _⟩, ?_⟩)
    · have hy := Option.map_eq_none_iff.1 (Option.map_eq_none_iff.1 hy)
      (conv => whnf); repeat ((first | (refine And.intro ?_ ?_; (focus ((repeat' (first | exact trivial | refine And.intro rfl ?_)); done))) | (refine And.intro ?_ ?_; (focus (first | omega | (dsimp -iota only; omega) | (simp -iota; omega) | (simp -iota; done) | decide)))); conv => whnf)
      refine branchB_of (fun g => ?_) (fun g => ?_) <;> (first | replace g := not_t g | replace g := not_f g | skip) <;> (first | replace g := of_decide_eq_true g | replace g := of_decide_eq_false g | skip) <;> (first | replace g := Classical.not_not.1 g | skip) <;> (try dsimp only at g)
      · have ha : s.addE x q = 1 := by simp [SN.addE, hk, show 1099511627776 < q from by omega]
        have e1 : s.addM x q = 0 := by simp [SN.addM, ha]
        have e2 : s.add x q = s := by simp [SN.add, ha]
        rw [e1, e2, ha]
        (conv => whnf); repeat ((first | (refine And.intro ?_ ?_; (focus ((repeat' (first | exact trivial | refine And.intro rfl ?_)); done))) | (refine And.intro ?_ ?_; (focus (first | omega | (dsimp -iota only; omega) | (simp -iota; omega) | (simp -iota; done) | decide)))); conv => whnf)
        refine ⟨_, _, Ent.shutAt (r2 := .tup [AV.int .u64 0, AV.int .i64 1]) [some 0, some 1] (s.H) rfl (by kernel_rfl) (AVE.of_eq ?_) ?_ (by kernel_rfl) (by kernel_rfl) (by repeat' first | exact trivial | refine ⟨rfl, ?_⟩) rfl, (), ?_, ?_⟩
        all_goals first | rfl | (repeat' first | exact trivial | refine ⟨⟨_, rfl, ChE.refl _⟩, ?_⟩)
      · (conv => whnf); repeat ((first | (refine And.intro ?_ ?_; (focus ((repeat' (first | exact trivial | refine And.intro rfl ?_)); done))) | (refine And.intro ?_ ?_; (focus (first | omega | (dsimp -iota only; omega) | (simp -iota; omega) | (simp -iota; done) | decide)))); conv => whnf)
        refine branchB_of (fun g2 => ?_) (fun g2 => ?_) <;> (first | replace g2 := not_t g2 | replace g2 := not_f g2 | skip) <;> (first | replace g2 := of_decide_eq_true g2 | replace g2 := of_decide_eq_false g2 | skip) <;> (first | replace g2 := Classical.not_not.1 g2 | skip) <;> (try dsimp only at g2)
        · have ha : s.addE x q = 39 := by simp [SN.addE, hk, hy, show ¬ 1099511627776 < q from by omega, show 16 ≤ s.l.length from by omega]
          have e1 : s.addM x q = 0 := by simp [SN.addM, ha]
          have e2 : s.add x q = s := by simp [SN.add, ha]
          rw [e1, e2, ha]
          (conv => whnf); repeat ((first | (refine And.intro ?_ ?_; (focus ((repeat' (first | exact trivial | refine And.intro rfl ?_)); done))) | (refine And.intro ?_ ?_; (focus (first | omega | (dsimp -iota only; omega) | (simp -iota; omega) | (simp -iota; done) | decide)))); conv => whnf)
          refine ⟨_, _, Ent.shutAt (r2 := .tup [AV.int .u64 0, AV.int .i64 39]) [some 0, some 1] (s.H) rfl (by kernel_rfl) (AVE.of_eq ?_) ?_ (by kernel_rfl) (by kernel_rfl) (by repeat' first | exact trivial | refine ⟨rfl, ?_⟩) rfl, (), ?_, ?_⟩
          all_goals first | rfl | (repeat' first | exact trivial | refine ⟨⟨_, rfl, ChE.refl _⟩, ?_⟩)
        · have ha : s.addE x q = 0 := by simp [SN.addE, hk, hy, show ¬ 1099511627776 < q from by omega, show ¬ 16 ≤ s.l.length from by omega]
          have e1 : s.addM x q = s.n + 1 := by simp [SN.addM, ha]
          have e2 : s.add x q = ⟨aput s.l x (q, s.n + 1), s.n + 1⟩ := by simp [SN.add, ha]
          rw [e1, e2, ha]
          (conv => whnf); repeat ((first | (refine And.intro ?_ ?_; (focus ((repeat' (first | exact trivial | refine And.intro rfl ?_)); done))) | (refine And.intro ?_ ?_; (focus (first | omega | (dsimp -iota only; omega) | (simp -iota; omega) | (simp -iota; done) | decide)))); conv => whnf)
          rw [mput_pg]
          (conv => whnf); repeat ((first | (refine And.intro ?_ ?_; (focus ((repeat' (first | exact trivial | refine And.intro rfl ?_)); done))) | (refine And.intro ?_ ?_; (focus (first | omega | (dsimp -iota only; omega) | (simp -iota; omega) | (simp -iota; done) | decide)))); conv => whnf)
          refine ⟨_, _, Ent.shutAt (r2 := .tup [AV.int .u64 (s.n + 1 : Nat), AV.int .i64 0]) [some 0, some 1] (SN.H ⟨aput s.l x (q, s.n + 1), s.n + 1⟩) rfl (by kernel_rfl) (AVE.of_eq ?_) ?_ (by kernel_rfl) (by kernel_rfl) (by repeat' first | exact trivial | refine ⟨rfl, ?_⟩) rfl, (), ?_, ?_⟩
          all_goals first | rfl | (repeat' first | exact trivial | refine ⟨⟨_, rfl, ChE.refl _⟩, ?_⟩)
def SN.drop (x : List UInt8) : SN := if s.findE x = 0 then ⟨adel s.l x, s.n⟩ else s
theorem drop_ok (x : List UInt8) : AFn Go.Proofs.Try.prog 14 [.ptr 0 0, .str x] (one s.H) (fun _ : Unit => AV.int .i64 (s.findE x)) (fun _ => one (s.drop x).H) := by
  refine ACall.fin ?_
  refine ACall.walkE (C := cfg 21 1) (cfgOk _ _) [] (fn := Go.Proofs.Try.f14) (by kernel_rfl) (by kernel_rfl) rfl (by kernel_rfl) (by kernel_rfl) rfl rfl (H1 := s.H) (fun _ _ => (HEnt.openOne (s.H) rfl rfl).ent) fun hlen hheap => ?_
  (conv => whnf); repeat ((first | (refine And.intro ?_ ?_; (focus ((repeat' (first | exact trivial | refine And.intro rfl ?_)); done))) | (refine And.intro ?_ ?_; (focus (first | omega | (dsimp -iota only; omega) | (simp -iota; omega) | (simp -iota; done) | decide)))); conv => whnf)
  refine AFn.use [0, 1] (find_in s x) (by kernel_rfl) rfl (by repeat' first | exact trivial | refine ⟨rfl, ?_⟩) fun _ => ?_
  (conv => whnf); repeat ((first | (refine And.intro ?_ ?_; (focus ((repeat' (first | exact trivial | refine And.intro rfl ?_)); done))) | (refine And.intro ?_ ?_; (focus (first | omega | (dsimp -iota only; omega) | (simp -iota; omega) | (simp -iota; done) | decide)))); conv => whnf)
  refine branchB_of (fun h => ?_) (fun h => ?_) <;> (first | replace h := not_t h | replace h := not_f h | skip) <;> (first | replace h := of_decide_eq_true h | replace h := of_decide_eq_false h | skip) <;> (first | replace h := Classical.not_not.1 h | skip) <;> (try dsimp only at h)
  · have e1 : s.drop x = ⟨adel s.l x, s.n⟩ := by simp [SN.drop, h]
    rw [e1, h]
    (conv => whnf); repeat ((first | (refine And.intro ?_ ?_; (focus ((repeat' (first | exact trivial | refine And.intro rfl ?_)); done))) | (refine And.intro ?_ ?_; (focus (first | omega | (dsimp -iota only; omega) | (simp -iota; omega) | (simp -iota; done) | decide)))); conv => whnf)
    rw [mdel_smap]
    (conv => whnf); repeat ((first | (refine And.intro ?_ ?_; (focus ((repeat' (first | exact trivial | refine And.intro rfl ?_)); done))) | (refine And.intro ?_ ?_; (focus (first | omega | (dsimp -iota only; omega) | (simp -iota; omega) | (simp -iota; done) | decide)))); conv => whnf)
    refine ⟨_, _, Ent.shutAt (r2 := AV.int .i64 0) [some 0, some 1] (SN.H ⟨adel s.l x, s.n⟩) rfl (by kernel_rfl) (AVE.of_eq ?_) ?_ (by kernel_rfl) (by kernel_rfl) (by repeat' first | exact trivial | refine ⟨rfl, ?_⟩) rfl, (), ?_, ?_⟩
    all_goals first | rfl | (repeat' first | exact trivial | refine ⟨⟨_, rfl, ChE.refl _⟩, ?_⟩)
  · have e1 : s.drop x = s := by simp [SN.drop, h]
    rw [e1]
    (conv => whnf); repeat ((first | (refine And.intro ?_ ?_; (focus ((repeat' (first | exact trivial | refine And.intro rfl ?_)); done))) | (refine And.intro ?_ ?_; (focus (first | omega | (dsimp -iota only; omega) | (simp -iota; omega) | (simp -iota; done) | decide)))); conv => whnf)
    refine ⟨_, _, Ent.shutAt (r2 := AV.int .i64 (s.findE x)) [some 0, some 1] (s.H) rfl (by kernel_rfl) (AVE.of_eq ?_) ?_ (by kernel_rfl) (by kernel_rfl) (by repeat' first | exact trivial | refine ⟨rfl, ?_⟩) rfl, (), ?_, ?_⟩
    all_goals first | rfl | (repeat' first | exact trivial | refine ⟨⟨_, rfl, ChE.refl _⟩, ?_⟩)
theorem get_ok (x : List UInt8) : AFn Go.Proofs.Try.prog 19 [.ptr 0 0, .str x] (one s.H) (fun _ : Unit => .tup [AV.int .u64 (s.findP x).1, AV.int .u64 (s.findP x).2, AV.int .i64 (s.findE x)]) (fun _ => one s.H) := by
  refine ACall.fin ?_
  refine ACall.walkE (C := cfg 20 1) (cfgOk _ _) sch19 (fn := Go.Proofs.Try.f19) (by kernel_rfl) (by kernel_rfl) rfl (by kernel_rfl) (by kernel_rfl) rfl rfl (H1 := s.H) (fun _ _ => (HEnt.openOne (s.H) rfl rfl).ent) fun hlen hheap => ?_
  (conv => whnf); repeat ((first | (refine And.intro ?_ ?_; (focus ((repeat' (first | exact trivial | refine And.intro rfl ?_)); done))) | (refine And.intro ?_ ?_; (focus (first | omega | (dsimp -iota only; omega) | (simp -iota; omega) | (simp -iota; done) | decide)))); conv => whnf)
  refine AFn.use [0, 1] (find_in s x) (by kernel_rfl) rfl (by repeat' first | exact trivial | refine ⟨rfl, ?_⟩) fun _ => ?_
  (conv => whnf); repeat ((first | (refine And.intro ?_ ?_; (focus ((repeat' (first | exact trivial | refine And.intro rfl ?_)); done))) | (refine And.intro ?_ ?_; (focus (first | omega | (dsimp -iota only; omega) | (simp -iota; omega) | (simp -iota; done) | decide)))); conv => whnf)
  refine ⟨_, _, Ent.shutAt (r2 := .tup [AV.int .u64 (s.findP x).1, AV.int .u64 (s.findP x).2, AV.int .i64 (s.findE x)]) [some 0, some 1] (s.H) rfl (by kernel_rfl) (AVE.of_eq ?_) ?_ (by kernel_rfl) (by kernel_rfl) (by repeat' first | exact trivial | refine ⟨rfl, ?_⟩) rfl, (), ?_, ?_⟩
  all_goals first | rfl | (repeat' first | exact trivial | refine ⟨⟨_, rfl, ChE.refl _⟩, ?_⟩)
def SN.livesO (k : Nat) : Option (List UInt8 × Pin) := s.l.find? fun p => decide (p.2.2 = k)
def SN.livesN (k : Nat) : List UInt8 := match s.livesO k with | some p => p.1 | none => []
def SN.livesQ (k : Nat) : Nat := match s.livesO k with | some p => p.2.1 | none => 0
def SN.livesB (k : Nat) : Bool := (s.livesO k).isSome
theorem lives_none {k : Nat} (h : ∀ p ∈ s.l, p.2.2 ≠ k) : s.livesO k = none := by
  unfold SN.livesO
  rw [List.find?_eq_none]
  intro p hp
  simpa using h p hp
theorem find_mark : ∀ (l : List (List UInt8 × Pin)) (p : List UInt8 × Pin), (l.map (·.2.2)).Nodup → p ∈ l → l.find? (fun q => decide (q.2.2 = p.2.2)) = some p
  | q :: l, p, h, hp => by
    simp only [List.map_cons, List.nodup_cons] at h
    rw [List.find?_cons]
    by_cases e : q.2.2 = p.2.2
    · simp only [e, decide_true]
      rcases List.mem_cons.1 hp with rfl | hp
      · rfl
      · exact absurd (List.mem_map_of_mem (f := fun p : List UInt8 × Pin => p.2.2) hp) (e ▸ h.1)
    · simp only [e, decide_false]
      rcases List.mem_cons.1 hp with rfl | hp
      · exact absurd rfl e
      · exact find_mark l p h.2 hp
theorem lives_some (hs : s.Ok) {p : List UInt8 × Pin} (hp : p ∈ s.l) : s.livesO p.2.2 = some p := find_mark s.l p hs.mks hp
structure LX (s : SN) (k : Nat) where
  left : List MK
  h : ∀ p ∈ s.l, MK.s p.1 ∉ left → p.2.2 ≠ k
theorem lives_in (hs : s.Ok) (k : Nat) : AFn Go.Proofs.Try.prog 13 [.ptr 0 0, AV.int .u64 k] s.H (fun _ : Unit => .tup [.agg [.str (s.livesN k), AV.int .u64 (s.livesQ k)], AV.bool (s.livesB k)]) (fun _ => s.H) := by
  refine ACall.fin ?_
  refine ACall.walk (C := cfg 30 2) (cfgOk _ _) [] (fn := Go.Proofs.Try.f13) (by kernel_rfl) (by kernel_rfl) rfl (by kernel_rfl) (by kernel_rfl) rfl rfl ?_
  (conv => whnf); repeat ((first | (refine And.intro ?_ ?_; (focus ((repeat' (first | exact trivial | refine And.intro rfl ?_)); done))) | (refine And.intro ?_ ?_; (focus (first | omega | (dsimp -iota only; omega) | (simp -iota; omega) | (simp -iota; done) | decide)))); conv => whnf)
  refine AFn.use [0, 1] (none_in s) (by kernel_rfl) rfl (by repeat' first | exact trivial | refine ⟨rfl, ?_⟩) fun _ => ?_
  (conv => whnf); repeat ((first | (refine And.intro ?_ ?_; (focus ((repeat' (first | exact trivial | refine And.intro rfl ?_)); done))) | (refine And.intro ?_ ?_; (focus (first | omega | (dsimp -iota only; omega) | (simp -iota; omega) | (simp -iota; done) | decide)))); conv => whnf)
  refine AWP.loop (X := LX s k) (fun x => [(0, .ptr 0 0), (1, AV.int .u64 k), (4, .ptr 2 0), (15, .ptr 3 0)]) (fun x => ⟨4, [(0, .cells 64 [.mp 1, AV.int .u64 s.n]), (1, .mapit none (smap pg s.l) x.left 3 none), (2, .cells 38 [.iv (.v (.string ⟨⟨[]⟩⟩)), AV.int .u64 0])]⟩) (fun x => x.left.length) (⟨(smap pg s.l).map (·.1), fun p hp h => absurd (List.mem_map.2 ⟨(MK.s p.1, pg p.2), List.mem_map.2 ⟨p, hp, rfl⟩, rfl⟩) h⟩) ?_ fun x => AWP.go (S := []) (cfgOk _ _) (.of_eq (by kernel_rfl)) ?_
  · exact Ent.mk' [some 0, some 1, some 2, some 3] (by kernel_rfl) (by repeat' first | exact trivial | refine And.intro (AVE.refl _) ?_ | refine And.intro (AVE.int (by first | rfl | omega | (dsimp only; omega) | (simp -iota; omega) | (simp -iota; done))) ?_ | refine And.intro (AVE.bool (by assumption)) ?_ | refine And.intro (AVE.len (by first | rfl | omega | (dsimp only; omega) | (simp -iota; omega) | (simp -iota; done))) ?_) (by repeat' (first | exact trivial | refine ⟨⟨_, rfl, ChE.refl _⟩, ?_⟩))
  · obtain ⟨left, hx⟩ := x
    (conv => whnf); repeat ((first | (refine And.intro ?_ ?_; (focus ((repeat' (first | exact trivial | refine And.intro rfl ?_)); done))) | (refine And.intro ?_ ?_; (focus (first | omega | (dsimp -iota only; omega) | (simp -iota; omega) | (simp -iota; done) | decide)))); conv => whnf)
    refine ⟨fun p hp hl => ?_, fun hend => ?_⟩
    · obtain ⟨q, hq, rfl⟩ := List.mem_map.1 hp
      (conv => whnf); repeat ((first | (refine And.intro ?_ ?_; (focus ((repeat' (first | exact trivial | refine And.intro rfl ?_)); done))) | (refine And.intro ?_ ?_; (focus (first | omega | (dsimp -iota only; omega) | (simp -iota; omega) | (simp -iota; done) | decide)))); conv => whnf)
      refine branchB_of (fun g => ?_) (fun g => ?_) <;> (first | replace g := not_t g | replace g := not_f g | skip) <;> (first | replace g := of_decide_eq_true g | replace g := of_decide_eq_false g | skip) <;> (first | replace g := Classical.not_not.1 g | skip) <;> (try dsimp only at g)
      · have hk : q.2.2 = k := by omega
        have e0 : s.livesO k = some q := hk ▸ lives_some s hs hq
        have e1 : s.livesN k = q.1 := by simp [SN.livesN, e0]
        have e2 : s.livesQ k = q.2.1 := by simp [SN.livesQ, e0]
        have e3 : s.livesB k = true := by simp [SN.livesB, e0]
        rw [e1, e2, e3]
        (conv => whnf); repeat ((first | (refine And.intro ?_ ?_; (focus ((repeat' (first | exact trivial | refine And.intro rfl ?_)); done))) | (refine And.intro ?_ ?_; (focus (first | omega | (dsimp -iota only; omega) | (simp -iota; omega) | (simp -iota; done) | decide)))); conv => whnf)
        refine ⟨_, _, (Ent.rest (h := 1) rfl).trans (Ent.mk' (e' := [(0, .tup [.agg [.str q.1, AV.int .u64 q.2.1], AV.bool true])]) (H' := s.H) [some 0, some 1] (by kernel_rfl) ?_ ?_), (), rfl, rfl⟩
        · exact ⟨AVE.refl _, trivial⟩
        · (repeat' first | exact trivial | refine ⟨⟨_, rfl, ChE.refl _⟩, ?_⟩)
      · (conv => whnf); repeat ((first | (refine And.intro ?_ ?_; (focus ((repeat' (first | exact trivial | refine And.intro rfl ?_)); done))) | (refine And.intro ?_ ?_; (focus (first | omega | (dsimp -iota only; omega) | (simp -iota; omega) | (simp -iota; done) | decide)))); conv => whnf)
        refine ⟨⟨left.filter fun j => decide (j ≠ MK.s q.1), fun p hp hn => ?_⟩, Ent.mk' [some 0, some 1, some 2, some 3] (by kernel_rfl) (by repeat' first | exact trivial | refine And.intro (AVE.refl _) ?_ | refine And.intro (AVE.int (by first | rfl | omega | (dsimp only; omega) | (simp -iota; omega) | (simp -iota; done))) ?_ | refine And.intro (AVE.bool (by assumption)) ?_ | refine And.intro (AVE.len (by first | rfl | omega | (dsimp only; omega) | (simp -iota; omega) | (simp -iota; done))) ?_) ?_, ?_⟩
        · rcases left_mem.1 hn with h1 | h1
          · exact hx p hp h1
          · have e : p.1 = q.1 := by injection h1
            have e2 : p = q := by
              have a1 := afind_of_mem hs.dup hp
              have a2 := afind_of_mem hs.dup hq
              rw [e, a2] at a1
              injection a1 with a1
              exact Prod.ext e a1.symm
            subst e2
            omega
        · exact ⟨⟨_, rfl, ChE.refl _⟩, ⟨_, rfl, ChE.stand⟩, ⟨_, rfl, ChE.refl _⟩, trivial⟩
        · exact left_lt hl
    · have h0 : s.livesO k = none := lives_none s fun p hp => hx p hp (hend (MK.s p.1, pg p.2) (List.mem_map.2 ⟨p, hp, rfl⟩))
      have e1 : s.livesN k = [] := by simp [SN.livesN, h0]
      have e2 : s.livesQ k = 0 := by simp [SN.livesQ, h0]
      have e3 : s.livesB k = false := by simp [SN.livesB, h0]
      rw [e1, e2, e3]
      (conv => whnf); repeat ((first | (refine And.intro ?_ ?_; (focus ((repeat' (first | exact trivial | refine And.intro rfl ?_)); done))) | (refine And.intro ?_ ?_; (focus (first | omega | (dsimp -iota only; omega) | (simp -iota; omega) | (simp -iota; done) | decide)))); conv => whnf)
      refine ⟨_, _, Ent.mk' (e' := [(0, .tup [.agg [.str [], AV.int .u64 0], AV.bool false])]) (H' := s.H) [some 0, some 1] (by kernel_rfl) ?_ ?_, (), rfl, rfl⟩
      · exact ⟨AVE.tup2 (AVE.agg2 AVE.zs (AVE.refl _)) (AVE.refl _), trivial⟩
      · (repeat' first | exact trivial | refine ⟨⟨_, rfl, ChE.refl _⟩, ?_⟩)
def SN.nqs : List NQ := s.l.map fun p => (p.1, p.2.1)
def SN.list : List NQ := listS s.nqs
theorem nqs_keys : s.nqs.map (·.1) = s.l.map (·.1) := by
  unfold SN.nqs
  rw [List.map_map]
  rfl
theorem nodup_eq {β : Type} {L : List (List UInt8 × β)} {p r : List UInt8 × β} (h : (L.map (·.1)).Nodup) (hp : p ∈ L) (hr : r ∈ L) (e : p.1 = r.1) : p = r := by
  have a1 := afind_of_mem h hp
  have a2 := afind_of_mem h hr
  rw [e, a2] at a1
  injection a1 with a1
  exact Prod.ext e a1.symm
theorem keys_nodup {β : Type} {L : List (List UInt8 × β)} (h : (L.map (·.1)).Nodup) : L.Nodup := (List.pairwise_map.1 h).imp fun h e => h (by rw [e])
structure VX (s : SN) where
  left : List MK
  A : List NQ
  nd : (A.map (·.1)).Nodup
  mem : ∀ p, p ∈ A ↔ p ∈ s.nqs ∧ MK.s p.1 ∉ left
theorem VX.len {s : SN} (hs : s.Ok) {left : List MK} {A : List NQ} (nd : (A.map (·.1)).Nodup) (mem : ∀ p, p ∈ A ↔ p ∈ s.nqs ∧ MK.s p.1 ∉ left) : A.length ≤ 16 := by
  have h1 : A.length ≤ s.nqs.length := nodup_len (keys_nodup nd) fun p hp => ((mem p).1 hp).1
  have h2 : s.nqs.length = s.l.length := by simp [SN.nqs]
  have := hs.len
  omega
theorem nqF_push (A : List NQ) (p : NQ) {j : Nat} (h : j < A.length) : nqF A j = nqF (A ++ [p]) j := by
  unfold nqF
  simp [List.getD, List.getElem?_append_left, h]
theorem ChE.pushN {e : Nat} {A : List NQ} {p : NQ} {g : Nat → List IV} (hg : g 0 = [.str p.1, .v (.int .u64 p.2)]) : ChE (.rowc e 2 (A.length + 1) fun j => if j < A.length then nqF A j else g (j - A.length)) (.rowc e 2 (A ++ [p]).length (nqF (A ++ [p]))) := by
  refine ChE.row (by simp) fun j hj => ?_
  by_cases h : j < A.length
  · simp only [if_pos h]
    exact nqF_push A p h
  · have : j = A.length := by simp at hj; omega
    subst this
    simp only [if_neg h, Nat.sub_self]
    rw [hg]
    simp [nqF]
theorem list_in (hs : s.Ok) : AFn Go.Proofs.Try.prog 8 [.ptr 0 0] s.H (fun _ : Unit => .iv (.sl 2 s.list.length (nqF s.list))) (fun _ => s.H) := by
  have hnk : (s.nqs.map (·.1)).Nodup := by rw [nqs_keys]; exact hs.dup
  refine ACall.fin ?_
  refine ACall.walk (C := cfg 28 2) (cfgOk _ _) [] (fn := Go.Proofs.Try.f8) (by kernel_rfl) (by kernel_rfl) rfl (by kernel_rfl) (by kernel_rfl) rfl rfl ?_
  (conv => whnf); repeat ((first | (refine And.intro ?_ ?_; (focus ((repeat' (first | exact trivial | refine And.intro rfl ?_)); done))) | (refine And.intro ?_ ?_; (focus (first | omega | (dsimp -iota only; omega) | (simp -iota; omega) | (simp -iota; done) | decide)))); conv => whnf)
  refine AFn.use [0, 1] (none_in s) (by kernel_rfl) rfl (by repeat' first | exact trivial | refine ⟨rfl, ?_⟩) fun _ => ?_
  (conv => whnf); repeat ((first | (refine And.intro ?_ ?_; (focus ((repeat' (first | exact trivial | refine And.intro rfl ?_)); done))) | (refine And.intro ?_ ?_; (focus (first | omega | (dsimp -iota only; omega) | (simp -iota; omega) | (simp -iota; done) | decide)))); conv => whnf)
  refine AWP.loop (X := VX s) (fun x => [(0, .ptr 0 0), (3, .row 3 2 0 x.A.length), (12, .ptr 2 0)]) (fun x => ⟨4, [(0, .cells 64 [.mp 1, AV.int .u64 s.n]), (1, .mapit none (smap pg s.l) x.left 2 none), (3, .rowc 38 2 x.A.length (nqF x.A))]⟩) (fun x => x.left.length) (⟨(smap pg s.l).map (·.1), [], by simp, fun p => ?_⟩) ?_ fun x => AWP.go (S := []) (cfgOk _ _) (.of_eq (by kernel_rfl)) ?_
  · simp only [List.not_mem_nil, false_iff, not_and, Classical.not_not]
    intro hp
    obtain ⟨q, hq, rfl⟩ := List.mem_map.1 hp
    exact List.mem_map.2 ⟨(MK.s q.1, pg q.2), List.mem_map.2 ⟨q, hq, rfl⟩, rfl⟩
  · refine Ent.mk' [some 0, some 1, some 2, none] (by kernel_rfl) ?_ ?_
    · exact ⟨AVE.refl _, AVE.nil _ _, AVE.refl _, trivial⟩
    · exact ⟨⟨_, rfl, ChE.refl _⟩, ⟨_, rfl, ChE.refl _⟩, trivial, trivial⟩
  · obtain ⟨left, A, hnd, hmem⟩ := x
    have hAl := VX.len hs hnd hmem
    (conv => whnf); repeat ((first | (refine And.intro ?_ ?_; (focus ((repeat' (first | exact trivial | refine And.intro rfl ?_)); done))) | (refine And.intro ?_ ?_; (focus (first | omega | (dsimp -iota only; omega) | (simp -iota; omega) | (simp -iota; done) | decide)))); conv => whnf)
    refine ⟨fun p hp hl => ?_, fun hend => ?_⟩
    · obtain ⟨q, hq, rfl⟩ := List.mem_map.1 hp
      have hl : MK.s q.1 ∈ left := hl
      (conv => whnf); repeat ((first | (refine And.intro ?_ ?_; (focus ((repeat' (first | exact trivial | refine And.intro rfl ?_)); done))) | (refine And.intro ?_ ?_; (focus (first | omega | (dsimp -iota only; omega) | (simp -iota; omega) | (simp -iota; done) | decide)))); conv => whnf)
      refine ⟨⟨left.filter fun j => decide (j ≠ MK.s q.1), A ++ [(q.1, q.2.1)], ?_, fun p => ?_⟩, Ent.mk' [some 0, some 1, some 2, some 6] (by kernel_rfl) (by repeat' first | exact trivial | refine And.intro (AVE.refl _) ?_ | refine And.intro (AVE.int (by first | rfl | omega | (dsimp only; omega) | (simp -iota; omega) | (simp -iota; done))) ?_ | refine And.intro (AVE.bool (by assumption)) ?_ | refine And.intro (AVE.len (by first | rfl | omega | (dsimp only; omega) | (simp -iota; omega) | (simp -iota; done))) ?_) ?_, ?_⟩
      · rw [List.map_append, List.nodup_append]
        refine ⟨hnd, by simp, fun a ha b hb => ?_⟩
        simp only [List.map_cons, List.map_nil, List.mem_singleton] at hb
        subst hb
        obtain ⟨r, hr, rfl⟩ := List.mem_map.1 ha
        intro e
        exact ((hmem r).1 hr).2 (e ▸ hl)
      · rw [left_mem, List.mem_append, List.mem_singleton, hmem p]
        constructor
        · rintro (⟨h1, h2⟩ | rfl)
          · exact ⟨h1, .inl h2⟩
          · exact ⟨List.mem_map.2 ⟨q, hq, rfl⟩, .inr rfl⟩
        · rintro ⟨h1, h2 | h2⟩
          · exact .inl ⟨h1, h2⟩
          · refine .inr (nodup_eq hnk h1 (List.mem_map.2 ⟨q, hq, rfl⟩) ?_)
            injection h2
      · exact ⟨⟨_, rfl, ChE.refl _⟩, ⟨_, rfl, ChE.stand⟩, ⟨_, rfl, ChE.pushN rfl⟩, trivial⟩
      · exact left_lt hl
    · have hpm : A.Perm s.nqs := (List.perm_ext_iff_of_nodup (keys_nodup hnd) (keys_nodup hnk)).2 fun p => by
        rw [hmem p]
        refine ⟨fun h => h.1, fun h => ⟨h, ?_⟩⟩
        obtain ⟨q, hq, rfl⟩ := List.mem_map.1 h
        exact hend (MK.s q.1, pg q.2) (List.mem_map.2 ⟨q, hq, rfl⟩)
      have hAs : listS A = s.list := listS_same hnd hnk hpm
      have hAn : A.length = s.list.length := by rw [← hAs, listS_length]
      (conv => whnf); repeat ((first | (refine And.intro ?_ ?_; (focus ((repeat' (first | exact trivial | refine And.intro rfl ?_)); done))) | (refine And.intro ?_ ?_; (focus (first | omega | (dsimp -iota only; omega) | (simp -iota; omega) | (simp -iota; done) | decide)))); conv => whnf)
      refine AFn.use [3] (sortF_ok A hnd (by omega)) (by kernel_rfl) rfl (by repeat' first | exact trivial | refine ⟨rfl, ?_⟩) fun _ => ?_
      (conv => whnf); repeat ((first | (refine And.intro ?_ ?_; (focus ((repeat' (first | exact trivial | refine And.intro rfl ?_)); done))) | (refine And.intro ?_ ?_; (focus (first | omega | (dsimp -iota only; omega) | (simp -iota; omega) | (simp -iota; done) | decide)))); conv => whnf)
      refine ⟨_, _, (Ent.freeze 3 _ rfl rfl (e' := [(0, .iv (.sl 2 A.length (nqF (listS A))))]) ⟨AVF.sl (by rw [listS_length]; exact Nat.le_refl _), trivial⟩).trans (Ent.mk' (e' := [(0, .iv (.sl 2 s.list.length (nqF s.list)))]) (H' := s.H) [some 0, some 1] (by kernel_rfl) ?_ ?_), (), rfl, rfl⟩
      · exact ⟨AVE.of_eq (by rw [hAs, hAn]; rfl), trivial⟩
      · (repeat' first | exact trivial | refine ⟨⟨_, rfl, ChE.refl _⟩, ?_⟩)
theorem list_ok (hs : s.Ok) : AFn Go.Proofs.Try.prog 8 [.ptr 0 0] (one s.H) (fun _ : Unit => .iv (.sl 2 s.list.length (nqF s.list))) (fun _ => one s.H) := AFn.shut (list_in s hs) rfl rfl (fun _ => ⟨by kernel_rfl, by kernel_rfl⟩) (fun _ => (by repeat' first | exact trivial | refine ⟨rfl, ?_⟩)) (fun _ => rfl)
theorem lives_ok (hs : s.Ok) (k : Nat) : AFn Go.Proofs.Try.prog 13 [.ptr 0 0, AV.int .u64 k] (one s.H) (fun _ : Unit => .tup [.agg [.str (s.livesN k), AV.int .u64 (s.livesQ k)], AV.bool (s.livesB k)]) (fun _ => one s.H) := AFn.shut (lives_in s hs k) rfl rfl (fun _ => ⟨by kernel_rfl, by kernel_rfl⟩) (fun _ => (by repeat' first | exact trivial | refine ⟨rfl, ?_⟩)) (fun _ => rfl)
theorem len_ok : AFn Go.Proofs.Try.prog 15 [.ptr 0 0] (one s.H) (fun _ : Unit => AV.int .i64 s.l.length) (fun _ => one s.H) := AFn.shut (len_in s) rfl rfl (fun _ => ⟨by kernel_rfl, by kernel_rfl⟩) (fun _ => (by repeat' first | exact trivial | refine ⟨rfl, ?_⟩)) (fun _ => rfl)
theorem lives_at (hs : s.Ok) {p : List UInt8 × Pin} (hp : p ∈ s.l) : AFn Go.Proofs.Try.prog 13 [.ptr 0 0, AV.int .u64 p.2.2] (one s.H) (fun _ : Unit => .tup [.agg [.str p.1, AV.int .u64 p.2.1], AV.bool true]) (fun _ => one s.H) := by
  have h := lives_ok s hs p.2.2
  have e0 : s.livesO p.2.2 = some p := lives_some s hs hp
  have e1 : s.livesN p.2.2 = p.1 := by simp [SN.livesN, e0]
  have e2 : s.livesQ p.2.2 = p.2.1 := by simp [SN.livesQ, e0]
  have e3 : s.livesB p.2.2 = true := by simp [SN.livesB, e0]
  rw [e1, e2, e3] at h
  exact h
theorem lives_off (hs : s.Ok) {k : Nat} (hk : ∀ p ∈ s.l, p.2.2 ≠ k) : AFn Go.Proofs.Try.prog 13 [.ptr 0 0, AV.int .u64 k] (one s.H) (fun _ : Unit => .tup [.agg [.str [], AV.int .u64 0], AV.bool false]) (fun _ => one s.H) := by
  have h := lives_ok s hs k
  have e0 : s.livesO k = none := lives_none s hk
  have e1 : s.livesN k = [] := by simp [SN.livesN, e0]
  have e2 : s.livesQ k = 0 := by simp [SN.livesQ, e0]
  have e3 : s.livesB k = false := by simp [SN.livesB, e0]
  rw [e1, e2, e3] at h
  exact h
/-! What always holds. -/
theorem aput_new {β : Type} {l : List (List UInt8 × β)} {s : List UInt8} {n : β} (h : s ∉ l.map (·.1)) : aput l s n = l ++ [(s, n)] := by
  induction l with
  | nil => rfl
  | cons p ps ih =>
    simp only [List.map_cons, List.mem_cons, not_or] at h
    unfold aput
    rw [if_neg (fun e => h.1 e.symm), ih h.2]
    rfl
theorem addE_zero {x : List UInt8} {q : Nat} (h : s.addE x q = 0) : okN x = true ∧ q ≤ 1099511627776 ∧ afind s.l x = none ∧ s.l.length < 16 := by
  unfold SN.addE at h
  cases h1 : okN x with
  | false => simp [h1] at h
  | true =>
    simp only [h1, Bool.not_true, cond_false] at h
    cases h2 : decide (1099511627776 < q) with
    | true => simp [h2] at h
    | false =>
      simp only [h2, cond_false] at h
      cases h3 : (afind s.l x).isSome with
      | true => simp [h3] at h
      | false =>
        simp only [h3, cond_false] at h
        cases h4 : decide (16 ≤ s.l.length) with
        | true => simp [h4] at h
        | false =>
          simp only [decide_eq_false_iff_not] at h2 h4
          simp only [Option.isSome_eq_false_iff, Option.isNone_iff_eq_none] at h3
          exact ⟨rfl, by omega, h3, by omega⟩
theorem add_l {x : List UInt8} {q : Nat} (h : s.addE x q = 0) : s.add x q = ⟨s.l ++ [(x, (q, s.n + 1))], s.n + 1⟩ := by
  have h3 := (addE_zero s h).2.2.1
  simp only [SN.add, if_pos h]
  rw [aput_new (afind_none.1 h3)]
theorem add_Ok (hs : s.Ok) {x : List UInt8} {q : Nat} (h : s.addE x q = 0) (hn : s.n < 1000) : (s.add x q).Ok := by
  obtain ⟨h1, h2, h3, h4⟩ := addE_zero s h
  rw [add_l s h]
  have hx := afind_none.1 h3
  refine ⟨?_, ?_, ?_, ?_, ?_, ?_, ?_, ?_⟩
  · simp only [List.map_append, List.map_cons, List.map_nil]
    rw [List.nodup_append]
    exact ⟨hs.dup, by simp, fun a ha b hb => by simp only [List.mem_singleton] at hb; subst hb; exact fun e => hx (e ▸ ha)⟩
  · simp only [List.map_append, List.map_cons, List.map_nil]
    rw [List.nodup_append]
    refine ⟨hs.mks, by simp, fun a ha b hb => ?_⟩
    simp only [List.mem_singleton] at hb
    subst hb
    obtain ⟨p, hp, rfl⟩ := List.mem_map.1 ha
    have := hs.mark p hp
    omega
  · intro p hp
    rcases List.mem_append.1 hp with hp | hp
    · have := hs.mark p hp; simp only; omega
    · simp only [List.mem_singleton] at hp; subst hp; simp
  · intro p hp
    rcases List.mem_append.1 hp with hp | hp
    · exact hs.mark0 p hp
    · simp only [List.mem_singleton] at hp; subst hp; simp
  · simp; omega
  · simp only; omega
  · intro p hp
    rcases List.mem_append.1 hp with hp | hp
    · exact hs.nm p hp
    · simp only [List.mem_singleton] at hp; subst hp; exact h1
  · intro p hp
    rcases List.mem_append.1 hp with hp | hp
    · exact hs.q p hp
    · simp only [List.mem_singleton] at hp; subst hp; exact h2
theorem drop_Ok (hs : s.Ok) (x : List UInt8) : (s.drop x).Ok := by
  unfold SN.drop
  split
  · have hsub : (adel s.l x).Sublist s.l := List.filter_sublist
    exact ⟨hs.dup.sublist (hsub.map _), hs.mks.sublist (hsub.map _), fun p hp => hs.mark p (hsub.subset hp), fun p hp => hs.mark0 p (hsub.subset hp), Nat.le_trans hsub.length_le hs.len, hs.n, fun p hp => hs.nm p (hsub.subset hp), fun p hp => hs.q p (hsub.subset hp)⟩
  · exact hs
theorem addE_there {x : List UInt8} {q : Nat} {p : Pin} (h : afind s.l x = some p) : s.addE x q ≠ 0 := fun e => by
  have := (addE_zero s e).2.2.1
  rw [h] at this
  cases this
theorem add_same {x : List UInt8} {q : Nat} (h : s.addE x q ≠ 0) : s.add x q = s := if_neg h
theorem findE_there (hs : s.Ok) {x : List UInt8} {p : Pin} (h : afind s.l x = some p) : s.findE x = 0 := by
  have hk := hs.nm _ (afind_mem h)
  simp only at hk
  simp [SN.findE, hk, h]
theorem findE_none {x : List UInt8} (h : afind s.l x = none) : s.findE x ≠ 0 := by
  unfold SN.findE
  cases okN x <;> simp [h]
end
end Go.Proofs.Ytoofmkkcaoojiaa.Ax
