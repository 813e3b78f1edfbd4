/-
  Chapter 26: what a model tells.
-/
import Derived.Test.YtaoambbfjdijjaaMa
namespace Go.Proofs.Ytaoambbfjdijjaa.Ax
open Go.RowKit
set_option maxRecDepth 100000
theorem new_ok : AFn Go.Proofs.Try.prog 12 [] ⟨0, []⟩ (fun _ : Unit => AV.ptr 0 0) (fun _ => one (MS.H ⟨[], [], 0⟩)) := by
  refine ACall.fin ?_
  refine ACall.walk (C := cfg 4 0) (cfgOk _ _) [] (fn := Go.Proofs.Try.f12) (by kernel_rfl) (by kernel_rfl) rfl (by kernel_rfl) (by kernel_rfl) rfl rfl ?_
  (conv => whnf); repeat ((first | (refine And.intro ?_ ?_; (focus ((repeat' (first | exact trivial | refine And.intro rfl ?_)); done))) | (refine And.intro ?_ ?_; (focus (first | omega | (simp -iota; omega) | (simp -iota; done) | decide)))); conv => whnf)
  refine ⟨_, _, Ent.shutAt (r2 := .ptr 0 0) [some 1, none, some 0] (MS.H ⟨[], [], 0⟩) rfl (by kernel_rfl) (AVE.of_eq ?_) ?_ (by kernel_rfl) (by kernel_rfl) (by repeat' first | exact trivial | refine ⟨rfl, ?_⟩) rfl, (), ?_, ?_⟩
  · rfl
  · exact ⟨⟨_, rfl, ChE.cells ⟨AVE.nil _ _, AVE.refl _, AVE.refl _, rfl⟩⟩, trivial, ⟨_, rfl, ChE.refl _⟩, trivial⟩
  · rfl
  · rfl
theorem atF_ok (w k : List UInt8) (x : List UInt8) (g : Bool) : AFn Go.Proofs.Try.prog 63 [.agg [.iv (.bs w), .iv (.bs x), .iv (.v (.bool g))], .iv (.pp [.bs k])] ⟨0, []⟩ (fun _ : Unit => AV.bool (decide (w = k))) (fun _ => ⟨0, []⟩) := by
  refine ACall.walk (C := cfgF 8 0) (cfgFOk _ _) [] (fn := Go.Proofs.Try.f63) (by kernel_rfl) (by kernel_rfl) rfl (by kernel_rfl) (by kernel_rfl) rfl rfl ?_
  (conv => whnf); repeat ((first | (refine And.intro ?_ ?_; (focus ((repeat' (first | exact trivial | refine And.intro rfl ?_)); done))) | (refine And.intro ?_ ?_; (focus (first | omega | (simp -iota; omega) | (simp -iota; done) | decide)))); conv => whnf)
  refine AFn.use [] (equal_ok w k) (by kernel_rfl) rfl (by repeat' first | exact trivial | refine ⟨rfl, ?_⟩) fun _ => ?_
  (conv => whnf); repeat ((first | (refine And.intro ?_ ?_; (focus ((repeat' (first | exact trivial | refine And.intro rfl ?_)); done))) | (refine And.intro ?_ ?_; (focus (first | omega | (simp -iota; omega) | (simp -iota; done) | decide)))); conv => whnf)
  exact ⟨(), rfl, rfl⟩
section
variable (m : MS)
theorem at_x (s : Nat) (k : List UInt8) (hs : s ≤ 18446744073709551615) (hn : m.ws.length ≤ 1000) (hv : ∀ w ∈ m.ws, w.v.length ≤ 1024) : AFn Go.Proofs.Try.prog 21 [.ptr 0 0, AV.int .u64 s, .iv (.bs k)] (one m.H) (fun o : { o : Option (List UInt8) // o = m.at s k } => .tup [nb o.1, AV.int .i64 (m.atE s k)]) (fun _ => one m.H) := by
  refine ACall.fin ?_
  refine ACall.walkE (C := cfgF 44 1) (cfgFOk _ _) [] (fn := Go.Proofs.Try.f21) (by kernel_rfl) (by kernel_rfl) rfl (by kernel_rfl) (by kernel_rfl) rfl rfl (H1 := m.H) (fun _ _ => (HEnt.openOne (m.H) rfl rfl).ent) fun hlen hheap => ?_
  (conv => whnf); repeat ((first | (refine And.intro ?_ ?_; (focus ((repeat' (first | exact trivial | refine And.intro rfl ?_)); done))) | (refine And.intro ?_ ?_; (focus (first | omega | (simp -iota; omega) | (simp -iota; done) | decide)))); conv => whnf)
  refine AFn.use [0, 1, 2] (none_in m) (by kernel_rfl) rfl (by repeat' first | exact trivial | refine ⟨rfl, ?_⟩) fun _ => ?_
  (conv => whnf); repeat ((first | (refine And.intro ?_ ?_; (focus ((repeat' (first | exact trivial | refine And.intro rfl ?_)); done))) | (refine And.intro ?_ ?_; (focus (first | omega | (simp -iota; omega) | (simp -iota; done) | decide)))); conv => whnf)
  refine AFn.use [] (may_ok k) (by kernel_rfl) rfl (by repeat' first | exact trivial | refine ⟨rfl, ?_⟩) fun _ => ?_
  (conv => whnf); repeat ((first | (refine And.intro ?_ ?_; (focus ((repeat' (first | exact trivial | refine And.intro rfl ?_)); done))) | (refine And.intro ?_ ?_; (focus (first | omega | (simp -iota; omega) | (simp -iota; done) | decide)))); conv => whnf)
  refine branchB_of (fun h1 => ?_) (fun h1 => ?_)
  · (conv => whnf); repeat ((first | (refine And.intro ?_ ?_; (focus ((repeat' (first | exact trivial | refine And.intro rfl ?_)); done))) | (refine And.intro ?_ ?_; (focus (first | omega | (simp -iota; omega) | (simp -iota; done) | decide)))); conv => whnf)
    have h1' := not_t h1
    refine ⟨_, _, Ent.shutAt (r2 := .tup [nb none, AV.int .i64 (m.atE s k)]) [some 0, some 1, some 2] (m.H) rfl (by kernel_rfl) (AVE.of_eq ?_) ?_ (by kernel_rfl) (by kernel_rfl) (by repeat' first | exact trivial | refine ⟨rfl, ?_⟩) rfl, ⟨none, by simp [MS.at, h1']⟩, ?_, ?_⟩
    all_goals first | rfl | ((repeat' (first | exact trivial | refine ⟨⟨_, rfl, ChE.refl _⟩, ?_⟩)); done) | (simp [AV.ren, AV.rens, Chunk.ren, sigO, MS.atE, h1', nb]; done) | (simp [AV.ren, AV.rens, Chunk.ren, sigO, MS.atE, h1', nb]; omega)
  · have h1' := not_f h1
    (conv => whnf); repeat ((first | (refine And.intro ?_ ?_; (focus ((repeat' (first | exact trivial | refine And.intro rfl ?_)); done))) | (refine And.intro ?_ ?_; (focus (first | omega | (simp -iota; omega) | (simp -iota; done) | decide)))); conv => whnf)
    refine AFn.use [0, 1, 2] (seq_in m hn) (by kernel_rfl) rfl (by repeat' first | exact trivial | refine ⟨rfl, ?_⟩) fun _ => ?_
    (conv => whnf); repeat ((first | (refine And.intro ?_ ?_; (focus ((repeat' (first | exact trivial | refine And.intro rfl ?_)); done))) | (refine And.intro ?_ ?_; (focus (first | omega | (simp -iota; omega) | (simp -iota; done) | decide)))); conv => whnf)
    refine AWP.loop (X := { n : Nat // n ≤ m.ws.length ∧ lastW m.ws k n = lastW m.ws k (min s m.ws.length) }) (fun n => [(0, .ptr 0 0), (8, .fnc (.func 63) [] [.iv (.pp [.bs k])]), (9, AV.int .u64 n.1)]) (fun n => m.H) (fun n => n.1) (⟨min s m.ws.length, by omega, rfl⟩) ?_ fun n => AWP.go (S := []) (cfgFOk _ _) (.of_eq (by kernel_rfl)) ?_
    · refine Ent.mk' [some 0, some 1, some 2] (by kernel_rfl) ⟨AVE.refl _, AVE.of_eq rfl, AVE.of_eq (congrArg (fun z : Int => AV.iv (.v (.int .u64 z))) (by simp; omega)), trivial⟩ (by (repeat' first | exact trivial | refine ⟨⟨_, rfl, ChE.refl _⟩, ?_⟩))
    · obtain ⟨n, hn1, hn2⟩ := n
      (conv => whnf); repeat ((first | (refine And.intro ?_ ?_; (focus ((repeat' (first | exact trivial | refine And.intro rfl ?_)); done))) | (refine And.intro ?_ ?_; (focus (first | omega | (simp -iota; omega) | (simp -iota; done) | decide)))); conv => whnf)
      refine branchB_of (fun h2 => ?_) (fun h2 => ?_) <;> (first | replace h2 := not_t h2 | replace h2 := not_f h2 | skip) <;> (first | replace h2 := of_decide_eq_true h2 | replace h2 := of_decide_eq_false h2 | skip) <;> (first | replace h2 := Classical.not_not.1 h2 | skip) <;> (try dsimp only at h2)
      · obtain ⟨j, rfl⟩ : ∃ j, n = j + 1 := ⟨n - 1, by omega⟩
        have hj : (0 + (((j + 1 : Nat) : Int) - 1).toNat) = j := by omega
        have hlt : j < m.ws.length := by omega
        have hw : m.ws[j]? = some (m.ws.getD j ⟨[], [], true⟩) := by simp [List.getD, hlt]
        (conv => whnf); repeat ((first | (refine And.intro ?_ ?_; (focus ((repeat' (first | exact trivial | refine And.intro rfl ?_)); done))) | (refine And.intro ?_ ?_; (focus (first | omega | (simp -iota; omega) | (simp -iota; done) | decide)))); conv => whnf)
        simp -iota only [hj]
        generalize m.ws.getD j ⟨[], [], true⟩ = w at hw
        have hmem : w ∈ m.ws := List.mem_of_getElem? hw
        have hstep : lastW m.ws k (j + 1) = if w.k = k then some w else lastW m.ws k j := by simp only [lastW, hw]
        refine AFn.use [] (atF_ok _ _ _ _) (by kernel_rfl) rfl (by repeat' first | exact trivial | refine ⟨rfl, ?_⟩) fun _ => ?_
        (conv => whnf); repeat ((first | (refine And.intro ?_ ?_; (focus ((repeat' (first | exact trivial | refine And.intro rfl ?_)); done))) | (refine And.intro ?_ ?_; (focus (first | omega | (simp -iota; omega) | (simp -iota; done) | decide)))); conv => whnf)
        refine branchB_of (fun h3 => ?_) (fun h3 => ?_) <;> (first | replace h3 := not_t h3 | replace h3 := not_f h3 | skip) <;> (first | replace h3 := of_decide_eq_true h3 | replace h3 := of_decide_eq_false h3 | skip) <;> (first | replace h3 := Classical.not_not.1 h3 | skip) <;> (try dsimp only at h3)
        · (conv => whnf); repeat ((first | (refine And.intro ?_ ?_; (focus ((repeat' (first | exact trivial | refine And.intro rfl ?_)); done))) | (refine And.intro ?_ ?_; (focus (first | omega | (simp -iota; omega) | (simp -iota; done) | decide)))); conv => whnf)
          refine ⟨⟨j, by omega, by rw [← hn2, hstep, if_neg (by simpa using h3)]⟩, Ent.mk' [some 0, some 1, some 2] (by kernel_rfl) (by repeat' first | exact trivial | refine And.intro (AVE.refl _) ?_ | refine And.intro (AVE.int (by first | rfl | omega | (simp -iota; omega) | (simp -iota; done))) ?_ | refine And.intro (AVE.bool (by assumption)) ?_ | refine And.intro (AVE.len (by first | rfl | omega | (simp -iota; omega) | (simp -iota; done))) ?_) (by repeat' (first | exact trivial | refine ⟨⟨_, rfl, ChE.refl _⟩, ?_⟩)), ?_⟩
          show j < j + 1
          omega
        · have h3' : w.k = k := by simpa using h3
          rw [if_pos h3', hn2] at hstep
          (conv => whnf); repeat ((first | (refine And.intro ?_ ?_; (focus ((repeat' (first | exact trivial | refine And.intro rfl ?_)); done))) | (refine And.intro ?_ ?_; (focus (first | omega | (simp -iota; omega) | (simp -iota; done) | decide)))); conv => whnf)
          refine branchB_of (fun h4 => ?_) (fun h4 => ?_) <;> (first | replace h4 := not_t h4 | replace h4 := not_f h4 | skip) <;> (first | replace h4 := of_decide_eq_true h4 | replace h4 := of_decide_eq_false h4 | skip) <;> (first | replace h4 := Classical.not_not.1 h4 | skip) <;> (try dsimp only at h4)
          · (conv => whnf); repeat ((first | (refine And.intro ?_ ?_; (focus ((repeat' (first | exact trivial | refine And.intro rfl ?_)); done))) | (refine And.intro ?_ ?_; (focus (first | omega | (simp -iota; omega) | (simp -iota; done) | decide)))); conv => whnf)
            have e : m.at s k = none := by simp [MS.at, h1', hstep, liveW, h4]
            refine ⟨_, _, Ent.shutAt (r2 := .tup [nb none, AV.int .i64 (m.atE s k)]) [some 0, some 1, some 2] (m.H) rfl (by kernel_rfl) (AVE.of_eq ?_) ?_ (by kernel_rfl) (by kernel_rfl) (by repeat' first | exact trivial | refine ⟨rfl, ?_⟩) rfl, ⟨none, e.symm⟩, ?_, ?_⟩
            all_goals first | rfl | ((repeat' (first | exact trivial | refine ⟨⟨_, rfl, ChE.refl _⟩, ?_⟩)); done) | (simp [AV.ren, AV.rens, Chunk.ren, sigO, MS.atE, h1', nb, e]; done) | (simp [AV.ren, AV.rens, Chunk.ren, sigO, MS.atE, h1', nb, e]; omega)
          · (conv => whnf); repeat ((first | (refine And.intro ?_ ?_; (focus ((repeat' (first | exact trivial | refine And.intro rfl ?_)); done))) | (refine And.intro ?_ ?_; (focus (first | omega | (simp -iota; omega) | (simp -iota; done) | decide)))); conv => whnf)
            refine AFn.use [] (clone_ok w.v (by have := hv w hmem; omega)) (by kernel_rfl) rfl (by repeat' first | exact trivial | refine ⟨rfl, ?_⟩) fun _ => ?_
            (conv => whnf); repeat ((first | (refine And.intro ?_ ?_; (focus ((repeat' (first | exact trivial | refine And.intro rfl ?_)); done))) | (refine And.intro ?_ ?_; (focus (first | omega | (simp -iota; omega) | (simp -iota; done) | decide)))); conv => whnf)
            have e : m.at s k = some w.v := by simp [MS.at, h1', hstep, liveW, h4]
            refine ⟨_, _, Ent.shutAt (r2 := .tup [nb (some w.v), AV.int .i64 (m.atE s k)]) [some 0, some 1, some 2] (m.H) rfl (by kernel_rfl) (AVE.of_eq ?_) ?_ (by kernel_rfl) (by kernel_rfl) (by repeat' first | exact trivial | refine ⟨rfl, ?_⟩) rfl, ⟨some w.v, e.symm⟩, ?_, ?_⟩
            all_goals first | rfl | ((repeat' (first | exact trivial | refine ⟨⟨_, rfl, ChE.refl _⟩, ?_⟩)); done) | (simp [AV.ren, AV.rens, Chunk.ren, sigO, MS.atE, h1', nb, e]; done) | (simp [AV.ren, AV.rens, Chunk.ren, sigO, MS.atE, h1', nb, e]; omega)
      · (conv => whnf); repeat ((first | (refine And.intro ?_ ?_; (focus ((repeat' (first | exact trivial | refine And.intro rfl ?_)); done))) | (refine And.intro ?_ ?_; (focus (first | omega | (simp -iota; omega) | (simp -iota; done) | decide)))); conv => whnf)
        have h0 : n = 0 := by omega
        subst h0
        have e : m.at s k = none := by simp [MS.at, h1', ← hn2, lastW, liveW]
        refine ⟨_, _, Ent.shutAt (r2 := .tup [nb none, AV.int .i64 (m.atE s k)]) [some 0, some 1, some 2] (m.H) rfl (by kernel_rfl) (AVE.of_eq ?_) ?_ (by kernel_rfl) (by kernel_rfl) (by repeat' first | exact trivial | refine ⟨rfl, ?_⟩) rfl, ⟨none, e.symm⟩, ?_, ?_⟩
        all_goals first | rfl | ((repeat' (first | exact trivial | refine ⟨⟨_, rfl, ChE.refl _⟩, ?_⟩)); done) | (simp [AV.ren, AV.rens, Chunk.ren, sigO, MS.atE, h1', nb, e]; done) | (simp [AV.ren, AV.rens, Chunk.ren, sigO, MS.atE, h1', nb, e]; omega)
end
end Go.Proofs.Ytaoambbfjdijjaa.Ax
