/-
  Chapter 26: what a model tells (2).
-/
import Derived.Test.YtaoambbfjdijjaaMb
import Derived.Test.YtaoambbfjdijjaaKeys
namespace Go.Proofs.Ytaoambbfjdijjaa.Ax
open Go.RowKit
set_option maxRecDepth 100000
theorem AVE.nb {o : Option (List UInt8)} {l : List UInt8} (h : o.getD [] = l) : AVE (nb o) (.iv (.bs l)) := by
  subst h
  cases o with
  | none => exact AVE.nilBs
  | some v => exact AVE.refl _
theorem AVE.tup2 {x y x' y' : AV} (h1 : AVE x x') (h2 : AVE y y') : AVE (.tup [x, y]) (.tup [x', y']) := ⟨fun ρ ι v h => by
  simp only [AV.R, AV.Rs] at h ⊢
  obtain ⟨vs, rfl, u, us, rfl, g1, u', us', rfl, g2, rfl⟩ := h
  exact ⟨_, rfl, _, _, rfl, h1.run _ _ _ g1, _, _, rfl, h2.run _ _ _ g2, rfl⟩⟩
section
variable (m : MS)
structure MS.Fits (m : MS) : Prop where
  n : m.ws.length ≤ 1000
  k : ∀ w ∈ m.ws, w.k.length ≤ 64
  k1 : ∀ w ∈ m.ws, okK w.k = true
  v : ∀ w ∈ m.ws, w.v.length ≤ 1024
  sn : m.sn.length ≤ 16
  snk : ∀ p ∈ m.sn, p.1.length ≤ 32
  nums : ∀ p ∈ m.sn, p.2 ≤ m.mark
  mark : m.mark ≤ m.ws.length
  dup : (m.sn.map (·.1)).Nodup
def MS.atV (m : MS) (s : Nat) (k : List UInt8) : List UInt8 := (m.at s k).getD []
theorem at_ok (hm : m.Fits) (s : Nat) (k : List UInt8) (hs : s ≤ 18446744073709551615) : AFn Go.Proofs.Try.prog 21 [.ptr 0 0, AV.int .u64 s, .iv (.bs k)] (one m.H) (fun _ : Unit => .tup [.iv (.bs (m.atV s k)), AV.int .i64 (m.atE s k)]) (fun _ => one m.H) := by
  exact (at_x m s k hs hm.n hm.v).say fun ⟨o, ho⟩ => ⟨(), AVE.tup2 (AVE.nb (by subst ho; rfl)) (AVE.refl _), rfl⟩
theorem get_ok (hm : m.Fits) (k : List UInt8) : AFn Go.Proofs.Try.prog 23 [.ptr 0 0, .iv (.bs k)] (one m.H) (fun _ : Unit => .tup [.iv (.bs (m.atV m.ws.length k)), AV.int .i64 (m.atE m.ws.length k)]) (fun _ => one m.H) := by
  refine ACall.walk (C := cfg 13 1) (cfgOk _ _) [] (fn := Go.Proofs.Try.f23) (by kernel_rfl) (by kernel_rfl) rfl (by kernel_rfl) (by kernel_rfl) rfl rfl ?_
  (conv => whnf); repeat ((first | (refine And.intro ?_ ?_; (focus ((repeat' (first | exact trivial | refine And.intro rfl ?_)); done))) | (refine And.intro ?_ ?_; (focus (first | omega | (simp -iota; omega) | (simp -iota; done) | decide)))); conv => whnf)
  refine AFn.use [0] (seq_ok m hm.n) (by kernel_rfl) rfl (by repeat' first | exact trivial | refine ⟨rfl, ?_⟩) fun _ => ?_
  (conv => whnf); repeat ((first | (refine And.intro ?_ ?_; (focus ((repeat' (first | exact trivial | refine And.intro rfl ?_)); done))) | (refine And.intro ?_ ?_; (focus (first | omega | (simp -iota; omega) | (simp -iota; done) | decide)))); conv => whnf)
  refine AFn.use [0] (at_ok m hm m.ws.length k (by have := hm.n; omega)) (by kernel_rfl) rfl (by repeat' first | exact trivial | refine ⟨rfl, ?_⟩) fun _ => ?_
  (conv => whnf); repeat ((first | (refine And.intro ?_ ?_; (focus ((repeat' (first | exact trivial | refine And.intro rfl ?_)); done))) | (refine And.intro ?_ ?_; (focus (first | omega | (simp -iota; omega) | (simp -iota; done) | decide)))); conv => whnf)
  exact ⟨(), rfl, rfl⟩
def MS.gatE (m : MS) (s k : List UInt8) : Int := bif !okK k then 30 else bif decide (m.snapE s ≠ 0) then m.snapE s else m.atE (m.snapV s) k
def MS.gat (m : MS) (s k : List UInt8) : Option (List UInt8) := bif !okK k then none else bif decide (m.snapE s ≠ 0) then none else m.at (m.snapV s) k
theorem gat_x (hm : m.Fits) (s k : List UInt8) : AFn Go.Proofs.Try.prog 20 [.ptr 0 0, .str s, .iv (.bs k)] (one m.H) (fun o : { o : Option (List UInt8) // o = m.gat s k } => .tup [nb o.1, AV.int .i64 (m.gatE s k)]) (fun _ => one m.H) := by
  have hsv : m.snapV s ≤ 1000 := by
    unfold MS.snapV sfind
    cases h : okN s
    · simp
    · simp only [cond_true]
      cases hf : m.sn.find? (fun p => decide (p.1 = s)) with
      | none => simp
      | some p =>
        have := hm.nums p (List.mem_of_find?_eq_some hf)
        have := hm.mark
        have := hm.n
        simp; omega
  refine ACall.walk (C := cfg 33 1) (cfgOk _ _) [] (fn := Go.Proofs.Try.f20) (by kernel_rfl) (by kernel_rfl) rfl (by kernel_rfl) (by kernel_rfl) rfl rfl ?_
  (conv => whnf); repeat ((first | (refine And.intro ?_ ?_; (focus ((repeat' (first | exact trivial | refine And.intro rfl ?_)); done))) | (refine And.intro ?_ ?_; (focus (first | omega | (simp -iota; omega) | (simp -iota; done) | decide)))); conv => whnf)
  refine AFn.use [0] (snap_ok m s) (by kernel_rfl) rfl (by repeat' first | exact trivial | refine ⟨rfl, ?_⟩) fun _ => ?_
  (conv => whnf); repeat ((first | (refine And.intro ?_ ?_; (focus ((repeat' (first | exact trivial | refine And.intro rfl ?_)); done))) | (refine And.intro ?_ ?_; (focus (first | omega | (simp -iota; omega) | (simp -iota; done) | decide)))); conv => whnf)
  refine AFn.use [0] (none_ok m) (by kernel_rfl) rfl (by repeat' first | exact trivial | refine ⟨rfl, ?_⟩) fun _ => ?_
  (conv => whnf); repeat ((first | (refine And.intro ?_ ?_; (focus ((repeat' (first | exact trivial | refine And.intro rfl ?_)); done))) | (refine And.intro ?_ ?_; (focus (first | omega | (simp -iota; omega) | (simp -iota; done) | decide)))); conv => whnf)
  refine AFn.use [] (may_ok k) (by kernel_rfl) rfl (by repeat' first | exact trivial | refine ⟨rfl, ?_⟩) fun _ => ?_
  (conv => whnf); repeat ((first | (refine And.intro ?_ ?_; (focus ((repeat' (first | exact trivial | refine And.intro rfl ?_)); done))) | (refine And.intro ?_ ?_; (focus (first | omega | (simp -iota; omega) | (simp -iota; done) | decide)))); conv => whnf)
  refine branchB_of (fun h1 => ?_) (fun h1 => ?_)
  · (conv => whnf); repeat ((first | (refine And.intro ?_ ?_; (focus ((repeat' (first | exact trivial | refine And.intro rfl ?_)); done))) | (refine And.intro ?_ ?_; (focus (first | omega | (simp -iota; omega) | (simp -iota; done) | decide)))); conv => whnf)
    have e : m.gat s k = none := by simp [MS.gat, h1]
    have e2 : m.gatE s k = 30 := by simp [MS.gatE, h1]
    rw [e2]
    exact ⟨⟨none, e.symm⟩, rfl, rfl⟩
  · (conv => whnf); repeat ((first | (refine And.intro ?_ ?_; (focus ((repeat' (first | exact trivial | refine And.intro rfl ?_)); done))) | (refine And.intro ?_ ?_; (focus (first | omega | (simp -iota; omega) | (simp -iota; done) | decide)))); conv => whnf)
    refine branchB_of (fun h2 => ?_) (fun h2 => ?_)
    · (conv => whnf); repeat ((first | (refine And.intro ?_ ?_; (focus ((repeat' (first | exact trivial | refine And.intro rfl ?_)); done))) | (refine And.intro ?_ ?_; (focus (first | omega | (simp -iota; omega) | (simp -iota; done) | decide)))); conv => whnf)
      have e : m.gat s k = none := by simp only [MS.gat, h1, cond_false, h2, cond_true]
      have e2 : m.gatE s k = m.snapE s := by simp only [MS.gatE, h1, cond_false, h2, cond_true]
      rw [e2]
      exact ⟨⟨none, e.symm⟩, rfl, rfl⟩
    · (conv => whnf); repeat ((first | (refine And.intro ?_ ?_; (focus ((repeat' (first | exact trivial | refine And.intro rfl ?_)); done))) | (refine And.intro ?_ ?_; (focus (first | omega | (simp -iota; omega) | (simp -iota; done) | decide)))); conv => whnf)
      refine AFn.use [0] (at_x m (m.snapV s) k (by omega) hm.n hm.v) (by kernel_rfl) rfl (by repeat' first | exact trivial | refine ⟨rfl, ?_⟩) fun o => ?_
      (conv => whnf); repeat ((first | (refine And.intro ?_ ?_; (focus ((repeat' (first | exact trivial | refine And.intro rfl ?_)); done))) | (refine And.intro ?_ ?_; (focus (first | omega | (simp -iota; omega) | (simp -iota; done) | decide)))); conv => whnf)
      have e : m.gat s k = m.at (m.snapV s) k := by simp only [MS.gat, h1, cond_false, h2]
      have e2 : m.gatE s k = m.atE (m.snapV s) k := by simp only [MS.gatE, h1, cond_false, h2]
      rw [e2]
      obtain ⟨o, ho⟩ := o
      cases o with
      | none => exact ⟨⟨none, by rw [e, ← ho]⟩, rfl, rfl⟩
      | some v => exact ⟨⟨some v, by rw [e, ← ho]⟩, rfl, rfl⟩
theorem clip_in (n : Nat) (hn : n ≤ m.ws.length) (hm : m.ws.length ≤ 1000) : AFn Go.Proofs.Try.prog 87 [.row 1 3 0 n] m.H (fun _ : Unit => .row 1 3 0 n) (fun _ => m.H) := by
  refine ACall.walk (C := cfg 9 3) (cfgOk _ _) [] (fn := Go.Proofs.Try.f87) (by kernel_rfl) (by kernel_rfl) rfl (by kernel_rfl) (by kernel_rfl) rfl rfl ?_
  (conv => whnf); repeat ((first | (refine And.intro ?_ ?_; (focus ((repeat' (first | exact trivial | refine And.intro rfl ?_)); done))) | (refine And.intro ?_ ?_; (focus (first | omega | (simp -iota; omega) | (simp -iota; done) | decide)))); conv => whnf)
  exact ⟨(), by simp, rfl⟩
def MS.cut (m : MS) (n : Nat) : MS := if m.mark ≤ n ∧ n ≤ m.ws.length then { m with ws := m.ws.take n, mark := n } else m
def MS.cutE (m : MS) (n : Nat) : Int := if m.mark ≤ n ∧ n ≤ m.ws.length then 0 else 1
theorem wf_take {ws : List W} {n i : Nat} (h : i < n) : wf (ws.take n) i = wf ws i := by
  unfold wf
  rw [List.getD_eq_getElem?_getD, List.getD_eq_getElem?_getD, List.getElem?_take_of_lt h]
theorem cut_ok (hm : m.Fits) (n : Nat) (hn : n ≤ 18446744073709551615) : AFn Go.Proofs.Try.prog 49 [.ptr 0 0, AV.int .u64 n] (one m.H) (fun _ : Unit => AV.int .i64 (m.cutE n)) (fun _ => one (m.cut n).H) := by
  have hn0 := hm.n
  have hmk := hm.mark
  refine ACall.fin ?_
  refine ACall.walkE (C := cfg 33 1) (cfgOk _ _) [] (fn := Go.Proofs.Try.f49) (by kernel_rfl) (by kernel_rfl) rfl (by kernel_rfl) (by kernel_rfl) rfl rfl (H1 := m.H) (fun _ _ => (HEnt.openOne (m.H) rfl rfl).ent) fun hlen hheap => ?_
  (conv => whnf); repeat ((first | (refine And.intro ?_ ?_; (focus ((repeat' (first | exact trivial | refine And.intro rfl ?_)); done))) | (refine And.intro ?_ ?_; (focus (first | omega | (simp -iota; omega) | (simp -iota; done) | decide)))); conv => whnf)
  refine AFn.use [0, 1, 2] (none_in m) (by kernel_rfl) rfl (by repeat' first | exact trivial | refine ⟨rfl, ?_⟩) fun _ => ?_
  (conv => whnf); repeat ((first | (refine And.intro ?_ ?_; (focus ((repeat' (first | exact trivial | refine And.intro rfl ?_)); done))) | (refine And.intro ?_ ?_; (focus (first | omega | (simp -iota; omega) | (simp -iota; done) | decide)))); conv => whnf)
  have bad : ¬ (m.mark ≤ n ∧ n ≤ m.ws.length) → ∃ r2 H2, Ent 1 1 [(0, AV.int .i64 1)] m.H [(0, r2)] H2 ∧ ∃ x : Unit, r2 = (fun _ => AV.int .i64 (m.cutE n)) x ∧ H2 = (fun _ => one (m.cut n).H) x := fun hb => by
    have e : m.cut n = m := if_neg hb
    have e2 : m.cutE n = 1 := if_neg hb
    rw [e, e2]
    refine ⟨_, _, Ent.shutAt (r2 := AV.int .i64 1) [some 0, some 1, some 2] (m.H) rfl (by kernel_rfl) (AVE.of_eq ?_) ?_ (by kernel_rfl) (by kernel_rfl) (by repeat' first | exact trivial | refine ⟨rfl, ?_⟩) rfl, (), ?_, ?_⟩
    all_goals first | rfl | ((repeat' (first | exact trivial | refine ⟨⟨_, rfl, ChE.refl _⟩, ?_⟩)); done) | (simp [AV.ren, AV.rens, Chunk.ren, sigO]; done) | (simp [AV.ren, AV.rens, Chunk.ren, sigO]; omega)
  refine branchB_of (fun h1 => ?_) (fun h1 => ?_) <;> (first | replace h1 := not_t h1 | replace h1 := not_f h1 | skip) <;> (first | replace h1 := of_decide_eq_true h1 | replace h1 := of_decide_eq_false h1 | skip) <;> (first | replace h1 := Classical.not_not.1 h1 | skip) <;> (try dsimp only at h1)
  · (conv => whnf); repeat ((first | (refine And.intro ?_ ?_; (focus ((repeat' (first | exact trivial | refine And.intro rfl ?_)); done))) | (refine And.intro ?_ ?_; (focus (first | omega | (simp -iota; omega) | (simp -iota; done) | decide)))); conv => whnf)
    exact bad (by omega)
  · (conv => whnf); repeat ((first | (refine And.intro ?_ ?_; (focus ((repeat' (first | exact trivial | refine And.intro rfl ?_)); done))) | (refine And.intro ?_ ?_; (focus (first | omega | (simp -iota; omega) | (simp -iota; done) | decide)))); conv => whnf)
    refine AFn.use [0, 1, 2] (seq_in m hn0) (by kernel_rfl) rfl (by repeat' first | exact trivial | refine ⟨rfl, ?_⟩) fun _ => ?_
    (conv => whnf); repeat ((first | (refine And.intro ?_ ?_; (focus ((repeat' (first | exact trivial | refine And.intro rfl ?_)); done))) | (refine And.intro ?_ ?_; (focus (first | omega | (simp -iota; omega) | (simp -iota; done) | decide)))); conv => whnf)
    refine branchB_of (fun h2 => ?_) (fun h2 => ?_) <;> (first | replace h2 := not_t h2 | replace h2 := not_f h2 | skip) <;> (first | replace h2 := of_decide_eq_true h2 | replace h2 := of_decide_eq_false h2 | skip) <;> (first | replace h2 := Classical.not_not.1 h2 | skip) <;> (try dsimp only at h2)
    · (conv => whnf); repeat ((first | (refine And.intro ?_ ?_; (focus ((repeat' (first | exact trivial | refine And.intro rfl ?_)); done))) | (refine And.intro ?_ ?_; (focus (first | omega | (simp -iota; omega) | (simp -iota; done) | decide)))); conv => whnf)
      exact bad (by omega)
    · (conv => whnf); repeat ((first | (refine And.intro ?_ ?_; (focus ((repeat' (first | exact trivial | refine And.intro rfl ?_)); done))) | (refine And.intro ?_ ?_; (focus (first | omega | (simp -iota; omega) | (simp -iota; done) | decide)))); conv => whnf)
      refine AFn.use [0, 1, 2] (clip_in m n (by omega) hn0) (by kernel_rfl) rfl (by repeat' first | exact trivial | refine ⟨rfl, ?_⟩) fun _ => ?_
      (conv => whnf); repeat ((first | (refine And.intro ?_ ?_; (focus ((repeat' (first | exact trivial | refine And.intro rfl ?_)); done))) | (refine And.intro ?_ ?_; (focus (first | omega | (simp -iota; omega) | (simp -iota; done) | decide)))); conv => whnf)
      have htl : (m.ws.take n).length = n := by simp; omega
      refine ACall.hent (((HEnt.chunk (h := 1) (c := .rowc 104 3 m.ws.length (wf m.ws)) (c' := .rowc 104 3 (m.ws.take n).length (wf (m.ws.take n))) rfl (ChE.row (by omega) fun i hi => (wf_take (by omega)).symm)).trans (HEnt.chunk (h := 0) (c := .cells 101 [.row 1 3 0 n, .mp 2, .int .u64 m.mark]) (c' := .cells 101 [.row 1 3 0 (m.ws.take n).length, .mp 2, .int .u64 m.mark]) rfl (ChE.of_eq (by rw [htl]))))) ?_
      refine AFn.use [0, 1, 2] (sync_in { m with ws := m.ws.take n } (by simp; omega)) (by kernel_rfl) rfl (by repeat' first | exact trivial | refine ⟨rfl, ?_⟩) fun _ => ?_
      refine ⟨_, HEnt.refl _, ?_⟩
      (conv => whnf); repeat ((first | (refine And.intro ?_ ?_; (focus ((repeat' (first | exact trivial | refine And.intro rfl ?_)); done))) | (refine And.intro ?_ ?_; (focus (first | omega | (simp -iota; omega) | (simp -iota; done) | decide)))); conv => whnf)
      have e : m.cut n = { m with ws := m.ws.take n, mark := n } := if_pos (by omega)
      have e2 : m.cutE n = 0 := if_pos (by omega)
      rw [e, e2]
      refine ⟨_, _, Ent.shutAt (r2 := AV.int .i64 0) [some 0, some 1, some 2] (MS.H { m with ws := m.ws.take n, mark := n }) rfl (by kernel_rfl) (AVE.of_eq ?_) ?_ (by kernel_rfl) (by kernel_rfl) (by repeat' first | exact trivial | refine ⟨rfl, ?_⟩) rfl, (), ?_, ?_⟩
      · rfl
      · exact ⟨⟨_, rfl, ChE.of_eq (by simp [Chunk.ren, AV.ren, AV.rens, sigO]; omega)⟩, ⟨_, rfl, ChE.refl _⟩, ⟨_, rfl, ChE.refl _⟩, trivial⟩
      · rfl
      · rfl
theorem keys60_ok (mm : List (MK × IV)) : AFn Go.Proofs.Try.prog 60 [.mp 0] ⟨1, [(0, .map none mm)]⟩ (fun _ : Unit => .fnc (.func 101) [] [.ptr 1 0]) (fun _ => ⟨2, [(0, .map none mm), (1, .cells 99 [.mp 0])]⟩) := by
  refine ACall.walk (C := cfg 4 1) (cfgOk _ _) [] (fn := Go.Proofs.Try.f60) (by kernel_rfl) (by kernel_rfl) rfl (by kernel_rfl) (by kernel_rfl) rfl rfl ?_
  (conv => whnf); repeat ((first | (refine And.intro ?_ ?_; (focus ((repeat' (first | exact trivial | refine And.intro rfl ?_)); done))) | (refine And.intro ?_ ?_; (focus (first | omega | (simp -iota; omega) | (simp -iota; done) | decide)))); conv => whnf)
  exact ⟨(), rfl, rfl⟩
theorem keys58_ok (mm : List (MK × IV)) : AFn Go.Proofs.Try.prog 58 [.mp 0] ⟨1, [(0, .map none mm)]⟩ (fun _ : Unit => .fnc (.func 100) [] [.ptr 1 0]) (fun _ => ⟨2, [(0, .map none mm), (1, .cells 102 [.mp 0])]⟩) := by
  refine ACall.walk (C := cfg 4 1) (cfgOk _ _) [] (fn := Go.Proofs.Try.f58) (by kernel_rfl) (by kernel_rfl) rfl (by kernel_rfl) (by kernel_rfl) rfl rfl ?_
  (conv => whnf); repeat ((first | (refine And.intro ?_ ?_; (focus ((repeat' (first | exact trivial | refine And.intro rfl ?_)); done))) | (refine And.intro ?_ ?_; (focus (first | omega | (simp -iota; omega) | (simp -iota; done) | decide)))); conv => whnf)
  exact ⟨(), rfl, rfl⟩
/-- The snapshots, by their names. -/
def MS.snaps (m : MS) : List (List UInt8 × Nat) := (sortS (m.sn.map (·.1))).map fun k => (k, (sfind m.sn k).getD 0)
def snapF (l : List (List UInt8 × Nat)) (i : Nat) : List IV := [.str (l.getD i ([], 0)).1, .v (.int .u64 (l.getD i ([], 0)).2)]
theorem keys_snm (sn : List (List UInt8 × Nat)) : keysS (snm sn) = sn.map (·.1) := by
  unfold keysS snm
  rw [List.map_map]
  rfl
theorem list_ok (hm : m.Fits) : AFn Go.Proofs.Try.prog 19 [.ptr 0 0] (one m.H) (fun _ : Unit => .iv (.sl 2 m.snaps.length (snapF m.snaps))) (fun _ => one m.H) := by
  have hsn := hm.sn
  have hsl : m.snaps.length = (sortS (m.sn.map (·.1))).length := by simp [MS.snaps]
  have hsl2 : m.snaps.length = m.sn.length := by rw [hsl, sortS_length]; simp
  refine ACall.fin ?_
  refine ACall.walkE (C := cfgF 32 1) (cfgFOk _ _) [] (fn := Go.Proofs.Try.f19) (by kernel_rfl) (by kernel_rfl) rfl (by kernel_rfl) (by kernel_rfl) rfl rfl (H1 := m.H) (fun _ _ => (HEnt.openOne (m.H) rfl rfl).ent) fun hlen hheap => ?_
  (conv => whnf); repeat ((first | (refine And.intro ?_ ?_; (focus ((repeat' (first | exact trivial | refine And.intro rfl ?_)); done))) | (refine And.intro ?_ ?_; (focus (first | omega | (simp -iota; omega) | (simp -iota; done) | decide)))); conv => whnf)
  refine AFn.use [0, 1, 2] (none_in m) (by kernel_rfl) rfl (by repeat' first | exact trivial | refine ⟨rfl, ?_⟩) fun _ => ?_
  (conv => whnf); repeat ((first | (refine And.intro ?_ ?_; (focus ((repeat' (first | exact trivial | refine And.intro rfl ?_)); done))) | (refine And.intro ?_ ?_; (focus (first | omega | (simp -iota; omega) | (simp -iota; done) | decide)))); conv => whnf)
  refine AFn.use [2] (keys60_ok (snm m.sn)) (by kernel_rfl) rfl (by repeat' first | exact trivial | refine ⟨rfl, ?_⟩) fun _ => ?_
  (conv => whnf); repeat ((first | (refine And.intro ?_ ?_; (focus ((repeat' (first | exact trivial | refine And.intro rfl ?_)); done))) | (refine And.intro ?_ ?_; (focus (first | omega | (simp -iota; omega) | (simp -iota; done) | decide)))); conv => whnf)
  refine AFn.use [3, 2] (sorted60 (snm m.sn) (by simp [snm]; omega) (by rw [keys_snm]; intro x hx; obtain ⟨p, hp, rfl⟩ := List.mem_map.1 hx; have := hm.snk p hp; omega)) (by kernel_rfl) rfl (by repeat' first | exact trivial | refine ⟨rfl, ?_⟩) fun _ => ?_
  (conv => whnf); repeat ((first | (refine And.intro ?_ ?_; (focus ((repeat' (first | exact trivial | refine And.intro rfl ?_)); done))) | (refine And.intro ?_ ?_; (focus (first | omega | (simp -iota; omega) | (simp -iota; done) | decide)))); conv => whnf)
  rw [keys_snm]
  have hget : ∀ i, i < m.snaps.length → m.snaps.getD i ([], 0) = ((sortS (m.sn.map (·.1))).getD i [], (sfind m.sn ((sortS (m.sn.map (·.1))).getD i [])).getD 0) := fun i hi => by
    have h1 : i < (sortS (m.sn.map (·.1))).length := by omega
    simp only [MS.snaps, List.getD, List.getElem?_map, List.getElem?_eq_getElem h1, Option.map_some, Option.getD_some]
  refine AWP.loop (X := { i : Nat // i ≤ m.snaps.length }) (fun i => [(0, .ptr 0 0), (3, .row 3 2 0 i.1), (13, .iv (strRow (sortS (m.sn.map (·.1))))), (14, AV.int .i64 m.snaps.length), (15, AV.int .i64 i.1)]) (fun i => ⟨4, m.H.ch ++ [(3, .rowc 42 2 i.1 (snapF m.snaps))]⟩) (fun i => m.snaps.length - i.1) (⟨0, Nat.zero_le _⟩) ?_ fun i => AWP.go (S := []) (cfgFOk _ _) (.of_eq (by kernel_rfl)) ?_
  · refine Ent.mk' [some 0, some 1, some 2, none] (by kernel_rfl) ?_ ?_
    · exact ⟨AVE.refl _, AVE.nil _ _, AVE.refl _, AVE.int (by rw [hsl]), AVE.refl _, trivial⟩
    · exact ⟨⟨_, rfl, ChE.refl _⟩, ⟨_, rfl, ChE.refl _⟩, ⟨_, rfl, ChE.refl _⟩, trivial, trivial⟩
  · obtain ⟨i, hi⟩ := i
    (conv => whnf); repeat ((first | (refine And.intro ?_ ?_; (focus ((repeat' (first | exact trivial | refine And.intro rfl ?_)); done))) | (refine And.intro ?_ ?_; (focus (first | omega | (simp -iota; omega) | (simp -iota; done) | decide)))); conv => whnf)
    refine branchB_of (fun h1 => ?_) (fun h1 => ?_) <;> (first | replace h1 := not_t h1 | replace h1 := not_f h1 | skip) <;> (first | replace h1 := of_decide_eq_true h1 | replace h1 := of_decide_eq_false h1 | skip) <;> (first | replace h1 := Classical.not_not.1 h1 | skip) <;> (try dsimp only at h1)
    · (conv => whnf); repeat ((first | (refine And.intro ?_ ?_; (focus ((repeat' (first | exact trivial | refine And.intro rfl ?_)); done))) | (refine And.intro ?_ ?_; (focus (first | omega | (simp -iota; omega) | (simp -iota; done) | decide)))); conv => whnf)
      rw [mfind_snm]
      refine ⟨fun x hx => ?_, fun hx => ?_⟩
      · simp only [Option.map_eq_some_iff] at hx
        obtain ⟨n, hn, rfl⟩ := hx
        (conv => whnf); repeat ((first | (refine And.intro ?_ ?_; (focus ((repeat' (first | exact trivial | refine And.intro rfl ?_)); done))) | (refine And.intro ?_ ?_; (focus (first | omega | (simp -iota; omega) | (simp -iota; done) | decide)))); conv => whnf)
        refine ⟨⟨i + 1, by omega⟩, Ent.mk' [some 0, some 1, some 2, some 4] (by kernel_rfl) (by repeat' first | exact trivial | refine And.intro (AVE.refl _) ?_ | refine And.intro (AVE.int (by first | rfl | omega | (simp -iota; omega) | (simp -iota; done))) ?_ | refine And.intro (AVE.bool (by assumption)) ?_ | refine And.intro (AVE.len (by first | rfl | omega | (simp -iota; omega) | (simp -iota; done))) ?_) ?_, ?_⟩
        · exact ⟨⟨_, rfl, ChE.refl _⟩, ⟨_, rfl, ChE.refl _⟩, ⟨_, rfl, ChE.refl _⟩, ⟨_, rfl, ChE.push (fun _ _ => rfl) (by simp only [snapF]; rw [hget i (by omega)]; simp only [Int.toNat_natCast] at hn ⊢; rw [hn]; exact IVEs.refl _)⟩, trivial⟩
        · show m.snaps.length - (i + 1) < m.snaps.length - i
          omega
      · simp only [Option.map_eq_none_iff] at hx
        (conv => whnf); repeat ((first | (refine And.intro ?_ ?_; (focus ((repeat' (first | exact trivial | refine And.intro rfl ?_)); done))) | (refine And.intro ?_ ?_; (focus (first | omega | (simp -iota; omega) | (simp -iota; done) | decide)))); conv => whnf)
        refine ⟨⟨i + 1, by omega⟩, Ent.mk' [some 0, some 1, some 2, some 4] (by kernel_rfl) (by repeat' first | exact trivial | refine And.intro (AVE.refl _) ?_ | refine And.intro (AVE.int (by first | rfl | omega | (simp -iota; omega) | (simp -iota; done))) ?_ | refine And.intro (AVE.bool (by assumption)) ?_ | refine And.intro (AVE.len (by first | rfl | omega | (simp -iota; omega) | (simp -iota; done))) ?_) ?_, ?_⟩
        · exact ⟨⟨_, rfl, ChE.refl _⟩, ⟨_, rfl, ChE.refl _⟩, ⟨_, rfl, ChE.refl _⟩, ⟨_, rfl, ChE.push (fun _ _ => rfl) (by simp only [snapF]; rw [hget i (by omega)]; simp only [Int.toNat_natCast] at hx ⊢; rw [hx]; exact IVEs.refl _)⟩, trivial⟩
        · show m.snaps.length - (i + 1) < m.snaps.length - i
          omega
    · (conv => whnf); repeat ((first | (refine And.intro ?_ ?_; (focus ((repeat' (first | exact trivial | refine And.intro rfl ?_)); done))) | (refine And.intro ?_ ?_; (focus (first | omega | (simp -iota; omega) | (simp -iota; done) | decide)))); conv => whnf)
      have hi' : i = m.snaps.length := by omega
      subst hi'
      refine ⟨_, _, (Ent.freeze 3 _ rfl rfl (e' := [(0, .iv (.sl 2 m.snaps.length (snapF m.snaps)))]) ?_).trans (Ent.shutAt (r2 := .iv (.sl 2 m.snaps.length (snapF m.snaps))) [some 0, some 1, some 2] (m.H) rfl (by kernel_rfl) (AVE.of_eq ?_) ?_ (by kernel_rfl) (by kernel_rfl) (by repeat' first | exact trivial | refine ⟨rfl, ?_⟩) rfl), (), ?_, ?_⟩
      · exact ⟨AVF.sl (Nat.le_refl _), trivial⟩
      all_goals first | rfl | ((repeat' (first | exact trivial | refine ⟨⟨_, rfl, ChE.refl _⟩, ?_⟩)); done) | (simp [AV.ren, AV.rens, Chunk.ren, sigO]; done) | (simp [AV.ren, AV.rens, Chunk.ren, sigO]; omega)
end
end Go.Proofs.Ytaoambbfjdijjaa.Ax
