/-
  Chapter 26: the model's small functions.
-/
import Derived.Test.YtaoambbfjdijjaaAxZb
import Derived.Test.YtaoambbfjdijjaaTT26
import Derived.Test.YtaoambbfjdijjaaSch26
namespace Go.Proofs.Ytaoambbfjdijjaa.Ax
open Go.RowKit
set_option maxRecDepth 100000
noncomputable def cfg (N b : Nat) : Cfg := { P := Go.Proofs.Try.prog, T := tt, wr := false, N := N, pure := [14, 15, 56, 59, 62, 64, 86, 102], base := b }
theorem cfgOk (N b : Nat) : (cfg N b).Ok := ⟨ttOk, ttBytes, by kernel_rfl⟩
/-- New rows are written no more. -/
noncomputable def cfgF (N b : Nat) : Cfg := { P := Go.Proofs.Try.prog, T := tt, wr := false, N := N, pure := [14, 15, 56, 59, 62, 64, 86, 102], base := b, frz := fun op => match op with | .buildSlice .. => true | .convert .. => true | .box .. => true | _ => false }
theorem cfgFOk (N b : Nat) : (cfgF N b).Ok := ⟨ttOk, ttBytes, by kernel_rfl⟩
/-- A write: a key's value, or that it is gone. -/
structure W where
  k : List UInt8
  v : List UInt8
  gone : Bool
def wc (x : W) : List IV := [.bs x.k, .bs x.v, .v (.bool x.gone)]
def wf (ws : List W) (i : Nat) : List IV := wc (ws.getD i ⟨[], [], true⟩)
def snm (sn : List (List UInt8 × Nat)) : List (MK × IV) := sn.map fun p => (MK.s p.1, IV.v (.int .u64 p.2))
/-- A model. -/
structure MS where
  ws : List W
  sn : List (List UInt8 × Nat)
  mark : Nat
/-- A model in memory: the struct, its writes, its snapshots. -/
@[reducible] def MS.H (m : MS) : AH :=
  ⟨3, [(0, .cells 101 [.row 1 3 0 m.ws.length, .mp 2, .int .u64 m.mark]), (1, .rowc 104 3 m.ws.length (wf m.ws)), (2, .map none (snm m.sn))]⟩
def sfind (sn : List (List UInt8 × Nat)) (s : List UInt8) : Option Nat := (sn.find? fun p => decide (p.1 = s)).map (·.2)
def sput (sn : List (List UInt8 × Nat)) (s : List UInt8) (n : Nat) : List (List UInt8 × Nat) := match sn with
  | [] => [(s, n)]
  | p :: ps => if p.1 = s then (s, n) :: ps else p :: sput ps s n
def sdel (sn : List (List UInt8 × Nat)) (s : List UInt8) : List (List UInt8 × Nat) := sn.filter fun p => decide (p.1 ≠ s)
theorem mfind_snm (sn : List (List UInt8 × Nat)) (s : List UInt8) : mfind (snm sn) (.s s) = (sfind sn s).map fun (n : Nat) => IV.v (.int .u64 n) := by
  unfold mfind sfind snm
  rw [List.find?_map]
  have : ((fun p : MK × IV => decide (p.1 = MK.s s)) ∘ fun p : List UInt8 × Nat => (MK.s p.1, IV.v (.int .u64 p.2))) = fun p => decide (p.1 = s) := by
    funext p; simp
  rw [this]
  cases sn.find? fun p => decide (p.1 = s) <;> rfl
theorem mput_snm (s : List UInt8) (n : Nat) : ∀ sn : List (List UInt8 × Nat), mput (snm sn) (.s s) (IV.v (.int .u64 n)) = snm (sput sn s n)
  | [] => rfl
  | p :: ps => by
    have ih := mput_snm s n ps
    unfold snm at ih ⊢
    simp only [List.map_cons, mput, sput, MK.s.injEq]
    by_cases h : p.1 = s
    · simp only [h, if_true, List.map_cons]
    · simp only [h, if_false, List.map_cons, ih]
theorem mdel_snm (sn : List (List UInt8 × Nat)) (s : List UInt8) : mdel (snm sn) (.s s) = snm (sdel sn s) := by
  unfold mdel sdel snm
  rw [List.filter_map]
  congr 2
  funext p
  simp
theorem wf_push {ws : List W} {w : W} {i : Nat} (h : i < (ws ++ [w]).length) : wf (ws ++ [w]) i = if i < ws.length then wf ws i else wc w := by
  unfold wf
  split
  · rename_i h1; rw [List.getD_eq_getElem?_getD, List.getD_eq_getElem?_getD, List.getElem?_append_left h1]
  · rename_i h1
    have : i = ws.length := by simp at h; omega
    subst this
    simp
/-! What the methods do. -/
def okK (k : List UInt8) : Bool := decide (1 ≤ k.length ∧ k.length ≤ 64)
def okN (k : List UInt8) : Bool := decide (1 ≤ k.length ∧ k.length ≤ 32)
def okV (k : List UInt8) : Bool := decide (k.length ≤ 1024)
def MS.put (m : MS) (k v : List UInt8) : MS := if okK k && okV v then { m with ws := m.ws ++ [⟨k, v, false⟩] } else m
def putE (k v : List UInt8) : Int := bif !okK k then 30 else bif !okV v then 31 else 0
def MS.del (m : MS) (k : List UInt8) : MS := if okK k then { m with ws := m.ws ++ [⟨k, [], true⟩] } else m
def delE (k : List UInt8) : Int := bif !okK k then 30 else 0
/-- The last write of a key below a number. -/
def lastW (ws : List W) (k : List UInt8) : Nat → Option W
  | 0 => none
  | n + 1 => match ws[n]? with
    | some w => if w.k = k then some w else lastW ws k n
    | none => lastW ws k n
def liveW (o : Option W) : Option (List UInt8) := match o with
  | some w => bif w.gone then none else some w.v
  | none => none
def MS.at (m : MS) (s : Nat) (k : List UInt8) : Option (List UInt8) := bif okK k then liveW (lastW m.ws k (min s m.ws.length)) else none
def MS.atE (m : MS) (s : Nat) (k : List UInt8) : Int := bif !okK k then 30 else bif (m.at s k).isSome then 0 else 6
def nb : Option (List UInt8) → AV
  | none => .nilSl
  | some v => .iv (.bs v)
def MS.snapV (m : MS) (s : List UInt8) : Nat := bif okN s then (sfind m.sn s).getD 0 else 0
def MS.snapE (m : MS) (s : List UInt8) : Int := bif !okN s then 32 else bif (sfind m.sn s).isSome then 0 else 33
theorem may_ok (l : List UInt8) : AFn Go.Proofs.Try.prog 62 [.iv (.bs l)] ⟨0, []⟩ (fun _ : Unit => AV.bool (okK l)) (fun _ => ⟨0, []⟩) := by
  refine ACall.walk (C := cfg 11 0) (cfgOk _ _) [] (fn := Go.Proofs.Try.f62) (by kernel_rfl) (by kernel_rfl) rfl (by kernel_rfl) (by kernel_rfl) rfl rfl ?_
  conv => whnf
  refine branchB_of (fun h => ?_) (fun h => ?_)
  · conv => whnf
    refine ⟨(), ?_, rfl⟩
    simp only [decide_eq_true_eq] at h
    congr 3
    exact decide_eq_decide.2 (by omega)
  · conv => whnf
    refine ⟨(), ?_, rfl⟩
    simp only [decide_eq_false_iff_not] at h
    congr 3
    exact (decide_eq_false (by omega)).symm
theorem mayValue_ok (l : List UInt8) : AFn Go.Proofs.Try.prog 86 [.iv (.bs l)] ⟨0, []⟩ (fun _ : Unit => AV.bool (okV l)) (fun _ => ⟨0, []⟩) := by
  refine ACall.walk (C := cfg 6 0) (cfgOk _ _) [] (fn := Go.Proofs.Try.f86) (by kernel_rfl) (by kernel_rfl) rfl (by kernel_rfl) (by kernel_rfl) rfl rfl ?_
  conv => whnf
  refine ⟨(), ?_, rfl⟩
  congr 3
  exact decide_eq_decide.2 (by omega)
theorem mayName_ok (l : List UInt8) : AFn Go.Proofs.Try.prog 102 [.str l] ⟨0, []⟩ (fun _ : Unit => AV.bool (okN l)) (fun _ => ⟨0, []⟩) := by
  refine ACall.walk (C := cfg 11 0) (cfgOk _ _) [] (fn := Go.Proofs.Try.f102) (by kernel_rfl) (by kernel_rfl) rfl (by kernel_rfl) (by kernel_rfl) rfl rfl ?_
  conv => whnf
  refine branchB_of (fun h => ?_) (fun h => ?_)
  · conv => whnf
    refine ⟨(), ?_, rfl⟩
    simp only [decide_eq_true_eq] at h
    congr 3
    exact decide_eq_decide.2 (by omega)
  · conv => whnf
    refine ⟨(), ?_, rfl⟩
    simp only [decide_eq_false_iff_not] at h
    congr 3
    exact (decide_eq_false (by omega)).symm
theorem equal_ok (a b : List UInt8) : AFn Go.Proofs.Try.prog 64 [.iv (.bs a), .iv (.bs b)] ⟨0, []⟩ (fun _ : Unit => AV.bool (decide (a = b))) (fun _ => ⟨0, []⟩) := by
  refine ACall.walk (C := cfg 10 0) (cfgOk _ _) [] (fn := Go.Proofs.Try.f64) (by kernel_rfl) (by kernel_rfl) rfl (by kernel_rfl) (by kernel_rfl) rfl rfl ?_
  conv => whnf
  exact ⟨(), rfl, rfl⟩
theorem clone_ok (l : List UInt8) (hl : l.length ≤ 140737488355328) : AFn Go.Proofs.Try.prog 59 [.iv (.bs l)] ⟨0, []⟩ (fun _ : Unit => .iv (.bs l)) (fun _ => ⟨0, []⟩) := by
  refine ACall.fin ?_
  refine ACall.walk (C := cfg 8 0) (cfgOk _ _) [] (fn := Go.Proofs.Try.f59) (by kernel_rfl) (by kernel_rfl) rfl (by kernel_rfl) (by kernel_rfl) rfl rfl ?_
  conv => whnf
  cases l with
  | nil =>
    conv => whnf
    refine ⟨?_, ?_⟩
    · conv => whnf
      exact ⟨AV.iv (IV.bs []), ⟨0, []⟩, Ent.mk' [] (by kernel_rfl) ⟨AVE.nilBs, trivial⟩ trivial, (), rfl, rfl⟩
    · conv => whnf
      refine And.intro (by first | omega | (simp -iota; omega) | (simp -iota; done) | decide) ?_
      conv => whnf
      refine And.intro (by first | omega | (simp -iota; omega) | (simp -iota; done) | decide) ?_
      conv => whnf
      exact ⟨.iv (.bs []), ⟨0, []⟩, (Ent.freeze 1 _ rfl rfl (e' := [(0, .iv (.bs []))]) ⟨AVF.bs (by simp) (by simp), trivial⟩).trans (Ent.mk' [] (by kernel_rfl) ⟨AVE.refl _, trivial⟩ trivial), (), rfl, rfl⟩
  | cons x xs =>
    conv => whnf
    refine And.intro (by first | omega | (simp -iota; omega) | (simp -iota; done) | decide) ?_
    conv => whnf
    refine And.intro (by first | omega | (simp -iota; omega) | (simp -iota; done) | decide) ?_
    conv => whnf
    exact ⟨.iv (.bs (x :: xs)), ⟨0, []⟩, (Ent.freeze 1 _ rfl rfl (e' := [(0, .iv (.bs (x :: xs)))]) ⟨AVF.bs (by simp) (by simp), trivial⟩).trans (Ent.mk' [] (by kernel_rfl) ⟨AVE.refl _, trivial⟩ trivial), (), rfl, rfl⟩
section
variable (m : MS)
theorem none_in : AFn Go.Proofs.Try.prog 56 [.ptr 0 0] m.H (fun _ : Unit => AV.bool false) (fun _ => m.H) := by
  refine ACall.walk (C := cfg 12 3) (cfgOk _ _) [] (fn := Go.Proofs.Try.f56) (by kernel_rfl) (by kernel_rfl) rfl (by kernel_rfl) (by kernel_rfl) rfl rfl ?_
  conv => whnf
  exact ⟨(), rfl, rfl⟩
theorem seq_in (hn : m.ws.length ≤ 1000) : AFn Go.Proofs.Try.prog 14 [.ptr 0 0] m.H (fun _ : Unit => AV.int .u64 m.ws.length) (fun _ => m.H) := by
  refine ACall.walk (C := cfg 11 3) (cfgOk _ _) [] (fn := Go.Proofs.Try.f14) (by kernel_rfl) (by kernel_rfl) rfl (by kernel_rfl) (by kernel_rfl) rfl rfl ?_
  conv => whnf
  refine AFn.use [0, 1, 2] (none_in m) (by kernel_rfl) rfl (by repeat' first | exact trivial | refine ⟨rfl, ?_⟩) fun _ => ?_
  conv => whnf
  refine And.intro (by first | omega | (simp -iota; omega) | (simp -iota; done) | decide) ?_
  conv => whnf
  refine And.intro (by first | omega | (simp -iota; omega) | (simp -iota; done) | decide) ?_
  conv => whnf
  exact ⟨(), rfl, rfl⟩
theorem mark_in : AFn Go.Proofs.Try.prog 15 [.ptr 0 0] m.H (fun _ : Unit => AV.int .u64 m.mark) (fun _ => m.H) := by
  refine ACall.walk (C := cfg 9 3) (cfgOk _ _) [] (fn := Go.Proofs.Try.f15) (by kernel_rfl) (by kernel_rfl) rfl (by kernel_rfl) (by kernel_rfl) rfl rfl ?_
  conv => whnf
  refine AFn.use [0, 1, 2] (none_in m) (by kernel_rfl) rfl (by repeat' first | exact trivial | refine ⟨rfl, ?_⟩) fun _ => ?_
  conv => whnf
  exact ⟨(), rfl, rfl⟩
theorem sync_in (hn : m.ws.length ≤ 1000) : AFn Go.Proofs.Try.prog 55 [.ptr 0 0] m.H (fun _ : Unit => AV.int .i64 0) (fun _ => { m with mark := m.ws.length }.H) := by
  refine ACall.walk (C := cfg 10 3) (cfgOk _ _) [] (fn := Go.Proofs.Try.f55) (by kernel_rfl) (by kernel_rfl) rfl (by kernel_rfl) (by kernel_rfl) rfl rfl ?_
  conv => whnf
  refine AFn.use [0, 1, 2] (none_in m) (by kernel_rfl) rfl (by repeat' first | exact trivial | refine ⟨rfl, ?_⟩) fun _ => ?_
  conv => whnf
  refine AFn.use [0, 1, 2] (seq_in m hn) (by kernel_rfl) rfl (by repeat' first | exact trivial | refine ⟨rfl, ?_⟩) fun _ => ?_
  conv => whnf
  exact ⟨(), rfl, rfl⟩
theorem snap_in (s : List UInt8) : AFn Go.Proofs.Try.prog 61 [.ptr 0 0, .str s] m.H (fun _ : Unit => .tup [AV.int .u64 (m.snapV s), AV.int .i64 (m.snapE s)]) (fun _ => m.H) := by
  refine ACall.walk (C := cfg 27 3) (cfgOk _ _) [] (fn := Go.Proofs.Try.f61) (by kernel_rfl) (by kernel_rfl) rfl (by kernel_rfl) (by kernel_rfl) rfl rfl ?_
  conv => whnf
  refine AFn.use [0, 1, 2] (none_in m) (by kernel_rfl) rfl (by repeat' first | exact trivial | refine ⟨rfl, ?_⟩) fun _ => ?_
  conv => whnf
  rw [mfind_snm]
  refine ⟨fun x hx => ?_, fun hx => ?_⟩
  · simp only [Option.map_eq_some_iff] at hx
    obtain ⟨n, hn, rfl⟩ := hx
    conv => whnf
    refine AFn.use [] (mayName_ok s) (by kernel_rfl) rfl (by repeat' first | exact trivial | refine ⟨rfl, ?_⟩) fun _ => ?_
    conv => whnf
    refine branchB_of (fun h => ?_) (fun h => ?_)
    · conv => whnf
      exact ⟨(), by simp [MS.snapV, MS.snapE, not_t h], rfl⟩
    · conv => whnf
      exact ⟨(), by simp [MS.snapV, MS.snapE, not_f h, hn], rfl⟩
  · simp only [Option.map_eq_none_iff] at hx
    conv => whnf
    refine AFn.use [] (mayName_ok s) (by kernel_rfl) rfl (by repeat' first | exact trivial | refine ⟨rfl, ?_⟩) fun _ => ?_
    conv => whnf
    refine branchB_of (fun h => ?_) (fun h => ?_)
    · conv => whnf
      exact ⟨(), by simp [MS.snapV, MS.snapE, not_t h], rfl⟩
    · conv => whnf
      exact ⟨(), by simp [MS.snapV, MS.snapE, not_f h, hx], rfl⟩
/-! From outside: the model is one object. -/
theorem none_ok : AFn Go.Proofs.Try.prog 56 [.ptr 0 0] (one m.H) (fun _ : Unit => AV.bool false) (fun _ => one m.H) := AFn.shut (none_in m) rfl rfl (fun _ => ⟨by kernel_rfl, by kernel_rfl⟩) (fun _ => (by repeat' first | exact trivial | refine ⟨rfl, ?_⟩)) (fun _ => rfl)
theorem seq_ok (hn : m.ws.length ≤ 1000) : AFn Go.Proofs.Try.prog 14 [.ptr 0 0] (one m.H) (fun _ : Unit => AV.int .u64 m.ws.length) (fun _ => one m.H) := AFn.shut (seq_in m hn) rfl rfl (fun _ => ⟨by kernel_rfl, by kernel_rfl⟩) (fun _ => (by repeat' first | exact trivial | refine ⟨rfl, ?_⟩)) (fun _ => rfl)
theorem mark_ok : AFn Go.Proofs.Try.prog 15 [.ptr 0 0] (one m.H) (fun _ : Unit => AV.int .u64 m.mark) (fun _ => one m.H) := AFn.shut (mark_in m) rfl rfl (fun _ => ⟨by kernel_rfl, by kernel_rfl⟩) (fun _ => (by repeat' first | exact trivial | refine ⟨rfl, ?_⟩)) (fun _ => rfl)
theorem sync_ok (hn : m.ws.length ≤ 1000) : AFn Go.Proofs.Try.prog 55 [.ptr 0 0] (one m.H) (fun _ : Unit => AV.int .i64 0) (fun _ => one { m with mark := m.ws.length }.H) := AFn.shut (sync_in m hn) rfl rfl (fun _ => ⟨by kernel_rfl, by kernel_rfl⟩) (fun _ => (by repeat' first | exact trivial | refine ⟨rfl, ?_⟩)) (fun _ => rfl)
theorem snap_ok (s : List UInt8) : AFn Go.Proofs.Try.prog 61 [.ptr 0 0, .str s] (one m.H) (fun _ : Unit => .tup [AV.int .u64 (m.snapV s), AV.int .i64 (m.snapE s)]) (fun _ => one m.H) := AFn.shut (snap_in m s) rfl rfl (fun _ => ⟨by kernel_rfl, by kernel_rfl⟩) (fun _ => (by repeat' first | exact trivial | refine ⟨rfl, ?_⟩)) (fun _ => rfl)
theorem put_ok (k v : List UInt8) (hn : m.ws.length ≤ 1000) : AFn Go.Proofs.Try.prog 46 [.ptr 0 0, .iv (.bs k), .iv (.bs v)] (one m.H) (fun _ : Unit => AV.int .i64 (putE k v)) (fun _ => one (m.put k v).H) := by
  refine ACall.fin ?_
  refine ACall.walkE (C := cfgF 32 1) (cfgFOk _ _) sch46 (fn := Go.Proofs.Try.f46) (by kernel_rfl) (by kernel_rfl) rfl (by kernel_rfl) (by kernel_rfl) rfl rfl (H1 := m.H) (fun _ _ => (HEnt.openOne (m.H) rfl rfl).ent) fun hlen hheap => ?_
  conv => whnf
  refine AFn.use [0, 1, 2] (none_in m) (by kernel_rfl) rfl (by repeat' first | exact trivial | refine ⟨rfl, ?_⟩) fun _ => ?_
  conv => whnf
  refine AFn.use [] (may_ok k) (by kernel_rfl) rfl (by repeat' first | exact trivial | refine ⟨rfl, ?_⟩) fun _ => ?_
  conv => whnf
  refine branchB_of (fun h1 => ?_) (fun h1 => ?_)
  · conv => whnf
    have h1' := not_t h1
    have e : m.put k v = m := by simp [MS.put, h1']
    have e2 : putE k v = 30 := by simp [putE, h1']
    rw [e, e2]
    refine ⟨_, _, Ent.shutAt (r2 := AV.int .i64 30) [some 0, some 1, some 2] (m.H) rfl (by kernel_rfl) (AVE.of_eq ?_) ?_ (by kernel_rfl) (by kernel_rfl) (by repeat' first | exact trivial | refine ⟨rfl, ?_⟩) rfl, (), ?_, ?_⟩
    all_goals first | rfl | (repeat' first | exact trivial | refine ⟨⟨_, rfl, ChE.refl _⟩, ?_⟩)
  · conv => whnf
    have h1' := not_f h1
    refine AFn.use [] (mayValue_ok v) (by kernel_rfl) rfl (by repeat' first | exact trivial | refine ⟨rfl, ?_⟩) fun _ => ?_
    conv => whnf
    refine branchB_of (fun h2 => ?_) (fun h2 => ?_)
    · conv => whnf
      have h2' := not_t h2
      have e : m.put k v = m := by simp [MS.put, h2']
      have e2 : putE k v = 31 := by simp [putE, h1', h2']
      rw [e, e2]
      refine ⟨_, _, Ent.shutAt (r2 := AV.int .i64 31) [some 0, some 1, some 2] (m.H) rfl (by kernel_rfl) (AVE.of_eq ?_) ?_ (by kernel_rfl) (by kernel_rfl) (by repeat' first | exact trivial | refine ⟨rfl, ?_⟩) rfl, (), ?_, ?_⟩
      all_goals first | rfl | (repeat' first | exact trivial | refine ⟨⟨_, rfl, ChE.refl _⟩, ?_⟩)
    · have h2' := not_f h2
      have hk : k.length ≤ 64 := by simp [okK] at h1'; omega
      have hv : v.length ≤ 1024 := by simpa [okV] using h2'
      conv => whnf
      refine AFn.use [] (clone_ok k (by omega)) (by kernel_rfl) rfl (by repeat' first | exact trivial | refine ⟨rfl, ?_⟩) fun _ => ?_
      (conv => whnf); repeat ((first | (refine And.intro ?_ ?_; (focus ((repeat' (first | exact trivial | refine And.intro rfl ?_)); done))) | (refine And.intro ?_ ?_; (focus (first | omega | (simp -iota; omega) | (simp -iota; done) | decide)))); conv => whnf)
      refine AFn.use [] (clone_ok v (by omega)) (by kernel_rfl) rfl (by repeat' first | exact trivial | refine ⟨rfl, ?_⟩) fun _ => ?_
      (conv => whnf); repeat ((first | (refine And.intro ?_ ?_; (focus ((repeat' (first | exact trivial | refine And.intro rfl ?_)); done))) | (refine And.intro ?_ ?_; (focus (first | omega | (simp -iota; omega) | (simp -iota; done) | decide)))); conv => whnf)
      have e : m.put k v = { m with ws := m.ws ++ [⟨k, v, false⟩] } := by simp [MS.put, h1', h2']
      have e2 : putE k v = 0 := by simp [putE, h1', h2']
      rw [e, e2]
      refine ⟨_, _, Ent.shutAt (r2 := AV.int .i64 0) [some 0, some 3, some 2] (MS.H { m with ws := m.ws ++ [⟨k, v, false⟩] }) rfl (by kernel_rfl) (AVE.of_eq ?_) ?_ (by kernel_rfl) (by kernel_rfl) (by repeat' first | exact trivial | refine ⟨rfl, ?_⟩) rfl, (), ?_, ?_⟩
      · rfl
      · exact ⟨⟨_, rfl, ChE.of_eq (by simp [Chunk.ren, AV.rens, AV.ren, sigO])⟩, ⟨_, rfl, ChE.row (by simp) fun i hi => (wf_push hi).symm⟩, ⟨_, rfl, ChE.refl _⟩, trivial⟩
      · rfl
      · rfl
theorem del_ok (k : List UInt8) (hn : m.ws.length ≤ 1000) : AFn Go.Proofs.Try.prog 24 [.ptr 0 0, .iv (.bs k)] (one m.H) (fun _ : Unit => AV.int .i64 (delE k)) (fun _ => one (m.del k).H) := by
  refine ACall.fin ?_
  refine ACall.walkE (C := cfgF 24 1) (cfgFOk _ _) sch24 (fn := Go.Proofs.Try.f24) (by kernel_rfl) (by kernel_rfl) rfl (by kernel_rfl) (by kernel_rfl) rfl rfl (H1 := m.H) (fun _ _ => (HEnt.openOne (m.H) rfl rfl).ent) fun hlen hheap => ?_
  (conv => whnf); repeat ((first | (refine And.intro ?_ ?_; (focus ((repeat' (first | exact trivial | refine And.intro rfl ?_)); done))) | (refine And.intro ?_ ?_; (focus (first | omega | (simp -iota; omega) | (simp -iota; done) | decide)))); conv => whnf)
  refine AFn.use [0, 1, 2] (none_in m) (by kernel_rfl) rfl (by repeat' first | exact trivial | refine ⟨rfl, ?_⟩) fun _ => ?_
  (conv => whnf); repeat ((first | (refine And.intro ?_ ?_; (focus ((repeat' (first | exact trivial | refine And.intro rfl ?_)); done))) | (refine And.intro ?_ ?_; (focus (first | omega | (simp -iota; omega) | (simp -iota; done) | decide)))); conv => whnf)
  refine AFn.use [] (may_ok k) (by kernel_rfl) rfl (by repeat' first | exact trivial | refine ⟨rfl, ?_⟩) fun _ => ?_
  (conv => whnf); repeat ((first | (refine And.intro ?_ ?_; (focus ((repeat' (first | exact trivial | refine And.intro rfl ?_)); done))) | (refine And.intro ?_ ?_; (focus (first | omega | (simp -iota; omega) | (simp -iota; done) | decide)))); conv => whnf)
  refine branchB_of (fun h1 => ?_) (fun h1 => ?_)
  · (conv => whnf); repeat ((first | (refine And.intro ?_ ?_; (focus ((repeat' (first | exact trivial | refine And.intro rfl ?_)); done))) | (refine And.intro ?_ ?_; (focus (first | omega | (simp -iota; omega) | (simp -iota; done) | decide)))); conv => whnf)
    have h1' := not_t h1
    have e : m.del k = m := by simp [MS.del, h1']
    have e2 : delE k = 30 := by simp [delE, h1']
    rw [e, e2]
    refine ⟨_, _, Ent.shutAt (r2 := AV.int .i64 30) [some 0, some 1, some 2] (m.H) rfl (by kernel_rfl) (AVE.of_eq ?_) ?_ (by kernel_rfl) (by kernel_rfl) (by repeat' first | exact trivial | refine ⟨rfl, ?_⟩) rfl, (), ?_, ?_⟩
    all_goals first | rfl | (repeat' first | exact trivial | refine ⟨⟨_, rfl, ChE.refl _⟩, ?_⟩)
  · have h1' := not_f h1
    have hk : k.length ≤ 64 := by simp [okK] at h1'; omega
    (conv => whnf); repeat ((first | (refine And.intro ?_ ?_; (focus ((repeat' (first | exact trivial | refine And.intro rfl ?_)); done))) | (refine And.intro ?_ ?_; (focus (first | omega | (simp -iota; omega) | (simp -iota; done) | decide)))); conv => whnf)
    refine AFn.use [] (clone_ok k (by omega)) (by kernel_rfl) rfl (by repeat' first | exact trivial | refine ⟨rfl, ?_⟩) fun _ => ?_
    (conv => whnf); repeat ((first | (refine And.intro ?_ ?_; (focus ((repeat' (first | exact trivial | refine And.intro rfl ?_)); done))) | (refine And.intro ?_ ?_; (focus (first | omega | (simp -iota; omega) | (simp -iota; done) | decide)))); conv => whnf)
    have e : m.del k = { m with ws := m.ws ++ [⟨k, [], true⟩] } := by simp [MS.del, h1']
    have e2 : delE k = 0 := by simp [delE, h1']
    rw [e, e2]
    refine ⟨_, _, Ent.shutAt (r2 := AV.int .i64 0) [some 0, some 3, some 2] (MS.H { m with ws := m.ws ++ [⟨k, [], true⟩] }) rfl (by kernel_rfl) (AVE.of_eq ?_) ?_ (by kernel_rfl) (by kernel_rfl) (by repeat' first | exact trivial | refine ⟨rfl, ?_⟩) rfl, (), ?_, ?_⟩
    · rfl
    · exact ⟨⟨_, rfl, ChE.of_eq (by simp [Chunk.ren, AV.rens, AV.ren, sigO])⟩, ⟨_, rfl, ChE.rowE (by simp) fun i hi => by
      rw [wf_push hi]
      by_cases h : i < m.ws.length
      · rw [if_pos h, if_pos h]; exact IVEs.refl _
      · rw [if_neg h, if_neg h]; exact ⟨IVE.refl _, IVE.nilBs, IVE.refl _, rfl⟩⟩, ⟨_, rfl, ChE.refl _⟩, trivial⟩
    · rfl
    · rfl
def MS.create (m : MS) (s : List UInt8) : MS := if okN s ∧ sfind m.sn s = none ∧ m.sn.length < 16 then { m with sn := sput m.sn s m.ws.length, mark := m.ws.length } else m
def MS.createE (m : MS) (s : List UInt8) : Int := bif !okN s then 32 else bif (sfind m.sn s).isSome then 34 else bif decide (m.sn.length ≥ 16) then 39 else 0
def MS.drop (m : MS) (s : List UInt8) : MS := if okN s ∧ (sfind m.sn s).isSome then { m with sn := sdel m.sn s } else m
def MS.dropE (m : MS) (s : List UInt8) : Int := m.snapE s
theorem drop_ok (s : List UInt8) : AFn Go.Proofs.Try.prog 48 [.ptr 0 0, .str s] (one m.H) (fun _ : Unit => AV.int .i64 (m.dropE s)) (fun _ => one (m.drop s).H) := by
  refine ACall.fin ?_
  refine ACall.walkE (C := cfg 21 1) (cfgOk _ _) [] (fn := Go.Proofs.Try.f48) (by kernel_rfl) (by kernel_rfl) rfl (by kernel_rfl) (by kernel_rfl) rfl rfl (H1 := m.H) (fun _ _ => (HEnt.openOne (m.H) rfl rfl).ent) fun hlen hheap => ?_
  (conv => whnf); repeat ((first | (refine And.intro ?_ ?_; (focus ((repeat' (first | exact trivial | refine And.intro rfl ?_)); done))) | (refine And.intro ?_ ?_; (focus (first | omega | (simp -iota; omega) | (simp -iota; done) | decide)))); conv => whnf)
  refine AFn.use [0, 1, 2] (snap_in m s) (by kernel_rfl) rfl (by repeat' first | exact trivial | refine ⟨rfl, ?_⟩) fun _ => ?_
  (conv => whnf); repeat ((first | (refine And.intro ?_ ?_; (focus ((repeat' (first | exact trivial | refine And.intro rfl ?_)); done))) | (refine And.intro ?_ ?_; (focus (first | omega | (simp -iota; omega) | (simp -iota; done) | decide)))); conv => whnf)
  refine branchB_of (fun h => ?_) (fun h => ?_)
  · (conv => whnf); repeat ((first | (refine And.intro ?_ ?_; (focus ((repeat' (first | exact trivial | refine And.intro rfl ?_)); done))) | (refine And.intro ?_ ?_; (focus (first | omega | (simp -iota; omega) | (simp -iota; done) | decide)))); conv => whnf)
    have e : m.drop s = m := by
      simp only [decide_eq_true_eq] at h
      unfold MS.drop
      rw [if_neg]
      rintro ⟨a, b⟩
      exact h (by simp [MS.snapE, a, b])
    rw [e]
    refine ⟨_, _, Ent.shutAt (r2 := AV.int .i64 (m.dropE s)) [some 0, some 1, some 2] (m.H) rfl (by kernel_rfl) (AVE.of_eq ?_) ?_ (by kernel_rfl) (by kernel_rfl) (by repeat' first | exact trivial | refine ⟨rfl, ?_⟩) rfl, (), ?_, ?_⟩
    all_goals first | rfl | (repeat' first | exact trivial | refine ⟨⟨_, rfl, ChE.refl _⟩, ?_⟩)
  · (conv => whnf); repeat ((first | (refine And.intro ?_ ?_; (focus ((repeat' (first | exact trivial | refine And.intro rfl ?_)); done))) | (refine And.intro ?_ ?_; (focus (first | omega | (simp -iota; omega) | (simp -iota; done) | decide)))); conv => whnf)
    rw [mdel_snm]
    have h' : okN s = true ∧ (sfind m.sn s).isSome = true := by
      simp only [MS.snapE] at h
      cases h1 : okN s <;> cases h2 : (sfind m.sn s).isSome <;> simp [h1, h2] at h ⊢
    have e : m.drop s = { m with sn := sdel m.sn s } := by simp [MS.drop, h'.1, h'.2]
    have e2 : m.dropE s = 0 := by simp [MS.dropE, MS.snapE, h'.1, h'.2]
    rw [e, e2]
    refine ⟨_, _, Ent.shutAt (r2 := AV.int .i64 0) [some 0, some 1, some 2] (MS.H { m with sn := sdel m.sn s }) rfl (by kernel_rfl) (AVE.of_eq ?_) ?_ (by kernel_rfl) (by kernel_rfl) (by repeat' first | exact trivial | refine ⟨rfl, ?_⟩) rfl, (), ?_, ?_⟩
    all_goals first | rfl | (repeat' first | exact trivial | refine ⟨⟨_, rfl, ChE.refl _⟩, ?_⟩)
theorem create_ok (s : List UInt8) (hn : m.ws.length ≤ 1000) : AFn Go.Proofs.Try.prog 47 [.ptr 0 0, .str s] (one m.H) (fun _ : Unit => AV.int .i64 (m.createE s)) (fun _ => one (m.create s).H) := by
  refine ACall.fin ?_
  refine ACall.walkE (C := cfg 36 1) (cfgOk _ _) sch47 (fn := Go.Proofs.Try.f47) (by kernel_rfl) (by kernel_rfl) rfl (by kernel_rfl) (by kernel_rfl) rfl rfl (H1 := m.H) (fun _ _ => (HEnt.openOne (m.H) rfl rfl).ent) fun hlen hheap => ?_
  (conv => whnf); repeat ((first | (refine And.intro ?_ ?_; (focus ((repeat' (first | exact trivial | refine And.intro rfl ?_)); done))) | (refine And.intro ?_ ?_; (focus (first | omega | (simp -iota; omega) | (simp -iota; done) | decide)))); conv => whnf)
  refine AFn.use [0, 1, 2] (snap_in m s) (by kernel_rfl) rfl (by repeat' first | exact trivial | refine ⟨rfl, ?_⟩) fun _ => ?_
  (conv => whnf); repeat ((first | (refine And.intro ?_ ?_; (focus ((repeat' (first | exact trivial | refine And.intro rfl ?_)); done))) | (refine And.intro ?_ ?_; (focus (first | omega | (simp -iota; omega) | (simp -iota; done) | decide)))); conv => whnf)
  refine branchB_of (fun h => ?_) (fun h => ?_)
  · (conv => whnf); repeat ((first | (refine And.intro ?_ ?_; (focus ((repeat' (first | exact trivial | refine And.intro rfl ?_)); done))) | (refine And.intro ?_ ?_; (focus (first | omega | (simp -iota; omega) | (simp -iota; done) | decide)))); conv => whnf)
    have h' : okN s = true ∧ (sfind m.sn s).isSome = true := by
      simp only [MS.snapE] at h
      cases h1 : okN s <;> cases h2 : (sfind m.sn s).isSome <;> simp [h1, h2] at h ⊢
    have e : m.create s = m := by unfold MS.create; rw [if_neg]; rintro ⟨a, b, c⟩; rw [b] at h'; simp at h'
    have e2 : m.createE s = 34 := by simp [MS.createE, h'.1, h'.2]
    rw [e, e2]
    refine ⟨_, _, Ent.shutAt (r2 := AV.int .i64 34) [some 0, some 1, some 2] (m.H) rfl (by kernel_rfl) (AVE.of_eq ?_) ?_ (by kernel_rfl) (by kernel_rfl) (by repeat' first | exact trivial | refine ⟨rfl, ?_⟩) rfl, (), ?_, ?_⟩
    all_goals first | rfl | (repeat' first | exact trivial | refine ⟨⟨_, rfl, ChE.refl _⟩, ?_⟩)
  · (conv => whnf); repeat ((first | (refine And.intro ?_ ?_; (focus ((repeat' (first | exact trivial | refine And.intro rfl ?_)); done))) | (refine And.intro ?_ ?_; (focus (first | omega | (simp -iota; omega) | (simp -iota; done) | decide)))); conv => whnf)
    refine branchB_of (fun h2 => ?_) (fun h2 => ?_)
    · (conv => whnf); repeat ((first | (refine And.intro ?_ ?_; (focus ((repeat' (first | exact trivial | refine And.intro rfl ?_)); done))) | (refine And.intro ?_ ?_; (focus (first | omega | (simp -iota; omega) | (simp -iota; done) | decide)))); conv => whnf)
      have h' : okN s = false := by
        simp only [MS.snapE] at h h2
        cases h3 : okN s <;> cases h4 : (sfind m.sn s).isSome <;> simp [h3, h4] at h h2 ⊢
      have e : m.create s = m := by unfold MS.create; rw [if_neg]; rintro ⟨a, b, c⟩; rw [a] at h'; cases h'
      have e2 : m.createE s = m.snapE s := by simp [MS.createE, MS.snapE, h']
      rw [e, e2]
      refine ⟨_, _, Ent.shutAt (r2 := AV.int .i64 (m.snapE s)) [some 0, some 1, some 2] (m.H) rfl (by kernel_rfl) (AVE.of_eq ?_) ?_ (by kernel_rfl) (by kernel_rfl) (by repeat' first | exact trivial | refine ⟨rfl, ?_⟩) rfl, (), ?_, ?_⟩
      all_goals first | rfl | (repeat' first | exact trivial | refine ⟨⟨_, rfl, ChE.refl _⟩, ?_⟩)
    · (conv => whnf); repeat ((first | (refine And.intro ?_ ?_; (focus ((repeat' (first | exact trivial | refine And.intro rfl ?_)); done))) | (refine And.intro ?_ ?_; (focus (first | omega | (simp -iota; omega) | (simp -iota; done) | decide)))); conv => whnf)
      have h' : okN s = true ∧ sfind m.sn s = none := by
        simp only [MS.snapE] at h h2
        cases h3 : okN s <;> cases h4 : (sfind m.sn s) <;> simp [h3, h4] at h h2 ⊢
      refine branchB_of (fun h3 => ?_) (fun h3 => ?_)
      · (conv => whnf); repeat ((first | (refine And.intro ?_ ?_; (focus ((repeat' (first | exact trivial | refine And.intro rfl ?_)); done))) | (refine And.intro ?_ ?_; (focus (first | omega | (simp -iota; omega) | (simp -iota; done) | decide)))); conv => whnf)
        have h3' : 16 ≤ m.sn.length := by simp [snm] at h3; omega
        have e : m.create s = m := by unfold MS.create; rw [if_neg]; rintro ⟨a, b, c⟩; omega
        have e2 : m.createE s = 39 := by simp [MS.createE, h'.1, h'.2, h3']
        rw [e, e2]
        refine ⟨_, _, Ent.shutAt (r2 := AV.int .i64 39) [some 0, some 1, some 2] (m.H) rfl (by kernel_rfl) (AVE.of_eq ?_) ?_ (by kernel_rfl) (by kernel_rfl) (by repeat' first | exact trivial | refine ⟨rfl, ?_⟩) rfl, (), ?_, ?_⟩
        all_goals first | rfl | (repeat' first | exact trivial | refine ⟨⟨_, rfl, ChE.refl _⟩, ?_⟩)
      · have h3' : m.sn.length < 16 := by simp [snm] at h3; omega
        (conv => whnf); repeat ((first | (refine And.intro ?_ ?_; (focus ((repeat' (first | exact trivial | refine And.intro rfl ?_)); done))) | (refine And.intro ?_ ?_; (focus (first | omega | (simp -iota; omega) | (simp -iota; done) | decide)))); conv => whnf)
        refine AFn.use [0, 1, 2] (seq_in m hn) (by kernel_rfl) rfl (by repeat' first | exact trivial | refine ⟨rfl, ?_⟩) fun _ => ?_
        (conv => whnf); repeat ((first | (refine And.intro ?_ ?_; (focus ((repeat' (first | exact trivial | refine And.intro rfl ?_)); done))) | (refine And.intro ?_ ?_; (focus (first | omega | (simp -iota; omega) | (simp -iota; done) | decide)))); conv => whnf)
        rw [mput_snm]
        (conv => whnf); repeat ((first | (refine And.intro ?_ ?_; (focus ((repeat' (first | exact trivial | refine And.intro rfl ?_)); done))) | (refine And.intro ?_ ?_; (focus (first | omega | (simp -iota; omega) | (simp -iota; done) | decide)))); conv => whnf)
        refine AFn.use [0, 1, 2] (sync_in { m with sn := sput m.sn s m.ws.length } hn) (by kernel_rfl) rfl (by repeat' first | exact trivial | refine ⟨rfl, ?_⟩) fun _ => ?_
        (conv => whnf); repeat ((first | (refine And.intro ?_ ?_; (focus ((repeat' (first | exact trivial | refine And.intro rfl ?_)); done))) | (refine And.intro ?_ ?_; (focus (first | omega | (simp -iota; omega) | (simp -iota; done) | decide)))); conv => whnf)
        have e : m.create s = { m with sn := sput m.sn s m.ws.length, mark := m.ws.length } := by simp [MS.create, h'.1, h'.2, h3']
        have e2 : m.createE s = 0 := by simp [MS.createE, h'.1, h'.2, Nat.not_le.2 h3']
        rw [e, e2]
        refine ⟨_, _, Ent.shutAt (r2 := AV.int .i64 0) [some 0, some 1, some 2] (MS.H { m with sn := sput m.sn s m.ws.length, mark := m.ws.length }) rfl (by kernel_rfl) (AVE.of_eq ?_) ?_ (by kernel_rfl) (by kernel_rfl) (by repeat' first | exact trivial | refine ⟨rfl, ?_⟩) rfl, (), ?_, ?_⟩
        all_goals first | rfl | (repeat' first | exact trivial | refine ⟨⟨_, rfl, ChE.refl _⟩, ?_⟩)
end
end Go.Proofs.Ytaoambbfjdijjaa.Ax
