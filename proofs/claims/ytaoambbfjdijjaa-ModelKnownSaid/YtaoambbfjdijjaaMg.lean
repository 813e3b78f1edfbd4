/-
  Chapter 26: ModelGets, the walk.
-/
import Derived.Test.YtaoambbfjdijjaaMp
import Derived.Test.YtaoambbfjdijjaaAxZc
namespace Go.Proofs.Ytaoambbfjdijjaa.Ax
open Go.RowKit
set_option maxRecDepth 100000
instance : Inhabited CL := ⟨⟨0, [], [], [], 0⟩⟩
def callI (c : CL) : List IV := [.v (.int .i64 c.what), .bs c.k, .bs c.v, .str c.s, .v (.int .u64 c.n)]
def CL.ok (c : CL) : Prop := c.n ≤ 18446744073709551615
/-- The calls that a law has done. -/
def run60 (l : List CL) (n : Nat) : MS := (l.take n).foldl (fun m c => m.does c.few) ⟨[], [], 0⟩
theorem run_fits (l : List CL) : ∀ n, n ≤ 900 → (run60 l n).Fits ∧ (run60 l n).ws.length ≤ n
  | 0, _ => ⟨⟨by simp [run60], by simp [run60], by simp [run60], by simp [run60], by simp [run60], by simp [run60], by simp [run60], by simp [run60], by simp [run60]⟩, by simp [run60]⟩
  | n + 1, h => by
    obtain ⟨h1, h2⟩ := run_fits l n (by omega)
    by_cases hl : n < l.length
    · have e : run60 l (n + 1) = (run60 l n).does l[n].few := by
        unfold run60
        rw [List.take_succ_eq_append_getElem hl, List.foldl_append]
        rfl
      rw [e]
      have := does_len (run60 l n) l[n].few
      exact ⟨does_fits h1 (by omega) _, by omega⟩
    · have e : run60 l (n + 1) = run60 l n := by
        unfold run60
        rw [List.take_of_length_le (by omega), List.take_of_length_le (by omega)]
      rw [e]
      exact ⟨h1, by omega⟩
theorem run_succ {l : List CL} {n : Nat} (hl : n < l.length) : run60 l (n + 1) = (run60 l n).does (l.getD n default).few := by
  unfold run60
  rw [List.take_succ_eq_append_getElem hl, List.foldl_append]
  simp [List.getD, hl]
def isIn (L : BL) (n : Nat) (k v : List UInt8) : Bool := (L.take n).any fun p => decide (p.1 = k) && decide (p.2 = v)
theorem isIn_succ {L : BL} {n : Nat} (h : n < L.length) (k v : List UInt8) : isIn L (n + 1) k v = (isIn L n k v || (decide ((L.getD n ([], [])).1 = k) && decide ((L.getD n ([], [])).2 = v))) := by
  unfold isIn
  rw [List.take_succ_eq_append_getElem h, List.any_append]
  simp [List.getD, h]
theorem at_isIn {m : MS} (hm : m.Fits) (s : Nat) (k : List UInt8) : decide (m.atE s k = 0) = isIn (viewL (m.ws.take s)) (viewL (m.ws.take s)).length k (m.atV s k) := by
  unfold isIn
  rw [List.take_length, Bool.eq_iff_iff]
  simp only [decide_eq_true_eq, List.any_eq_true, Bool.and_eq_true]
  rw [atE_zero]
  constructor
  · intro h
    obtain ⟨v, hv⟩ := Option.isSome_iff_exists.1 h
    exact ⟨(k, v), (at_view hm s k v).1 hv, rfl, by simp [MS.atV, hv]⟩
  · rintro ⟨p, hp, h1, h2⟩
    have := (at_view hm s p.1 p.2).2 hp
    rw [h1] at this
    simp [this]
theorem atE_cases (m : MS) (s : Nat) (k : List UInt8) : m.atE s k = 0 ∨ ((m.atE s k = 6 ∨ m.atE s k = 30) ∧ m.atV s k = []) := by
  unfold MS.atE MS.atV
  cases h : okK k with
  | false => simp [MS.at, h]
  | true => cases h2 : m.at s k <;> simp
set_option maxHeartbeats 4000000 in
theorem gets_law (l : List CL) (hl : ∀ c ∈ l, c.ok) (at_ : List Nat) (ha : ∀ s ∈ at_, s ≤ 18446744073709551615) (keys : List (List UInt8)) : Law Go.Proofs.Try.prog 4 [.iv (.sl 5 l.length fun i => callI (l.getD i default)), .iv (.sl 1 at_.length fun i => [.v (.int .u64 (at_.getD i default))]), .iv (.sl 1 keys.length fun i => [.bs (keys.getD i default)])] := by
  refine ACall.fin ?_
  refine ACall.walkF (C := cfgL 207 0) (cfgLOk _ _) sch4 (fn := Go.Proofs.Try.f4) (by kernel_rfl) (by kernel_rfl) rfl (by kernel_rfl) (by kernel_rfl) rfl rfl fun hlen hheap => ?_
  obtain ⟨hl1, hl2, hl3, _⟩ := hlen
  simp only [lenF] at hl1 hl2 hl3
  (conv => whnf); repeat ((first | (refine And.intro ?_ ?_; (focus ((repeat' (first | exact trivial | refine And.intro rfl ?_)); done))) | (refine And.intro ?_ ?_; (focus (first | omega | (simp -iota; omega) | (simp -iota; done) | decide)))); conv => whnf)
  refine AFn.use [] (new_ok) (by kernel_rfl) rfl (by repeat' first | exact trivial | refine ⟨rfl, ?_⟩) fun _ => ?_
  (conv => whnf); repeat ((first | (refine And.intro ?_ ?_; (focus ((repeat' (first | exact trivial | refine And.intro rfl ?_)); done))) | (refine And.intro ?_ ?_; (focus (first | omega | (simp -iota; omega) | (simp -iota; done) | decide)))); conv => whnf)
  refine AWP.merge (Y := { m : MS // m.Fits }) (fun m => [(1, .iv (.sl 1 at_.length fun i => [.v (.int .u64 (at_.getD i default))])), (2, .iv (.sl 1 keys.length fun i => [.bs (keys.getD i default)])), (7, .ptr 0 0)]) (fun m => one m.1.H) 0 (fun m => ?_) ?_
  rotate_left
  · refine AWP.loop (X := { i : Nat // i ≤ 60 ∧ i ≤ l.length }) (fun i => [(0, .iv (.sl 5 l.length fun i => callI (l.getD i default))), (1, .iv (.sl 1 at_.length fun i => [.v (.int .u64 (at_.getD i default))])), (2, .iv (.sl 1 keys.length fun i => [.bs (keys.getD i default)])), (7, .ptr 0 0), (8, AV.int .i64 i.1)]) (fun i => one (run60 l i.1).H) (fun i => 60 - i.1) (⟨0, by omega⟩) ?_ fun i => AWP.go (S := sch4) (cfgLOk _ _) (.of_eq (by kernel_rfl)) ?_
    · exact Ent.mk' [some 0] (by kernel_rfl) (by repeat' first | exact trivial | refine And.intro (AVE.refl _) ?_ | refine And.intro (AVE.int (by first | rfl | omega | (simp -iota; omega) | (simp -iota; done))) ?_ | refine And.intro (AVE.bool (by assumption)) ?_ | refine And.intro (AVE.len (by first | rfl | omega | (simp -iota; omega) | (simp -iota; done))) ?_) (by repeat' (first | exact trivial | refine ⟨⟨_, rfl, ChE.refl _⟩, ?_⟩))
    · obtain ⟨i, hi, hil⟩ := i
      obtain ⟨hm, hmn⟩ := run_fits l i (by omega)
      have hns := run_succ (l := l) (n := i)
      have hix : ((i : Nat) : Int).toNat = i := by simp
      (conv => whnf); repeat ((first | (refine And.intro ?_ ?_; (focus ((repeat' (first | exact trivial | refine And.intro rfl ?_)); done))) | (refine And.intro ?_ ?_; (focus (first | omega | (simp -iota; omega) | (simp -iota; done) | decide)))); conv => whnf)
      refine branchB_of (fun h0 => ?_) (fun h0 => ?_) <;> (first | replace h0 := not_t h0 | replace h0 := not_f h0 | skip) <;> (first | replace h0 := of_decide_eq_true h0 | replace h0 := of_decide_eq_false h0 | skip) <;> (first | replace h0 := Classical.not_not.1 h0 | skip) <;> (try dsimp only at h0)
      rotate_left
      · (conv => whnf); repeat ((first | (refine And.intro ?_ ?_; (focus ((repeat' (first | exact trivial | refine And.intro rfl ?_)); done))) | (refine And.intro ?_ ?_; (focus (first | omega | (simp -iota; omega) | (simp -iota; done) | decide)))); conv => whnf)
        exact ⟨⟨run60 l i, hm⟩, Ent.mk' [some 0] (by kernel_rfl) (by repeat' first | exact trivial | refine And.intro (AVE.refl _) ?_ | refine And.intro (AVE.int (by first | rfl | omega | (simp -iota; omega) | (simp -iota; done))) ?_ | refine And.intro (AVE.bool (by assumption)) ?_ | refine And.intro (AVE.len (by first | rfl | omega | (simp -iota; omega) | (simp -iota; done))) ?_) (by repeat' (first | exact trivial | refine ⟨⟨_, rfl, ChE.refl _⟩, ?_⟩))⟩
      (conv => whnf); repeat ((first | (refine And.intro ?_ ?_; (focus ((repeat' (first | exact trivial | refine And.intro rfl ?_)); done))) | (refine And.intro ?_ ?_; (focus (first | omega | (simp -iota; omega) | (simp -iota; done) | decide)))); conv => whnf)
      refine branchB_of (fun h => ?_) (fun h => ?_) <;> (first | replace h := not_t h | replace h := not_f h | skip) <;> (first | replace h := of_decide_eq_true h | replace h := of_decide_eq_false h | skip) <;> (first | replace h := Classical.not_not.1 h | skip) <;> (try dsimp only at h)
      rotate_left
      · (conv => whnf); repeat ((first | (refine And.intro ?_ ?_; (focus ((repeat' (first | exact trivial | refine And.intro rfl ?_)); done))) | (refine And.intro ?_ ?_; (focus (first | omega | (simp -iota; omega) | (simp -iota; done) | decide)))); conv => whnf)
        exact ⟨⟨run60 l i, hm⟩, Ent.mk' [some 0] (by kernel_rfl) (by repeat' first | exact trivial | refine And.intro (AVE.refl _) ?_ | refine And.intro (AVE.int (by first | rfl | omega | (simp -iota; omega) | (simp -iota; done))) ?_ | refine And.intro (AVE.bool (by assumption)) ?_ | refine And.intro (AVE.len (by first | rfl | omega | (simp -iota; omega) | (simp -iota; done))) ?_) (by repeat' (first | exact trivial | refine ⟨⟨_, rfl, ChE.refl _⟩, ?_⟩))⟩
      (conv => whnf); repeat ((first | (refine And.intro ?_ ?_; (focus ((repeat' (first | exact trivial | refine And.intro rfl ?_)); done))) | (refine And.intro ?_ ?_; (focus (first | omega | (simp -iota; omega) | (simp -iota; done) | decide)))); conv => whnf)
      simp -iota only [hix]
      have hlt : i < l.length := by omega
      have hns' := hns hlt
      have hcok : (l.getD i default).ok := by simp only [List.getD, List.getElem?_eq_getElem hlt, Option.getD_some]; exact hl _ (List.getElem_mem hlt)
      clear hns
      generalize l.getD i default = c at hns' hcok
      generalize run60 l i = m at hns' hm hmn
      refine AFn.use [] (few_ok c) (by kernel_rfl) rfl (by repeat' first | exact trivial | refine ⟨rfl, ?_⟩) fun _ => ?_
      (conv => whnf); repeat ((first | (refine And.intro ?_ ?_; (focus ((repeat' (first | exact trivial | refine And.intro rfl ?_)); done))) | (refine And.intro ?_ ?_; (focus (first | omega | (simp -iota; omega) | (simp -iota; done) | decide)))); conv => whnf)
      refine AFn.use [0] (seq_ok m hm.n) (by kernel_rfl) rfl (by repeat' first | exact trivial | refine ⟨rfl, ?_⟩) fun _ => ?_
      (conv => whnf); repeat ((first | (refine And.intro ?_ ?_; (focus ((repeat' (first | exact trivial | refine And.intro rfl ?_)); done))) | (refine And.intro ?_ ?_; (focus (first | omega | (simp -iota; omega) | (simp -iota; done) | decide)))); conv => whnf)
      refine AFn.use [0] (mark_ok m) (by kernel_rfl) rfl (by repeat' first | exact trivial | refine ⟨rfl, ?_⟩) fun _ => ?_
      (conv => whnf); repeat ((first | (refine And.intro ?_ ?_; (focus ((repeat' (first | exact trivial | refine And.intro rfl ?_)); done))) | (refine And.intro ?_ ?_; (focus (first | omega | (simp -iota; omega) | (simp -iota; done) | decide)))); conv => whnf)
      refine AFn.use [0] (list_ok m hm) (by kernel_rfl) rfl (by repeat' first | exact trivial | refine ⟨rfl, ?_⟩) fun _ => ?_
      (conv => whnf); repeat ((first | (refine And.intro ?_ ?_; (focus ((repeat' (first | exact trivial | refine And.intro rfl ?_)); done))) | (refine And.intro ?_ ?_; (focus (first | omega | (simp -iota; omega) | (simp -iota; done) | decide)))); conv => whnf)
      refine AFn.use [0] (does_ok m hm c.few hcok) (by kernel_rfl) rfl (by repeat' first | exact trivial | refine ⟨rfl, ?_⟩) fun _ => ?_
      (conv => whnf); repeat ((first | (refine And.intro ?_ ?_; (focus ((repeat' (first | exact trivial | refine And.intro rfl ?_)); done))) | (refine And.intro ?_ ?_; (focus (first | omega | (simp -iota; omega) | (simp -iota; done) | decide)))); conv => whnf)
      by_cases hE : m.doesE c.few = 0
      · refine branchB_of (fun h1 => ?_) (fun h1 => ?_) <;> (first | replace h1 := not_t h1 | replace h1 := not_f h1 | skip) <;> (first | replace h1 := of_decide_eq_true h1 | replace h1 := of_decide_eq_false h1 | skip) <;> (first | replace h1 := Classical.not_not.1 h1 | skip) <;> (try dsimp only at h1)
        · exact absurd hE h1
        · (conv => whnf); repeat ((first | (refine And.intro ?_ ?_; (focus ((repeat' (first | exact trivial | refine And.intro rfl ?_)); done))) | (refine And.intro ?_ ?_; (focus (first | omega | (simp -iota; omega) | (simp -iota; done) | decide)))); conv => whnf)
          refine ⟨⟨i + 1, by omega, by omega⟩, Ent.mk' [some 0] (by kernel_rfl) (by repeat' first | exact trivial | refine And.intro (AVE.refl _) ?_ | refine And.intro (AVE.int (by first | rfl | omega | (simp -iota; omega) | (simp -iota; done))) ?_ | refine And.intro (AVE.bool (by assumption)) ?_ | refine And.intro (AVE.len (by first | rfl | omega | (simp -iota; omega) | (simp -iota; done))) ?_) ?_, ?_⟩
          · exact ⟨⟨_, rfl, ChE.of_eq (by show Chunk.sem (Nest (m.does c.few).H) = Chunk.sem (Nest (run60 l (i + 1)).H); rw [hns'])⟩, trivial⟩
          · show 60 - (i + 1) < 60 - i
            omega
      · have hr := does_refused m c.few hE
        rw [hr] at hns' ⊢
        refine branchB_of (fun h1 => ?_) (fun h1 => ?_) <;> (first | replace h1 := not_t h1 | replace h1 := not_f h1 | skip) <;> (first | replace h1 := of_decide_eq_true h1 | replace h1 := of_decide_eq_false h1 | skip) <;> (first | replace h1 := Classical.not_not.1 h1 | skip) <;> (try dsimp only at h1)
        · (conv => whnf); repeat ((first | (refine And.intro ?_ ?_; (focus ((repeat' (first | exact trivial | refine And.intro rfl ?_)); done))) | (refine And.intro ?_ ?_; (focus (first | omega | (simp -iota; omega) | (simp -iota; done) | decide)))); conv => whnf)
          refine AFn.use [0] (seq_ok m hm.n) (by kernel_rfl) rfl (by repeat' first | exact trivial | refine ⟨rfl, ?_⟩) fun _ => ?_
          (conv => whnf); repeat ((first | (refine And.intro ?_ ?_; (focus ((repeat' (first | exact trivial | refine And.intro rfl ?_)); done))) | (refine And.intro ?_ ?_; (focus (first | omega | (simp -iota; omega) | (simp -iota; done) | decide)))); conv => whnf)
          refine branchB_of (fun h => ?_) (fun h => ?_) <;> (first | replace h := not_t h | replace h := not_f h | skip) <;> (first | replace h := of_decide_eq_true h | replace h := of_decide_eq_false h | skip) <;> (first | replace h := Classical.not_not.1 h | skip) <;> (try dsimp only at h) <;> first | (exfalso; first | omega | contradiction | exact h rfl) | skip
          (conv => whnf); repeat ((first | (refine And.intro ?_ ?_; (focus ((repeat' (first | exact trivial | refine And.intro rfl ?_)); done))) | (refine And.intro ?_ ?_; (focus (first | omega | (simp -iota; omega) | (simp -iota; done) | decide)))); conv => whnf)
          refine AFn.use [0] (mark_ok m) (by kernel_rfl) rfl (by repeat' first | exact trivial | refine ⟨rfl, ?_⟩) fun _ => ?_
          (conv => whnf); repeat ((first | (refine And.intro ?_ ?_; (focus ((repeat' (first | exact trivial | refine And.intro rfl ?_)); done))) | (refine And.intro ?_ ?_; (focus (first | omega | (simp -iota; omega) | (simp -iota; done) | decide)))); conv => whnf)
          refine branchB_of (fun h => ?_) (fun h => ?_) <;> (first | replace h := not_t h | replace h := not_f h | skip) <;> (first | replace h := of_decide_eq_true h | replace h := of_decide_eq_false h | skip) <;> (first | replace h := Classical.not_not.1 h | skip) <;> (try dsimp only at h) <;> first | (exfalso; first | omega | contradiction | exact h rfl) | skip
          (conv => whnf); repeat ((first | (refine And.intro ?_ ?_; (focus ((repeat' (first | exact trivial | refine And.intro rfl ?_)); done))) | (refine And.intro ?_ ?_; (focus (first | omega | (simp -iota; omega) | (simp -iota; done) | decide)))); conv => whnf)
          refine AFn.use [0] (list_ok m hm) (by kernel_rfl) rfl (by repeat' first | exact trivial | refine ⟨rfl, ?_⟩) fun _ => ?_
          (conv => whnf); repeat ((first | (refine And.intro ?_ ?_; (focus ((repeat' (first | exact trivial | refine And.intro rfl ?_)); done))) | (refine And.intro ?_ ?_; (focus (first | omega | (simp -iota; omega) | (simp -iota; done) | decide)))); conv => whnf)
          refine branchB_of (fun h => ?_) (fun h => ?_) <;> (first | replace h := not_t h | replace h := not_f h | skip) <;> (first | replace h := of_decide_eq_true h | replace h := of_decide_eq_false h | skip) <;> (first | replace h := Classical.not_not.1 h | skip) <;> (try dsimp only at h) <;> first | (exfalso; first | omega | contradiction | exact h rfl) | skip
          (conv => whnf); repeat ((first | (refine And.intro ?_ ?_; (focus ((repeat' (first | exact trivial | refine And.intro rfl ?_)); done))) | (refine And.intro ?_ ?_; (focus (first | omega | (simp -iota; omega) | (simp -iota; done) | decide)))); conv => whnf)
          refine ⟨⟨i + 1, by omega, by omega⟩, Ent.mk' [some 0] (by kernel_rfl) (by repeat' first | exact trivial | refine And.intro (AVE.refl _) ?_ | refine And.intro (AVE.int (by first | rfl | omega | (simp -iota; omega) | (simp -iota; done))) ?_ | refine And.intro (AVE.bool (by assumption)) ?_ | refine And.intro (AVE.len (by first | rfl | omega | (simp -iota; omega) | (simp -iota; done))) ?_) ?_, ?_⟩
          · exact ⟨⟨_, rfl, ChE.of_eq (by show Chunk.sem (Nest m.H) = Chunk.sem (Nest (run60 l (i + 1)).H); rw [hns'])⟩, trivial⟩
          · show 60 - (i + 1) < 60 - i
            omega
        · exact absurd h1 hE
  · obtain ⟨m, hm⟩ := m
    (conv => whnf); repeat ((first | (refine And.intro ?_ ?_; (focus ((repeat' (first | exact trivial | refine And.intro rfl ?_)); done))) | (refine And.intro ?_ ?_; (focus (first | omega | (simp -iota; omega) | (simp -iota; done) | decide)))); conv => whnf)
    refine AWP.merge (Y := Unit) (fun u => []) (fun u => ⟨0, []⟩) 2 (fun u => ?_) ?_
    · (conv => whnf); repeat ((first | (refine And.intro ?_ ?_; (focus ((repeat' (first | exact trivial | refine And.intro rfl ?_)); done))) | (refine And.intro ?_ ?_; (focus (first | omega | (simp -iota; omega) | (simp -iota; done) | decide)))); conv => whnf)
      refine AFn.use [] (knows_ok) (by kernel_rfl) rfl (by repeat' first | exact trivial | refine ⟨rfl, ?_⟩) fun _ => ?_
      (conv => whnf); repeat ((first | (refine And.intro ?_ ?_; (focus ((repeat' (first | exact trivial | refine And.intro rfl ?_)); done))) | (refine And.intro ?_ ?_; (focus (first | omega | (simp -iota; omega) | (simp -iota; done) | decide)))); conv => whnf)
      exact ⟨_, _, Ent.mk' (e' := [(0, AV.bool true)]) (H' := ⟨0, []⟩) [] (by kernel_rfl) ⟨AVE.of_eq rfl, trivial⟩ trivial, (), rfl, rfl⟩
    · refine AWP.loop (X := { j : Nat // j ≤ 20 }) (fun j => [(1, .iv (.sl 1 at_.length fun i => [.v (.int .u64 (at_.getD i default))])), (2, .iv (.sl 1 keys.length fun i => [.bs (keys.getD i default)])), (7, .ptr 0 0), (13, AV.int .i64 j.1)]) (fun j => one m.H) (fun j => 20 - j.1) (⟨0, by omega⟩) ?_ fun j => AWP.go (S := sch4) (cfgLOk _ _) (.of_eq (by kernel_rfl)) ?_
      · exact Ent.mk' [some 0] (by kernel_rfl) (by repeat' first | exact trivial | refine And.intro (AVE.refl _) ?_ | refine And.intro (AVE.int (by first | rfl | omega | (simp -iota; omega) | (simp -iota; done))) ?_ | refine And.intro (AVE.bool (by assumption)) ?_ | refine And.intro (AVE.len (by first | rfl | omega | (simp -iota; omega) | (simp -iota; done))) ?_) (by repeat' (first | exact trivial | refine ⟨⟨_, rfl, ChE.refl _⟩, ?_⟩))
      · obtain ⟨j, hj⟩ := j
        have hjx : ((j : Nat) : Int).toNat = j := by simp
        (conv => whnf); repeat ((first | (refine And.intro ?_ ?_; (focus ((repeat' (first | exact trivial | refine And.intro rfl ?_)); done))) | (refine And.intro ?_ ?_; (focus (first | omega | (simp -iota; omega) | (simp -iota; done) | decide)))); conv => whnf)
        refine branchB_of (fun g0 => ?_) (fun g0 => ?_) <;> (first | replace g0 := not_t g0 | replace g0 := not_f g0 | skip) <;> (first | replace g0 := of_decide_eq_true g0 | replace g0 := of_decide_eq_false g0 | skip) <;> (first | replace g0 := Classical.not_not.1 g0 | skip) <;> (try dsimp only at g0)
        rotate_left
        · (conv => whnf); repeat ((first | (refine And.intro ?_ ?_; (focus ((repeat' (first | exact trivial | refine And.intro rfl ?_)); done))) | (refine And.intro ?_ ?_; (focus (first | omega | (simp -iota; omega) | (simp -iota; done) | decide)))); conv => whnf)
          exact ⟨(), Ent.mk' [] (by kernel_rfl) (by repeat' first | exact trivial | refine And.intro (AVE.refl _) ?_ | refine And.intro (AVE.int (by first | rfl | omega | (simp -iota; omega) | (simp -iota; done))) ?_ | refine And.intro (AVE.bool (by assumption)) ?_ | refine And.intro (AVE.len (by first | rfl | omega | (simp -iota; omega) | (simp -iota; done))) ?_) (by repeat' (first | exact trivial | refine ⟨⟨_, rfl, ChE.refl _⟩, ?_⟩))⟩
        (conv => whnf); repeat ((first | (refine And.intro ?_ ?_; (focus ((repeat' (first | exact trivial | refine And.intro rfl ?_)); done))) | (refine And.intro ?_ ?_; (focus (first | omega | (simp -iota; omega) | (simp -iota; done) | decide)))); conv => whnf)
        refine branchB_of (fun g1 => ?_) (fun g1 => ?_) <;> (first | replace g1 := not_t g1 | replace g1 := not_f g1 | skip) <;> (first | replace g1 := of_decide_eq_true g1 | replace g1 := of_decide_eq_false g1 | skip) <;> (first | replace g1 := Classical.not_not.1 g1 | skip) <;> (try dsimp only at g1)
        rotate_left
        · (conv => whnf); repeat ((first | (refine And.intro ?_ ?_; (focus ((repeat' (first | exact trivial | refine And.intro rfl ?_)); done))) | (refine And.intro ?_ ?_; (focus (first | omega | (simp -iota; omega) | (simp -iota; done) | decide)))); conv => whnf)
          exact ⟨(), Ent.mk' [] (by kernel_rfl) (by repeat' first | exact trivial | refine And.intro (AVE.refl _) ?_ | refine And.intro (AVE.int (by first | rfl | omega | (simp -iota; omega) | (simp -iota; done))) ?_ | refine And.intro (AVE.bool (by assumption)) ?_ | refine And.intro (AVE.len (by first | rfl | omega | (simp -iota; omega) | (simp -iota; done))) ?_) (by repeat' (first | exact trivial | refine ⟨⟨_, rfl, ChE.refl _⟩, ?_⟩))⟩
        (conv => whnf); repeat ((first | (refine And.intro ?_ ?_; (focus ((repeat' (first | exact trivial | refine And.intro rfl ?_)); done))) | (refine And.intro ?_ ?_; (focus (first | omega | (simp -iota; omega) | (simp -iota; done) | decide)))); conv => whnf)
        refine branchB_of (fun g2 => ?_) (fun g2 => ?_) <;> (first | replace g2 := not_t g2 | replace g2 := not_f g2 | skip) <;> (first | replace g2 := of_decide_eq_true g2 | replace g2 := of_decide_eq_false g2 | skip) <;> (first | replace g2 := Classical.not_not.1 g2 | skip) <;> (try dsimp only at g2)
        rotate_left
        · (conv => whnf); repeat ((first | (refine And.intro ?_ ?_; (focus ((repeat' (first | exact trivial | refine And.intro rfl ?_)); done))) | (refine And.intro ?_ ?_; (focus (first | omega | (simp -iota; omega) | (simp -iota; done) | decide)))); conv => whnf)
          exact ⟨(), Ent.mk' [] (by kernel_rfl) (by repeat' first | exact trivial | refine And.intro (AVE.refl _) ?_ | refine And.intro (AVE.int (by first | rfl | omega | (simp -iota; omega) | (simp -iota; done))) ?_ | refine And.intro (AVE.bool (by assumption)) ?_ | refine And.intro (AVE.len (by first | rfl | omega | (simp -iota; omega) | (simp -iota; done))) ?_) (by repeat' (first | exact trivial | refine ⟨⟨_, rfl, ChE.refl _⟩, ?_⟩))⟩
        have hs : at_.getD j default ≤ 18446744073709551615 := by simp only [List.getD, List.getElem?_eq_getElem (show j < at_.length by omega), Option.getD_some]; exact ha _ (List.getElem_mem _)
        have hk : List.take ((min (((keys.getD j default).length : Nat) : Int) 70).toNat - Int.toNat 0) (List.drop (Int.toNat 0) (keys.getD j default)) = (keys.getD j default).take 70 := take_min _ 70 _ rfl
        (conv => whnf); repeat ((first | (refine And.intro ?_ ?_; (focus ((repeat' (first | exact trivial | refine And.intro rfl ?_)); done))) | (refine And.intro ?_ ?_; (focus (first | omega | (simp -iota; omega) | (simp -iota; done) | decide)))); conv => whnf)
        simp -iota only [hjx]
        generalize hsd : at_.getD j default = s at hs
        rw [hk]
        generalize (keys.getD j default).take 70 = k
        refine AFn.use [0] (at_ok m hm s k hs) (by kernel_rfl) rfl (by repeat' first | exact trivial | refine ⟨rfl, ?_⟩) fun _ => ?_
        (conv => whnf); repeat ((first | (refine And.intro ?_ ?_; (focus ((repeat' (first | exact trivial | refine And.intro rfl ?_)); done))) | (refine And.intro ?_ ?_; (focus (first | omega | (simp -iota; omega) | (simp -iota; done) | decide)))); conv => whnf)
        simp -iota only [hjx, hsd]
        refine AFn.use [0] (view_ok m hm s hs) (by kernel_rfl) rfl (by repeat' first | exact trivial | refine ⟨rfl, ?_⟩) fun _ => ?_
        (conv => whnf); repeat ((first | (refine And.intro ?_ ?_; (focus ((repeat' (first | exact trivial | refine And.intro rfl ?_)); done))) | (refine And.intro ?_ ?_; (focus (first | omega | (simp -iota; omega) | (simp -iota; done) | decide)))); conv => whnf)
        have hL : ∀ p ∈ viewL (m.ws.take s), m.at s p.1 = some p.2 := fun p hp => (at_view hm s p.1 p.2).2 hp
        have hfact : decide (m.atE s k = 0) = isIn (viewL (m.ws.take s)) (viewL (m.ws.take s)).length k (m.atV s k) := at_isIn hm s k
        have hE := atE_cases m s k
        have hLn : (viewL (m.ws.take s)).length ≤ 1000 := by
          have h1 := vfold_length (m.ws.take s)
          have h2 : (m.ws.take s).length ≤ m.ws.length := by simp; omega
          have h3 := hm.n
          have h4 : (viewL (m.ws.take s)).length = (vfold (m.ws.take s)).length := by simp [viewL, sortS_length]
          omega
        generalize viewL (m.ws.take s) = L at hL hfact hLn
        refine AWP.loop (X := { x : Nat // x ≤ L.length }) (fun x => [(1, .iv (.sl 1 at_.length fun i => [.v (.int .u64 (at_.getD i default))])), (2, .iv (.sl 1 keys.length fun i => [.bs (keys.getD i default)])), (7, .ptr 0 0), (13, AV.int .i64 j), (14, .iv (.bs k)), (15, .iv (.bs (m.atV s k))), (16, AV.int .i64 (m.atE s k)), (17, AV.bool (isIn L x.1 k (m.atV s k))), (116, .iv (.sl 2 L.length (viewF L))), (117, AV.int .i64 L.length), (118, AV.int .i64 x.1)]) (fun x => one m.H) (fun x => L.length - x.1) (⟨0, by omega⟩) ?_ fun x => AWP.go (S := sch4) (cfgLOk _ _) (.of_eq (by kernel_rfl)) ?_
        · exact Ent.mk' [some 0] (by kernel_rfl) (by repeat' first | exact trivial | refine And.intro (AVE.refl _) ?_ | refine And.intro (AVE.int (by first | rfl | omega | (simp -iota; omega) | (simp -iota; done))) ?_ | refine And.intro (AVE.bool (by assumption)) ?_ | refine And.intro (AVE.len (by first | rfl | omega | (simp -iota; omega) | (simp -iota; done))) ?_) (by repeat' (first | exact trivial | refine ⟨⟨_, rfl, ChE.refl _⟩, ?_⟩))
        · obtain ⟨x, hx⟩ := x
          have hxx : ((x : Nat) : Int).toNat = x := by simp
          (conv => whnf); repeat ((first | (refine And.intro ?_ ?_; (focus ((repeat' (first | exact trivial | refine And.intro rfl ?_)); done))) | (refine And.intro ?_ ?_; (focus (first | omega | (simp -iota; omega) | (simp -iota; done) | decide)))); conv => whnf)
          refine branchB_of (fun f1 => ?_) (fun f1 => ?_) <;> (first | replace f1 := not_t f1 | replace f1 := not_f f1 | skip) <;> (first | replace f1 := of_decide_eq_true f1 | replace f1 := of_decide_eq_false f1 | skip) <;> (first | replace f1 := Classical.not_not.1 f1 | skip) <;> (try dsimp only at f1)
          · have hlt : x < L.length := by omega
            have hp := hL (L.getD x ([], [])) (by simp only [List.getD, List.getElem?_eq_getElem hlt, Option.getD_some]; exact List.getElem_mem _)
            have hsx := isIn_succ hlt k (m.atV s k)
            (conv => whnf); repeat ((first | (refine And.intro ?_ ?_; (focus ((repeat' (first | exact trivial | refine And.intro rfl ?_)); done))) | (refine And.intro ?_ ?_; (focus (first | omega | (simp -iota; omega) | (simp -iota; done) | decide)))); conv => whnf)
            simp -iota only [hxx, hjx, hsd]
            generalize L.getD x ([], []) = p at hp hsx
            have e1 : m.atE s p.1 = 0 := atE_zero.2 (by rw [hp]; rfl)
            have e2 : m.atV s p.1 = p.2 := by simp [MS.atV, hp]
            refine AFn.use [0] (at_ok m hm s p.1 hs) (by kernel_rfl) rfl (by repeat' first | exact trivial | refine ⟨rfl, ?_⟩) fun _ => ?_
            rw [e1, e2]
            (conv => whnf); repeat ((first | (refine And.intro ?_ ?_; (focus ((repeat' (first | exact trivial | refine And.intro rfl ?_)); done))) | (refine And.intro ?_ ?_; (focus (first | omega | (simp -iota; omega) | (simp -iota; done) | decide)))); conv => whnf)
            refine branchB_of (fun f2 => ?_) (fun f2 => ?_) <;> (first | replace f2 := not_t f2 | replace f2 := not_f f2 | skip) <;> (first | replace f2 := of_decide_eq_true f2 | replace f2 := of_decide_eq_false f2 | skip) <;> (first | replace f2 := Classical.not_not.1 f2 | skip) <;> (try dsimp only at f2)
            · exact absurd rfl f2
            · (conv => whnf); repeat ((first | (refine And.intro ?_ ?_; (focus ((repeat' (first | exact trivial | refine And.intro rfl ?_)); done))) | (refine And.intro ?_ ?_; (focus (first | omega | (simp -iota; omega) | (simp -iota; done) | decide)))); conv => whnf)
              refine branchB_of (fun f3 => ?_) (fun f3 => ?_) <;> (first | replace f3 := not_t f3 | replace f3 := not_f f3 | skip) <;> (first | replace f3 := of_decide_eq_true f3 | replace f3 := of_decide_eq_false f3 | skip) <;> (first | replace f3 := Classical.not_not.1 f3 | skip) <;> (try dsimp only at f3)
              · have e17 : true = isIn L (x + 1) k (m.atV s k) := by rw [hsx, f3]; rfl
                (conv => whnf); repeat ((first | (refine And.intro ?_ ?_; (focus ((repeat' (first | exact trivial | refine And.intro rfl ?_)); done))) | (refine And.intro ?_ ?_; (focus (first | omega | (simp -iota; omega) | (simp -iota; done) | decide)))); conv => whnf)
                refine ⟨⟨x + 1, by omega⟩, Ent.mk' [some 0] (by kernel_rfl) (by repeat' first | exact trivial | refine And.intro (AVE.refl _) ?_ | refine And.intro (AVE.int (by first | rfl | omega | (simp -iota; omega) | (simp -iota; done))) ?_ | refine And.intro (AVE.bool (by assumption)) ?_ | refine And.intro (AVE.len (by first | rfl | omega | (simp -iota; omega) | (simp -iota; done))) ?_) (by repeat' (first | exact trivial | refine ⟨⟨_, rfl, ChE.refl _⟩, ?_⟩)), ?_⟩
                show L.length - (x + 1) < L.length - x
                omega
              · (conv => whnf); repeat ((first | (refine And.intro ?_ ?_; (focus ((repeat' (first | exact trivial | refine And.intro rfl ?_)); done))) | (refine And.intro ?_ ?_; (focus (first | omega | (simp -iota; omega) | (simp -iota; done) | decide)))); conv => whnf)
                refine branchB_of (fun f4 => ?_) (fun f4 => ?_) <;> (first | replace f4 := not_t f4 | replace f4 := not_f f4 | skip) <;> (first | replace f4 := of_decide_eq_true f4 | replace f4 := of_decide_eq_false f4 | skip) <;> (first | replace f4 := Classical.not_not.1 f4 | skip) <;> (try dsimp only at f4)
                · have e17 : decide (p.2 = m.atV s k) = isIn L (x + 1) k (m.atV s k) := by rw [hsx, f3]; simp [f4]
                  (conv => whnf); repeat ((first | (refine And.intro ?_ ?_; (focus ((repeat' (first | exact trivial | refine And.intro rfl ?_)); done))) | (refine And.intro ?_ ?_; (focus (first | omega | (simp -iota; omega) | (simp -iota; done) | decide)))); conv => whnf)
                  refine ⟨⟨x + 1, by omega⟩, Ent.mk' [some 0] (by kernel_rfl) (by repeat' first | exact trivial | refine And.intro (AVE.refl _) ?_ | refine And.intro (AVE.int (by first | rfl | omega | (simp -iota; omega) | (simp -iota; done))) ?_ | refine And.intro (AVE.bool (by assumption)) ?_ | refine And.intro (AVE.len (by first | rfl | omega | (simp -iota; omega) | (simp -iota; done))) ?_) (by repeat' (first | exact trivial | refine ⟨⟨_, rfl, ChE.refl _⟩, ?_⟩)), ?_⟩
                  show L.length - (x + 1) < L.length - x
                  omega
                · have e17 : false = isIn L (x + 1) k (m.atV s k) := by rw [hsx, f3]; simp [f4]
                  (conv => whnf); repeat ((first | (refine And.intro ?_ ?_; (focus ((repeat' (first | exact trivial | refine And.intro rfl ?_)); done))) | (refine And.intro ?_ ?_; (focus (first | omega | (simp -iota; omega) | (simp -iota; done) | decide)))); conv => whnf)
                  refine ⟨⟨x + 1, by omega⟩, Ent.mk' [some 0] (by kernel_rfl) (by repeat' first | exact trivial | refine And.intro (AVE.refl _) ?_ | refine And.intro (AVE.int (by first | rfl | omega | (simp -iota; omega) | (simp -iota; done))) ?_ | refine And.intro (AVE.bool (by assumption)) ?_ | refine And.intro (AVE.len (by first | rfl | omega | (simp -iota; omega) | (simp -iota; done))) ?_) (by repeat' (first | exact trivial | refine ⟨⟨_, rfl, ChE.refl _⟩, ?_⟩)), ?_⟩
                  show L.length - (x + 1) < L.length - x
                  omega
          · have hxl : x = L.length := by omega
            subst hxl
            rw [← hfact]
            (conv => whnf); repeat ((first | (refine And.intro ?_ ?_; (focus ((repeat' (first | exact trivial | refine And.intro rfl ?_)); done))) | (refine And.intro ?_ ?_; (focus (first | omega | (simp -iota; omega) | (simp -iota; done) | decide)))); conv => whnf)
            refine AFn.use [0] (get_ok m hm k) (by kernel_rfl) rfl (by repeat' first | exact trivial | refine ⟨rfl, ?_⟩) fun _ => ?_
            (conv => whnf); repeat ((first | (refine And.intro ?_ ?_; (focus ((repeat' (first | exact trivial | refine And.intro rfl ?_)); done))) | (refine And.intro ?_ ?_; (focus (first | omega | (simp -iota; omega) | (simp -iota; done) | decide)))); conv => whnf)
            refine AFn.use [0] (at_ok m hm 18446744073709551615 k (by omega)) (by kernel_rfl) rfl (by repeat' first | exact trivial | refine ⟨rfl, ?_⟩) fun _ => ?_
            have h4 : m.at 18446744073709551615 k = m.at m.ws.length k := by
              unfold MS.at
              have := hm.n
              rw [Nat.min_eq_right (by omega), Nat.min_self]
            have h5 : m.atE 18446744073709551615 k = m.atE m.ws.length k := by unfold MS.atE; rw [h4]
            have h6 : m.atV 18446744073709551615 k = m.atV m.ws.length k := by unfold MS.atV; rw [h4]
            rw [h5, h6]
            clear hfact hL
            generalize m.atE m.ws.length k = u1
            generalize m.atV m.ws.length k = u2
            generalize m.atE s k = u3 at hE
            generalize m.atV s k = u4 at hE
            rcases hE with h | ⟨h | h, hv⟩
            · subst h
              (conv => whnf); repeat ((first | (refine And.intro ?_ ?_; (focus ((repeat' (first | exact trivial | refine And.intro rfl ?_)); done))) | (refine And.intro ?_ ?_; (focus (first | omega | (simp -iota; omega) | (simp -iota; done) | decide)))); conv => whnf)
              refine branchB_of (fun f4 => ?_) (fun f4 => ?_) <;> (first | replace f4 := not_t f4 | replace f4 := not_f f4 | skip) <;> (first | replace f4 := of_decide_eq_true f4 | replace f4 := of_decide_eq_false f4 | skip) <;> (first | replace f4 := Classical.not_not.1 f4 | skip) <;> (try dsimp only at f4)
              · exact absurd rfl f4
              (conv => whnf); repeat ((first | (refine And.intro ?_ ?_; (focus ((repeat' (first | exact trivial | refine And.intro rfl ?_)); done))) | (refine And.intro ?_ ?_; (focus (first | omega | (simp -iota; omega) | (simp -iota; done) | decide)))); conv => whnf)
              refine branchB_of (fun f5 => ?_) (fun f5 => ?_) <;> (first | replace f5 := not_t f5 | replace f5 := not_f f5 | skip) <;> (first | replace f5 := of_decide_eq_true f5 | replace f5 := of_decide_eq_false f5 | skip) <;> (first | replace f5 := Classical.not_not.1 f5 | skip) <;> (try dsimp only at f5)
              · exact absurd rfl f5
              (conv => whnf); repeat ((first | (refine And.intro ?_ ?_; (focus ((repeat' (first | exact trivial | refine And.intro rfl ?_)); done))) | (refine And.intro ?_ ?_; (focus (first | omega | (simp -iota; omega) | (simp -iota; done) | decide)))); conv => whnf)
              refine ⟨⟨j + 1, by omega⟩, Ent.mk' [some 0] (by kernel_rfl) (by repeat' first | exact trivial | refine And.intro (AVE.refl _) ?_ | refine And.intro (AVE.int (by first | rfl | omega | (simp -iota; omega) | (simp -iota; done))) ?_ | refine And.intro (AVE.bool (by assumption)) ?_ | refine And.intro (AVE.len (by first | rfl | omega | (simp -iota; omega) | (simp -iota; done))) ?_) (by repeat' (first | exact trivial | refine ⟨⟨_, rfl, ChE.refl _⟩, ?_⟩)), ?_⟩
              show 20 - (j + 1) < 20 - j
              omega
            · subst h hv
              (conv => whnf); repeat ((first | (refine And.intro ?_ ?_; (focus ((repeat' (first | exact trivial | refine And.intro rfl ?_)); done))) | (refine And.intro ?_ ?_; (focus (first | omega | (simp -iota; omega) | (simp -iota; done) | decide)))); conv => whnf)
              refine branchB_of (fun f4 => ?_) (fun f4 => ?_) <;> (first | replace f4 := not_t f4 | replace f4 := not_f f4 | skip) <;> (first | replace f4 := of_decide_eq_true f4 | replace f4 := of_decide_eq_false f4 | skip) <;> (first | replace f4 := Classical.not_not.1 f4 | skip) <;> (try dsimp only at f4)
              · exact absurd rfl f4
              (conv => whnf); repeat ((first | (refine And.intro ?_ ?_; (focus ((repeat' (first | exact trivial | refine And.intro rfl ?_)); done))) | (refine And.intro ?_ ?_; (focus (first | omega | (simp -iota; omega) | (simp -iota; done) | decide)))); conv => whnf)
              refine branchB_of (fun f5 => ?_) (fun f5 => ?_) <;> (first | replace f5 := not_t f5 | replace f5 := not_f f5 | skip) <;> (first | replace f5 := of_decide_eq_true f5 | replace f5 := of_decide_eq_false f5 | skip) <;> (first | replace f5 := Classical.not_not.1 f5 | skip) <;> (try dsimp only at f5)
              · exact absurd rfl f5
              (conv => whnf); repeat ((first | (refine And.intro ?_ ?_; (focus ((repeat' (first | exact trivial | refine And.intro rfl ?_)); done))) | (refine And.intro ?_ ?_; (focus (first | omega | (simp -iota; omega) | (simp -iota; done) | decide)))); conv => whnf)
              refine ⟨⟨j + 1, by omega⟩, Ent.mk' [some 0] (by kernel_rfl) (by repeat' first | exact trivial | refine And.intro (AVE.refl _) ?_ | refine And.intro (AVE.int (by first | rfl | omega | (simp -iota; omega) | (simp -iota; done))) ?_ | refine And.intro (AVE.bool (by assumption)) ?_ | refine And.intro (AVE.len (by first | rfl | omega | (simp -iota; omega) | (simp -iota; done))) ?_) (by repeat' (first | exact trivial | refine ⟨⟨_, rfl, ChE.refl _⟩, ?_⟩)), ?_⟩
              show 20 - (j + 1) < 20 - j
              omega
            · subst h hv
              (conv => whnf); repeat ((first | (refine And.intro ?_ ?_; (focus ((repeat' (first | exact trivial | refine And.intro rfl ?_)); done))) | (refine And.intro ?_ ?_; (focus (first | omega | (simp -iota; omega) | (simp -iota; done) | decide)))); conv => whnf)
              refine branchB_of (fun f4 => ?_) (fun f4 => ?_) <;> (first | replace f4 := not_t f4 | replace f4 := not_f f4 | skip) <;> (first | replace f4 := of_decide_eq_true f4 | replace f4 := of_decide_eq_false f4 | skip) <;> (first | replace f4 := Classical.not_not.1 f4 | skip) <;> (try dsimp only at f4)
              · exact absurd rfl f4
              (conv => whnf); repeat ((first | (refine And.intro ?_ ?_; (focus ((repeat' (first | exact trivial | refine And.intro rfl ?_)); done))) | (refine And.intro ?_ ?_; (focus (first | omega | (simp -iota; omega) | (simp -iota; done) | decide)))); conv => whnf)
              refine branchB_of (fun f5 => ?_) (fun f5 => ?_) <;> (first | replace f5 := not_t f5 | replace f5 := not_f f5 | skip) <;> (first | replace f5 := of_decide_eq_true f5 | replace f5 := of_decide_eq_false f5 | skip) <;> (first | replace f5 := Classical.not_not.1 f5 | skip) <;> (try dsimp only at f5)
              · exact absurd rfl f5
              (conv => whnf); repeat ((first | (refine And.intro ?_ ?_; (focus ((repeat' (first | exact trivial | refine And.intro rfl ?_)); done))) | (refine And.intro ?_ ?_; (focus (first | omega | (simp -iota; omega) | (simp -iota; done) | decide)))); conv => whnf)
              refine ⟨⟨j + 1, by omega⟩, Ent.mk' [some 0] (by kernel_rfl) (by repeat' first | exact trivial | refine And.intro (AVE.refl _) ?_ | refine And.intro (AVE.int (by first | rfl | omega | (simp -iota; omega) | (simp -iota; done))) ?_ | refine And.intro (AVE.bool (by assumption)) ?_ | refine And.intro (AVE.len (by first | rfl | omega | (simp -iota; omega) | (simp -iota; done))) ?_) (by repeat' (first | exact trivial | refine ⟨⟨_, rfl, ChE.refl _⟩, ?_⟩)), ?_⟩
              show 20 - (j + 1) < 20 - j
              omega
end Go.Proofs.Ytaoambbfjdijjaa.Ax
