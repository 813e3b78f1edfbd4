/-
  Chapter 26: the laws' own functions.
-/
import Derived.Test.YtaoambbfjdijjaaMd
namespace Go.Proofs.Ytaoambbfjdijjaa.Ax
open Go.RowKit
set_option maxRecDepth 100000
/-- Literals, converted rows, boxes are written no more. -/
noncomputable def cfgL (N b : Nat) : Cfg := { P := Go.Proofs.Try.prog, T := tt, wr := false, N := N, pure := [14, 15, 56, 59, 62, 64, 86, 102], base := b, frz := fun op => match op with | .box .. => true | .convert .. => true | _ => false }
theorem cfgLOk (N b : Nat) : (cfgL N b).Ok := ⟨ttOk, ttBytes, by kernel_rfl⟩
/-- A call. -/
structure CL where
  what : Int
  k : List UInt8
  v : List UInt8
  s : List UInt8
  n : Nat
def callC (c : CL) : List AV := [.int .i64 c.what, .iv (.bs c.k), .iv (.bs c.v), .str c.s, .int .u64 c.n]
def CL.few (c : CL) : CL := { c with k := c.k.take 70, v := c.v.take 1100 }
theorem take_min (l : List UInt8) (n : Nat) (i : Int) (h : i = min (l.length : Int) n) : l.take (i.toNat - Int.toNat 0) = l.take n := by
  subst h
  rcases Nat.le_total l.length n with h | h
  · rw [List.take_of_length_le h, List.take_of_length_le (by simp; omega)]
  · congr 1; simp; omega
theorem few_ok (c : CL) : AFn Go.Proofs.Try.prog 13 [.agg (callC c)] ⟨0, []⟩ (fun _ : Unit => .agg (callC c.few)) (fun _ => ⟨0, []⟩) := by
  refine ACall.fin ?_
  refine ACall.walk (C := cfg 20 0) (cfgOk _ _) sch13 (fn := Go.Proofs.Try.f13) (by kernel_rfl) (by kernel_rfl) rfl (by kernel_rfl) (by kernel_rfl) rfl rfl ?_
  (conv => whnf); repeat ((first | (refine And.intro ?_ ?_; (focus ((repeat' (first | exact trivial | refine And.intro rfl ?_)); done))) | (refine And.intro ?_ ?_; (focus (first | omega | (simp -iota; omega) | (simp -iota; done) | decide)))); conv => whnf)
  refine ⟨_, _, Ent.mk' (e' := [(0, .agg (callC c.few))]) (H' := ⟨0, []⟩) [] (by kernel_rfl) ⟨AVE.of_eq ?_, trivial⟩ trivial, (), rfl, rfl⟩
  have e1 := take_min c.k 70 _ rfl
  have e2 := take_min c.v 1100 _ rfl
  show AV.agg [_, .iv (.bs (List.take _ (List.drop _ c.k))), .iv (.bs (List.take _ (List.drop _ c.v))), _, _] = AV.agg [.int .i64 c.what, .iv (.bs (c.k.take 70)), .iv (.bs (c.v.take 1100)), .str c.s, .int .u64 c.n]
  rw [← e1, ← e2]
  rfl
def MS.does (m : MS) (c : CL) : MS :=
  if c.what = 0 ∨ c.what = 1 ∨ c.what = 2 then m.put c.k c.v else if c.what = 3 then m.del c.k else if c.what = 4 then { m with mark := m.ws.length } else if c.what = 5 then m.create c.s else if c.what = 6 then m.drop c.s else if c.what = 7 then m.cut c.n else m
def MS.doesE (m : MS) (c : CL) : Int :=
  if c.what = 0 ∨ c.what = 1 ∨ c.what = 2 then putE c.k c.v else if c.what = 3 then delE c.k else if c.what = 4 then 0 else if c.what = 5 then m.createE c.s else if c.what = 6 then m.dropE c.s else if c.what = 7 then m.cutE c.n else 0
theorem does_ok (m : MS) (hm : m.Fits) (c : CL) (hn : c.n ≤ 18446744073709551615) : AFn Go.Proofs.Try.prog 16 [.ptr 0 0, .agg (callC c)] (one m.H) (fun _ : Unit => .int .i64 (m.doesE c)) (fun _ => one (m.does c).H) := by
  have hn0 := hm.n
  refine ACall.fin ?_
  refine ACall.walk (C := cfgF 45 1) (cfgFOk _ _) [] (fn := Go.Proofs.Try.f16) (by kernel_rfl) (by kernel_rfl) rfl (by kernel_rfl) (by kernel_rfl) rfl rfl ?_
  (conv => whnf); repeat ((first | (refine And.intro ?_ ?_; (focus ((repeat' (first | exact trivial | refine And.intro rfl ?_)); done))) | (refine And.intro ?_ ?_; (focus (first | omega | (simp -iota; omega) | (simp -iota; done) | decide)))); conv => whnf)
  refine branchB_of (fun h0 => ?_) (fun h0 => ?_) <;> (first | replace h0 := not_t h0 | replace h0 := not_f h0 | skip) <;> (first | replace h0 := of_decide_eq_true h0 | replace h0 := of_decide_eq_false h0 | skip) <;> (first | replace h0 := Classical.not_not.1 h0 | skip) <;> (try dsimp only at h0)
  · (conv => whnf); repeat ((first | (refine And.intro ?_ ?_; (focus ((repeat' (first | exact trivial | refine And.intro rfl ?_)); done))) | (refine And.intro ?_ ?_; (focus (first | omega | (simp -iota; omega) | (simp -iota; done) | decide)))); conv => whnf)
    refine AFn.use [0] (put_ok m c.k c.v hn0) (by kernel_rfl) rfl (by repeat' first | exact trivial | refine ⟨rfl, ?_⟩) fun _ => ?_
    (conv => whnf); repeat ((first | (refine And.intro ?_ ?_; (focus ((repeat' (first | exact trivial | refine And.intro rfl ?_)); done))) | (refine And.intro ?_ ?_; (focus (first | omega | (simp -iota; omega) | (simp -iota; done) | decide)))); conv => whnf)
    exact ⟨_, _, Ent.refl _ _ _ _, (), by simp [MS.doesE, h0], by simp [MS.does, h0]⟩
  · (conv => whnf); repeat ((first | (refine And.intro ?_ ?_; (focus ((repeat' (first | exact trivial | refine And.intro rfl ?_)); done))) | (refine And.intro ?_ ?_; (focus (first | omega | (simp -iota; omega) | (simp -iota; done) | decide)))); conv => whnf)
    refine branchB_of (fun h1 => ?_) (fun h1 => ?_) <;> (first | replace h1 := not_t h1 | replace h1 := not_f h1 | skip) <;> (first | replace h1 := of_decide_eq_true h1 | replace h1 := of_decide_eq_false h1 | skip) <;> (first | replace h1 := Classical.not_not.1 h1 | skip) <;> (try dsimp only at h1)
    · (conv => whnf); repeat ((first | (refine And.intro ?_ ?_; (focus ((repeat' (first | exact trivial | refine And.intro rfl ?_)); done))) | (refine And.intro ?_ ?_; (focus (first | omega | (simp -iota; omega) | (simp -iota; done) | decide)))); conv => whnf)
      refine AFn.use [0] (put_ok m c.k c.v hn0) (by kernel_rfl) rfl (by repeat' first | exact trivial | refine ⟨rfl, ?_⟩) fun _ => ?_
      (conv => whnf); repeat ((first | (refine And.intro ?_ ?_; (focus ((repeat' (first | exact trivial | refine And.intro rfl ?_)); done))) | (refine And.intro ?_ ?_; (focus (first | omega | (simp -iota; omega) | (simp -iota; done) | decide)))); conv => whnf)
      exact ⟨_, _, Ent.refl _ _ _ _, (), by simp [MS.doesE, h1], by simp [MS.does, h1]⟩
    · (conv => whnf); repeat ((first | (refine And.intro ?_ ?_; (focus ((repeat' (first | exact trivial | refine And.intro rfl ?_)); done))) | (refine And.intro ?_ ?_; (focus (first | omega | (simp -iota; omega) | (simp -iota; done) | decide)))); conv => whnf)
      refine branchB_of (fun h2 => ?_) (fun h2 => ?_) <;> (first | replace h2 := not_t h2 | replace h2 := not_f h2 | skip) <;> (first | replace h2 := of_decide_eq_true h2 | replace h2 := of_decide_eq_false h2 | skip) <;> (first | replace h2 := Classical.not_not.1 h2 | skip) <;> (try dsimp only at h2)
      · (conv => whnf); repeat ((first | (refine And.intro ?_ ?_; (focus ((repeat' (first | exact trivial | refine And.intro rfl ?_)); done))) | (refine And.intro ?_ ?_; (focus (first | omega | (simp -iota; omega) | (simp -iota; done) | decide)))); conv => whnf)
        refine AFn.use [0] (put_ok m c.k c.v hn0) (by kernel_rfl) rfl (by repeat' first | exact trivial | refine ⟨rfl, ?_⟩) fun _ => ?_
        (conv => whnf); repeat ((first | (refine And.intro ?_ ?_; (focus ((repeat' (first | exact trivial | refine And.intro rfl ?_)); done))) | (refine And.intro ?_ ?_; (focus (first | omega | (simp -iota; omega) | (simp -iota; done) | decide)))); conv => whnf)
        exact ⟨_, _, Ent.refl _ _ _ _, (), by simp [MS.doesE, h2], by simp [MS.does, h2]⟩
      · (conv => whnf); repeat ((first | (refine And.intro ?_ ?_; (focus ((repeat' (first | exact trivial | refine And.intro rfl ?_)); done))) | (refine And.intro ?_ ?_; (focus (first | omega | (simp -iota; omega) | (simp -iota; done) | decide)))); conv => whnf)
        refine branchB_of (fun h3 => ?_) (fun h3 => ?_) <;> (first | replace h3 := not_t h3 | replace h3 := not_f h3 | skip) <;> (first | replace h3 := of_decide_eq_true h3 | replace h3 := of_decide_eq_false h3 | skip) <;> (first | replace h3 := Classical.not_not.1 h3 | skip) <;> (try dsimp only at h3)
        · (conv => whnf); repeat ((first | (refine And.intro ?_ ?_; (focus ((repeat' (first | exact trivial | refine And.intro rfl ?_)); done))) | (refine And.intro ?_ ?_; (focus (first | omega | (simp -iota; omega) | (simp -iota; done) | decide)))); conv => whnf)
          refine AFn.use [0] (del_ok m c.k hn0) (by kernel_rfl) rfl (by repeat' first | exact trivial | refine ⟨rfl, ?_⟩) fun _ => ?_
          (conv => whnf); repeat ((first | (refine And.intro ?_ ?_; (focus ((repeat' (first | exact trivial | refine And.intro rfl ?_)); done))) | (refine And.intro ?_ ?_; (focus (first | omega | (simp -iota; omega) | (simp -iota; done) | decide)))); conv => whnf)
          exact ⟨_, _, Ent.refl _ _ _ _, (), by simp [MS.doesE, h3], by simp [MS.does, h3]⟩
        · (conv => whnf); repeat ((first | (refine And.intro ?_ ?_; (focus ((repeat' (first | exact trivial | refine And.intro rfl ?_)); done))) | (refine And.intro ?_ ?_; (focus (first | omega | (simp -iota; omega) | (simp -iota; done) | decide)))); conv => whnf)
          refine branchB_of (fun h4 => ?_) (fun h4 => ?_) <;> (first | replace h4 := not_t h4 | replace h4 := not_f h4 | skip) <;> (first | replace h4 := of_decide_eq_true h4 | replace h4 := of_decide_eq_false h4 | skip) <;> (first | replace h4 := Classical.not_not.1 h4 | skip) <;> (try dsimp only at h4)
          · (conv => whnf); repeat ((first | (refine And.intro ?_ ?_; (focus ((repeat' (first | exact trivial | refine And.intro rfl ?_)); done))) | (refine And.intro ?_ ?_; (focus (first | omega | (simp -iota; omega) | (simp -iota; done) | decide)))); conv => whnf)
            refine AFn.use [0] (sync_ok m hn0) (by kernel_rfl) rfl (by repeat' first | exact trivial | refine ⟨rfl, ?_⟩) fun _ => ?_
            (conv => whnf); repeat ((first | (refine And.intro ?_ ?_; (focus ((repeat' (first | exact trivial | refine And.intro rfl ?_)); done))) | (refine And.intro ?_ ?_; (focus (first | omega | (simp -iota; omega) | (simp -iota; done) | decide)))); conv => whnf)
            exact ⟨_, _, Ent.refl _ _ _ _, (), by simp [MS.doesE, h4], by simp [MS.does, h4]⟩
          · (conv => whnf); repeat ((first | (refine And.intro ?_ ?_; (focus ((repeat' (first | exact trivial | refine And.intro rfl ?_)); done))) | (refine And.intro ?_ ?_; (focus (first | omega | (simp -iota; omega) | (simp -iota; done) | decide)))); conv => whnf)
            refine branchB_of (fun h5 => ?_) (fun h5 => ?_) <;> (first | replace h5 := not_t h5 | replace h5 := not_f h5 | skip) <;> (first | replace h5 := of_decide_eq_true h5 | replace h5 := of_decide_eq_false h5 | skip) <;> (first | replace h5 := Classical.not_not.1 h5 | skip) <;> (try dsimp only at h5)
            · (conv => whnf); repeat ((first | (refine And.intro ?_ ?_; (focus ((repeat' (first | exact trivial | refine And.intro rfl ?_)); done))) | (refine And.intro ?_ ?_; (focus (first | omega | (simp -iota; omega) | (simp -iota; done) | decide)))); conv => whnf)
              refine AFn.use [0] (create_ok m c.s hn0) (by kernel_rfl) rfl (by repeat' first | exact trivial | refine ⟨rfl, ?_⟩) fun _ => ?_
              (conv => whnf); repeat ((first | (refine And.intro ?_ ?_; (focus ((repeat' (first | exact trivial | refine And.intro rfl ?_)); done))) | (refine And.intro ?_ ?_; (focus (first | omega | (simp -iota; omega) | (simp -iota; done) | decide)))); conv => whnf)
              exact ⟨_, _, Ent.refl _ _ _ _, (), by simp [MS.doesE, h5], by simp [MS.does, h5]⟩
            · (conv => whnf); repeat ((first | (refine And.intro ?_ ?_; (focus ((repeat' (first | exact trivial | refine And.intro rfl ?_)); done))) | (refine And.intro ?_ ?_; (focus (first | omega | (simp -iota; omega) | (simp -iota; done) | decide)))); conv => whnf)
              refine branchB_of (fun h6 => ?_) (fun h6 => ?_) <;> (first | replace h6 := not_t h6 | replace h6 := not_f h6 | skip) <;> (first | replace h6 := of_decide_eq_true h6 | replace h6 := of_decide_eq_false h6 | skip) <;> (first | replace h6 := Classical.not_not.1 h6 | skip) <;> (try dsimp only at h6)
              · (conv => whnf); repeat ((first | (refine And.intro ?_ ?_; (focus ((repeat' (first | exact trivial | refine And.intro rfl ?_)); done))) | (refine And.intro ?_ ?_; (focus (first | omega | (simp -iota; omega) | (simp -iota; done) | decide)))); conv => whnf)
                refine AFn.use [0] (drop_ok m c.s) (by kernel_rfl) rfl (by repeat' first | exact trivial | refine ⟨rfl, ?_⟩) fun _ => ?_
                (conv => whnf); repeat ((first | (refine And.intro ?_ ?_; (focus ((repeat' (first | exact trivial | refine And.intro rfl ?_)); done))) | (refine And.intro ?_ ?_; (focus (first | omega | (simp -iota; omega) | (simp -iota; done) | decide)))); conv => whnf)
                exact ⟨_, _, Ent.refl _ _ _ _, (), by simp [MS.doesE, h6], by simp [MS.does, h6]⟩
              · (conv => whnf); repeat ((first | (refine And.intro ?_ ?_; (focus ((repeat' (first | exact trivial | refine And.intro rfl ?_)); done))) | (refine And.intro ?_ ?_; (focus (first | omega | (simp -iota; omega) | (simp -iota; done) | decide)))); conv => whnf)
                refine branchB_of (fun h7 => ?_) (fun h7 => ?_) <;> (first | replace h7 := not_t h7 | replace h7 := not_f h7 | skip) <;> (first | replace h7 := of_decide_eq_true h7 | replace h7 := of_decide_eq_false h7 | skip) <;> (first | replace h7 := Classical.not_not.1 h7 | skip) <;> (try dsimp only at h7)
                · (conv => whnf); repeat ((first | (refine And.intro ?_ ?_; (focus ((repeat' (first | exact trivial | refine And.intro rfl ?_)); done))) | (refine And.intro ?_ ?_; (focus (first | omega | (simp -iota; omega) | (simp -iota; done) | decide)))); conv => whnf)
                  refine AFn.use [0] (cut_ok m hm c.n hn) (by kernel_rfl) rfl (by repeat' first | exact trivial | refine ⟨rfl, ?_⟩) fun _ => ?_
                  (conv => whnf); repeat ((first | (refine And.intro ?_ ?_; (focus ((repeat' (first | exact trivial | refine And.intro rfl ?_)); done))) | (refine And.intro ?_ ?_; (focus (first | omega | (simp -iota; omega) | (simp -iota; done) | decide)))); conv => whnf)
                  exact ⟨_, _, Ent.refl _ _ _ _, (), by simp [MS.doesE, h7], by simp [MS.does, h7]⟩
                · (conv => whnf); repeat ((first | (refine And.intro ?_ ?_; (focus ((repeat' (first | exact trivial | refine And.intro rfl ?_)); done))) | (refine And.intro ?_ ?_; (focus (first | omega | (simp -iota; omega) | (simp -iota; done) | decide)))); conv => whnf)
                  exact ⟨_, _, Ent.refl _ _ _ _, (), by simp [MS.doesE, h0, h1, h2, h3, h4, h5, h6, h7], by simp [MS.does, h0, h1, h2, h3, h4, h5, h6, h7]⟩
def kM1 : MS := MS.put ⟨[], [], 0⟩ [97] [49]
def kM2 : MS := kM1.create [120]
def kM3 : MS := kM2.del [97]
def kM5 : MS := ⟨[⟨[97], [49], false⟩], [([120], 1)], 1⟩
theorem kM3_eq : kM3 = ⟨[⟨[97], [49], false⟩, ⟨[97], [], true⟩], [([120], 1)], 1⟩ := rfl
theorem kM3_fits : kM3.Fits := ⟨by decide, by decide, by decide, by decide, by decide, by decide, by decide, by decide, by decide⟩
theorem knows_ok : AFn Go.Proofs.Try.prog 22 [] ⟨0, []⟩ (fun _ : Unit => AV.bool true) (fun _ => ⟨0, []⟩) := by
  refine ACall.fin ?_
  refine ACall.walk (C := cfgL 83 0) (cfgLOk _ _) [] (fn := Go.Proofs.Try.f22) (by kernel_rfl) (by kernel_rfl) rfl (by kernel_rfl) (by kernel_rfl) rfl rfl ?_
  (conv => whnf); repeat ((first | (refine And.intro ?_ ?_; (focus ((repeat' (first | exact trivial | refine And.intro rfl ?_)); done))) | (refine And.intro ?_ ?_; (focus (first | omega | (simp -iota; omega) | (simp -iota; done) | decide)))); conv => whnf)
  refine AFn.use [] (new_ok) (by kernel_rfl) rfl (by repeat' first | exact trivial | refine ⟨rfl, ?_⟩) fun _ => ?_
  (conv => whnf); repeat ((first | (refine And.intro ?_ ?_; (focus ((repeat' (first | exact trivial | refine And.intro rfl ?_)); done))) | (refine And.intro ?_ ?_; (focus (first | omega | (simp -iota; omega) | (simp -iota; done) | decide)))); conv => whnf)
  refine AFn.use [0] (put_ok ⟨[], [], 0⟩ [97] [49] (by decide)) (by kernel_rfl) rfl (by repeat' first | exact trivial | refine ⟨rfl, ?_⟩) fun _ => ?_
  (conv => whnf); repeat ((first | (refine And.intro ?_ ?_; (focus ((repeat' (first | exact trivial | refine And.intro rfl ?_)); done))) | (refine And.intro ?_ ?_; (focus (first | omega | (simp -iota; omega) | (simp -iota; done) | decide)))); conv => whnf)
  refine AFn.use [0] (create_ok kM1 [120] (by decide)) (by kernel_rfl) rfl (by repeat' first | exact trivial | refine ⟨rfl, ?_⟩) fun _ => ?_
  (conv => whnf); repeat ((first | (refine And.intro ?_ ?_; (focus ((repeat' (first | exact trivial | refine And.intro rfl ?_)); done))) | (refine And.intro ?_ ?_; (focus (first | omega | (simp -iota; omega) | (simp -iota; done) | decide)))); conv => whnf)
  refine AFn.use [0] (del_ok kM2 [97] (by decide)) (by kernel_rfl) rfl (by repeat' first | exact trivial | refine ⟨rfl, ?_⟩) fun _ => ?_
  (conv => whnf); repeat ((first | (refine And.intro ?_ ?_; (focus ((repeat' (first | exact trivial | refine And.intro rfl ?_)); done))) | (refine And.intro ?_ ?_; (focus (first | omega | (simp -iota; omega) | (simp -iota; done) | decide)))); conv => whnf)
  refine AFn.use [0] (get_ok kM3 kM3_fits [97]) (by kernel_rfl) rfl (by repeat' first | exact trivial | refine ⟨rfl, ?_⟩) fun _ => ?_
  (conv => whnf); repeat ((first | (refine And.intro ?_ ?_; (focus ((repeat' (first | exact trivial | refine And.intro rfl ?_)); done))) | (refine And.intro ?_ ?_; (focus (first | omega | (simp -iota; omega) | (simp -iota; done) | decide)))); conv => whnf)
  refine AFn.use [0] (gat_x kM3 kM3_fits [120] [97]) (by kernel_rfl) rfl (by repeat' first | exact trivial | refine ⟨rfl, ?_⟩) fun o => ?_
  obtain ⟨o, rfl⟩ := o
  (conv => whnf); repeat ((first | (refine And.intro ?_ ?_; (focus ((repeat' (first | exact trivial | refine And.intro rfl ?_)); done))) | (refine And.intro ?_ ?_; (focus (first | omega | (simp -iota; omega) | (simp -iota; done) | decide)))); conv => whnf)
  refine AFn.use [0] (seq_ok kM3 (by decide)) (by kernel_rfl) rfl (by repeat' first | exact trivial | refine ⟨rfl, ?_⟩) fun _ => ?_
  (conv => whnf); repeat ((first | (refine And.intro ?_ ?_; (focus ((repeat' (first | exact trivial | refine And.intro rfl ?_)); done))) | (refine And.intro ?_ ?_; (focus (first | omega | (simp -iota; omega) | (simp -iota; done) | decide)))); conv => whnf)
  refine AFn.use [0] (mark_ok kM3) (by kernel_rfl) rfl (by repeat' first | exact trivial | refine ⟨rfl, ?_⟩) fun _ => ?_
  (conv => whnf); repeat ((first | (refine And.intro ?_ ?_; (focus ((repeat' (first | exact trivial | refine And.intro rfl ?_)); done))) | (refine And.intro ?_ ?_; (focus (first | omega | (simp -iota; omega) | (simp -iota; done) | decide)))); conv => whnf)
  refine AFn.use [0] (cut_ok kM3 kM3_fits 0 (by decide)) (by kernel_rfl) rfl (by repeat' first | exact trivial | refine ⟨rfl, ?_⟩) fun _ => ?_
  (conv => whnf); repeat ((first | (refine And.intro ?_ ?_; (focus ((repeat' (first | exact trivial | refine And.intro rfl ?_)); done))) | (refine And.intro ?_ ?_; (focus (first | omega | (simp -iota; omega) | (simp -iota; done) | decide)))); conv => whnf)
  refine AFn.use [0] (cut_ok kM3 kM3_fits 1 (by decide)) (by kernel_rfl) rfl (by repeat' first | exact trivial | refine ⟨rfl, ?_⟩) fun _ => ?_
  (conv => whnf); repeat ((first | (refine And.intro ?_ ?_; (focus ((repeat' (first | exact trivial | refine And.intro rfl ?_)); done))) | (refine And.intro ?_ ?_; (focus (first | omega | (simp -iota; omega) | (simp -iota; done) | decide)))); conv => whnf)
  refine AFn.use [0] (seq_ok (kM3.cut 1) (by decide)) (by kernel_rfl) rfl (by repeat' first | exact trivial | refine ⟨rfl, ?_⟩) fun _ => ?_
  (conv => whnf); repeat ((first | (refine And.intro ?_ ?_; (focus ((repeat' (first | exact trivial | refine And.intro rfl ?_)); done))) | (refine And.intro ?_ ?_; (focus (first | omega | (simp -iota; omega) | (simp -iota; done) | decide)))); conv => whnf)
  exact ⟨_, _, Ent.mk' (e' := [(0, AV.bool true)]) (H' := ⟨0, []⟩) [] (by kernel_rfl) ⟨AVE.of_eq rfl, trivial⟩ trivial, (), rfl, rfl⟩
theorem same_ok (a b : BL) : AFn Go.Proofs.Try.prog 18 [.iv (.sl 2 a.length (viewF a)), .iv (.sl 2 b.length (viewF b))] ⟨0, []⟩ (fun _ : Unit => AV.bool (decide (a = b))) (fun _ => ⟨0, []⟩) := by
  refine ACall.walkF (C := cfg 45 0) (cfgOk _ _) sch18 (fn := Go.Proofs.Try.f18) (by kernel_rfl) (by kernel_rfl) rfl (by kernel_rfl) (by kernel_rfl) rfl rfl fun hlen hheap => ?_
  obtain ⟨hla, hlb, _⟩ := hlen
  simp only [lenF] at hla hlb
  (conv => whnf); repeat ((first | (refine And.intro ?_ ?_; (focus ((repeat' (first | exact trivial | refine And.intro rfl ?_)); done))) | (refine And.intro ?_ ?_; (focus (first | omega | (simp -iota; omega) | (simp -iota; done) | decide)))); conv => whnf)
  refine branchB_of (fun h1 => ?_) (fun h1 => ?_) <;> (first | replace h1 := not_t h1 | replace h1 := not_f h1 | skip) <;> (first | replace h1 := of_decide_eq_true h1 | replace h1 := of_decide_eq_false h1 | skip) <;> (first | replace h1 := Classical.not_not.1 h1 | skip) <;> (try dsimp only at h1)
  · (conv => whnf); repeat ((first | (refine And.intro ?_ ?_; (focus ((repeat' (first | exact trivial | refine And.intro rfl ?_)); done))) | (refine And.intro ?_ ?_; (focus (first | omega | (simp -iota; omega) | (simp -iota; done) | decide)))); conv => whnf)
    exact ⟨(), by congr 3; simp; intro e; subst e; omega, rfl⟩
  · (conv => whnf); repeat ((first | (refine And.intro ?_ ?_; (focus ((repeat' (first | exact trivial | refine And.intro rfl ?_)); done))) | (refine And.intro ?_ ?_; (focus (first | omega | (simp -iota; omega) | (simp -iota; done) | decide)))); conv => whnf)
    refine AWP.loop (X := { i : Nat // i ≤ a.length ∧ a.take i = b.take i }) (fun i => [(0, .iv (.sl 2 a.length (viewF a))), (1, .iv (.sl 2 b.length (viewF b))), (5, AV.int .i64 i.1)]) (fun i => ⟨0, []⟩) (fun i => a.length - i.1) (⟨0, Nat.zero_le _, rfl⟩) ?_ fun i => AWP.go (S := sch18) (cfgOk _ _) (.of_eq (by kernel_rfl)) ?_
    · exact Ent.mk' [] (by kernel_rfl) (by repeat' first | exact trivial | refine And.intro (AVE.refl _) ?_ | refine And.intro (AVE.int (by first | rfl | omega | (simp -iota; omega) | (simp -iota; done))) ?_ | refine And.intro (AVE.bool (by assumption)) ?_ | refine And.intro (AVE.len (by first | rfl | omega | (simp -iota; omega) | (simp -iota; done))) ?_) (by repeat' (first | exact trivial | refine ⟨⟨_, rfl, ChE.refl _⟩, ?_⟩))
    · obtain ⟨i, hi, hab⟩ := i
      (conv => whnf); repeat ((first | (refine And.intro ?_ ?_; (focus ((repeat' (first | exact trivial | refine And.intro rfl ?_)); done))) | (refine And.intro ?_ ?_; (focus (first | omega | (simp -iota; omega) | (simp -iota; done) | decide)))); conv => whnf)
      refine branchB_of (fun h2 => ?_) (fun h2 => ?_) <;> (first | replace h2 := not_t h2 | replace h2 := not_f h2 | skip) <;> (first | replace h2 := of_decide_eq_true h2 | replace h2 := of_decide_eq_false h2 | skip) <;> (first | replace h2 := Classical.not_not.1 h2 | skip) <;> (try dsimp only at h2)
      · (conv => whnf); repeat ((first | (refine And.intro ?_ ?_; (focus ((repeat' (first | exact trivial | refine And.intro rfl ?_)); done))) | (refine And.intro ?_ ?_; (focus (first | omega | (simp -iota; omega) | (simp -iota; done) | decide)))); conv => whnf)
        have hix : ((i : Nat) : Int).toNat = i := by simp
        simp -iota only [hix]
        have hia : i < a.length := by omega
        have hib : i < b.length := by omega
        have ea : a.take (i + 1) = a.take i ++ [a.getD i ([], [])] := by rw [List.take_succ_eq_append_getElem hia]; simp [List.getD, hia]
        have eb : b.take (i + 1) = b.take i ++ [b.getD i ([], [])] := by rw [List.take_succ_eq_append_getElem hib]; simp [List.getD, hib]
        have hne : a.getD i ([], []) ≠ b.getD i ([], []) → a ≠ b := fun h e => h (by rw [e])
        refine branchB_of (fun h3 => ?_) (fun h3 => ?_) <;> (first | replace h3 := not_t h3 | replace h3 := not_f h3 | skip) <;> (first | replace h3 := of_decide_eq_true h3 | replace h3 := of_decide_eq_false h3 | skip) <;> (first | replace h3 := Classical.not_not.1 h3 | skip) <;> (try dsimp only at h3)
        · (conv => whnf); repeat ((first | (refine And.intro ?_ ?_; (focus ((repeat' (first | exact trivial | refine And.intro rfl ?_)); done))) | (refine And.intro ?_ ?_; (focus (first | omega | (simp -iota; omega) | (simp -iota; done) | decide)))); conv => whnf)
          exact ⟨(), by congr 3; simp; exact hne fun e => h3 (by rw [e]), rfl⟩
        · (conv => whnf); repeat ((first | (refine And.intro ?_ ?_; (focus ((repeat' (first | exact trivial | refine And.intro rfl ?_)); done))) | (refine And.intro ?_ ?_; (focus (first | omega | (simp -iota; omega) | (simp -iota; done) | decide)))); conv => whnf)
          refine branchB_of (fun h4 => ?_) (fun h4 => ?_) <;> (first | replace h4 := not_t h4 | replace h4 := not_f h4 | skip) <;> (first | replace h4 := of_decide_eq_true h4 | replace h4 := of_decide_eq_false h4 | skip) <;> (first | replace h4 := Classical.not_not.1 h4 | skip) <;> (try dsimp only at h4)
          · (conv => whnf); repeat ((first | (refine And.intro ?_ ?_; (focus ((repeat' (first | exact trivial | refine And.intro rfl ?_)); done))) | (refine And.intro ?_ ?_; (focus (first | omega | (simp -iota; omega) | (simp -iota; done) | decide)))); conv => whnf)
            simp only [hix] at h4
            exact ⟨(), by congr 3; simp; exact hne fun e => h4 (by rw [e]), rfl⟩
          · (conv => whnf); repeat ((first | (refine And.intro ?_ ?_; (focus ((repeat' (first | exact trivial | refine And.intro rfl ?_)); done))) | (refine And.intro ?_ ?_; (focus (first | omega | (simp -iota; omega) | (simp -iota; done) | decide)))); conv => whnf)
            simp only [hix] at h4
            refine ⟨⟨i + 1, by omega, by rw [ea, eb, hab]; congr 2; exact Prod.ext h3 h4⟩, Ent.mk' [] (by kernel_rfl) (by repeat' first | exact trivial | refine And.intro (AVE.refl _) ?_ | refine And.intro (AVE.int (by first | rfl | omega | (simp -iota; omega) | (simp -iota; done))) ?_ | refine And.intro (AVE.bool (by assumption)) ?_ | refine And.intro (AVE.len (by first | rfl | omega | (simp -iota; omega) | (simp -iota; done))) ?_) (by repeat' (first | exact trivial | refine ⟨⟨_, rfl, ChE.refl _⟩, ?_⟩)), ?_⟩
            show a.length - (i + 1) < a.length - i
            omega
      · (conv => whnf); repeat ((first | (refine And.intro ?_ ?_; (focus ((repeat' (first | exact trivial | refine And.intro rfl ?_)); done))) | (refine And.intro ?_ ?_; (focus (first | omega | (simp -iota; omega) | (simp -iota; done) | decide)))); conv => whnf)
        have e : a = b := by
          have h1 : a.take i = a := List.take_of_length_le (by omega)
          have h2 : b.take i = b := List.take_of_length_le (by omega)
          rw [← h1, ← h2, hab]
        exact ⟨(), by simp [e], rfl⟩
end Go.Proofs.Ytaoambbfjdijjaa.Ax
