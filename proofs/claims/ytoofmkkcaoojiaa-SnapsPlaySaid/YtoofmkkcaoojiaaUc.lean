/-
  slices.Sort at numbers (uint64): the pivot.
-/
import Derived.Test.YtoofmkkcaoojiaaUb
import Derived.Sort.LotD1
import Derived.Sort.LotD4
namespace Go.Proofs.Ytoofmkkcaoojiaa.Ax
open Go.RowKit Go.Sort
set_option maxRecDepth 100000
@[reducible] def uSH (n : Nat) (d : Array Nat) (s : Nat) : AH := ⟨2, [(0, .rowc 26 1 n (uF d)), (1, .cells 3 [AV.int .i64 s])]⟩
theorem order2_ok (n : Nat) (d : Array Nat) (a b s : Nat) (hn : d.size = n) (ha : a < n) (hb : b < n) (hs : s ≤ 1000) (h1000 : n ≤ 1000000) : AFn Go.Proofs.Try.prog 71 [.row 0 1 0 n, AV.int .i64 a, AV.int .i64 b, .ptr 1 0] (uSH n d s) (fun _ : Unit => .tup [AV.int .i64 (order2 nlt d a b s).1, AV.int .i64 (order2 nlt d a b s).2.1]) (fun _ => uSH n d (order2 nlt d a b s).2.2) := by
  have i1 : ((a : Nat) : Int).toNat = a := by simp
  have i2 : ((b : Nat) : Int).toNat = b := by simp
  refine ACall.fin ?_
  refine ACall.walk (C := cfgU 28 2) (cfgUOk _ _) sch71 (fn := Go.Proofs.Try.f71) (by kernel_rfl) (by kernel_rfl) rfl (by kernel_rfl) (by kernel_rfl) rfl rfl ?_
  (conv => whnf); repeat ((first | (refine And.intro ?_ ?_; (focus ((repeat' (first | exact trivial | refine And.intro rfl ?_)); done))) | (refine And.intro ?_ ?_; (focus (first | omega | (dsimp -iota only; omega) | (simp -iota; omega) | (simp -iota; done) | decide)))); conv => whnf)
  refine AFn.use [] (less_ok _ _) (by kernel_rfl) rfl (by repeat' first | exact trivial | refine ⟨rfl, ?_⟩) fun _ => ?_
  (conv => whnf); repeat ((first | (refine And.intro ?_ ?_; (focus ((repeat' (first | exact trivial | refine And.intro rfl ?_)); done))) | (refine And.intro ?_ ?_; (focus (first | omega | (dsimp -iota only; omega) | (simp -iota; omega) | (simp -iota; done) | decide)))); conv => whnf)
  refine branchB_of (fun g => ?_) (fun g => ?_) <;> (first | replace g := not_t g | replace g := not_f g | skip) <;> (first | replace g := of_decide_eq_true g | replace g := of_decide_eq_false g | skip) <;> (first | replace g := Classical.not_not.1 g | skip) <;> (try dsimp only at g)
  · have g4 : nlt d[b]! d[a]! = true := by simp only [i1, i2, Nat.zero_add] at g; simpa [nlt] using g
    have e0 : order2 nlt d a b s = (b, a, s + 1) := by unfold order2; rw [if_pos g4]
    rw [e0]
    (conv => whnf); repeat ((first | (refine And.intro ?_ ?_; (focus ((repeat' (first | exact trivial | refine And.intro rfl ?_)); done))) | (refine And.intro ?_ ?_; (focus (first | omega | (dsimp -iota only; omega) | (simp -iota; omega) | (simp -iota; done) | decide)))); conv => whnf)
    refine ⟨_, _, Ent.mk' (e' := [(0, .tup [AV.int .i64 b, AV.int .i64 a])]) (H' := uSH n d (s + 1)) [some 0, some 1] (by kernel_rfl) ?_ ?_, (), rfl, rfl⟩
    · exact ⟨AVE.refl _, trivial⟩
    · (repeat' first | exact trivial | refine ⟨⟨_, rfl, ChE.refl _⟩, ?_⟩)
  · have g4 : ¬ nlt d[b]! d[a]! = true := by simp only [i1, i2, Nat.zero_add] at g; simpa [nlt] using g
    have e0 : order2 nlt d a b s = (a, b, s) := by unfold order2; rw [if_neg g4]
    rw [e0]
    (conv => whnf); repeat ((first | (refine And.intro ?_ ?_; (focus ((repeat' (first | exact trivial | refine And.intro rfl ?_)); done))) | (refine And.intro ?_ ?_; (focus (first | omega | (dsimp -iota only; omega) | (simp -iota; omega) | (simp -iota; done) | decide)))); conv => whnf)
    refine ⟨_, _, Ent.mk' (e' := [(0, .tup [AV.int .i64 a, AV.int .i64 b])]) (H' := uSH n d s) [some 0, some 1] (by kernel_rfl) ?_ ?_, (), rfl, rfl⟩
    · exact ⟨AVE.refl _, trivial⟩
    · (repeat' first | exact trivial | refine ⟨⟨_, rfl, ChE.refl _⟩, ?_⟩)
theorem ACall.eqArgs {P : Program} {f : FuncId} {args args' : List AV} {H : AH} {K QP : AV → AH → Prop} (e : args = args') (h : ACall P f args' H K QP) : ACall P f args H K QP := e ▸ h
theorem order2_lt {d : Array Nat} {a b s n : Nat} (ha : a < n) (hb : b < n) : (order2 nlt d a b s).1 < n ∧ (order2 nlt d a b s).2.1 < n := by
  rcases order2_mem nlt d a b s with ⟨h1, h2⟩ | ⟨h1, h2⟩ <;> rw [h1, h2] <;> exact ⟨by assumption, by assumption⟩
theorem median_ok (n : Nat) (d : Array Nat) (a b c s : Nat) (hn : d.size = n) (ha : a < n) (hb : b < n) (hc : c < n) (hs : s ≤ 900) (h1000 : n ≤ 1000000) : AFn Go.Proofs.Try.prog 68 [.row 0 1 0 n, AV.int .i64 a, AV.int .i64 b, AV.int .i64 c, .ptr 1 0] (uSH n d s) (fun _ : Unit => AV.int .i64 (median nlt d a b c s).1) (fun _ => uSH n d (median nlt d a b c s).2) := by
  have c1 := order2_count (lt := nlt) d a b s
  obtain ⟨l1, l2⟩ := order2_lt (d := d) (s := s) ha hb
  generalize hr1 : order2 nlt d a b s = r1 at *
  have c2 := order2_count (lt := nlt) d r1.2.1 c r1.2.2
  obtain ⟨l3, l4⟩ := order2_lt (d := d) (s := r1.2.2) l2 hc
  generalize hr2 : order2 nlt d r1.2.1 c r1.2.2 = r2 at *
  have c3 := order2_count (lt := nlt) d r1.1 r2.1 r2.2.2
  generalize hr3 : order2 nlt d r1.1 r2.1 r2.2.2 = r3 at *
  have hm : median nlt d a b c s = (r3.2.1, r3.2.2) := by
    unfold median
    simp only [hr1, hr2, hr3]
  rw [hm]
  refine ACall.fin ?_
  refine ACall.walk (C := cfgU 36 2) (cfgUOk _ _) [] (fn := Go.Proofs.Try.f68) (by kernel_rfl) (by kernel_rfl) rfl (by kernel_rfl) (by kernel_rfl) rfl rfl ?_
  (conv => whnf); repeat ((first | (refine And.intro ?_ ?_; (focus ((repeat' (first | exact trivial | refine And.intro rfl ?_)); done))) | (refine And.intro ?_ ?_; (focus (first | omega | (dsimp -iota only; omega) | (simp -iota; omega) | (simp -iota; done) | decide)))); conv => whnf)
  refine AFn.use [0, 1] (hr1 ▸ order2_ok n d a b s hn ha hb (by omega) h1000) (by kernel_rfl) rfl (by repeat' first | exact trivial | refine ⟨rfl, ?_⟩) fun _ => ?_
  (conv => whnf); repeat ((first | (refine And.intro ?_ ?_; (focus ((repeat' (first | exact trivial | refine And.intro rfl ?_)); done))) | (refine And.intro ?_ ?_; (focus (first | omega | (dsimp -iota only; omega) | (simp -iota; omega) | (simp -iota; done) | decide)))); conv => whnf)
  refine AFn.use [0, 1] (hr2 ▸ order2_ok n d r1.2.1 c r1.2.2 hn l2 hc (by omega) h1000) (by kernel_rfl) rfl (by repeat' first | exact trivial | refine ⟨rfl, ?_⟩) fun _ => ?_
  (conv => whnf); repeat ((first | (refine And.intro ?_ ?_; (focus ((repeat' (first | exact trivial | refine And.intro rfl ?_)); done))) | (refine And.intro ?_ ?_; (focus (first | omega | (dsimp -iota only; omega) | (simp -iota; omega) | (simp -iota; done) | decide)))); conv => whnf)
  refine AFn.use [0, 1] (hr3 ▸ order2_ok n d r1.1 r2.1 r2.2.2 hn l1 l3 (by omega) h1000) (by kernel_rfl) rfl (by repeat' first | exact trivial | refine ⟨rfl, ?_⟩) fun _ => ?_
  (conv => whnf); repeat ((first | (refine And.intro ?_ ?_; (focus ((repeat' (first | exact trivial | refine And.intro rfl ?_)); done))) | (refine And.intro ?_ ?_; (focus (first | omega | (dsimp -iota only; omega) | (simp -iota; omega) | (simp -iota; done) | decide)))); conv => whnf)
  refine ⟨_, _, Ent.mk' (e' := [(0, AV.int .i64 r3.2.1)]) (H' := uSH n d r3.2.2) [some 0, some 1] (by kernel_rfl) ?_ ?_, (), rfl, rfl⟩
  · exact ⟨AVE.refl _, trivial⟩
  · (repeat' first | exact trivial | refine ⟨⟨_, rfl, ChE.refl _⟩, ?_⟩)
theorem medAdj_ok (n : Nat) (d : Array Nat) (a s : Nat) (hn : d.size = n) (ha : 1 ≤ a) (hb : a + 1 < n) (hs : s ≤ 900) (h1000 : n ≤ 1000000) : AFn Go.Proofs.Try.prog 67 [.row 0 1 0 n, AV.int .i64 a, .ptr 1 0] (uSH n d s) (fun _ : Unit => AV.int .i64 (medianAdjacent nlt d a s).1) (fun _ => uSH n d (medianAdjacent nlt d a s).2) := by
  obtain ⟨m, rfl⟩ : ∃ m, a = m + 1 := ⟨a - 1, by omega⟩
  unfold medianAdjacent
  have h := median_ok n d (m + 1 - 1) (m + 1) (m + 1 + 1) s hn (by omega) (by omega) (by omega) hs h1000
  refine ACall.fin ?_
  refine ACall.walk (C := cfgU 15 2) (cfgUOk _ _) [] (fn := Go.Proofs.Try.f67) (by kernel_rfl) (by kernel_rfl) rfl (by kernel_rfl) (by kernel_rfl) rfl rfl ?_
  (conv => whnf); repeat ((first | (refine And.intro ?_ ?_; (focus ((repeat' (first | exact trivial | refine And.intro rfl ?_)); done))) | (refine And.intro ?_ ?_; (focus (first | omega | (dsimp -iota only; omega) | (simp -iota; omega) | (simp -iota; done) | decide)))); conv => whnf)
  have e1 : ((m + 1 : Nat) : Int) - 1 = ((m + 1 - 1 : Nat) : Int) := by omega
  have e2 : ((m + 1 : Nat) : Int) + 1 = ((m + 1 + 1 : Nat) : Int) := by omega
  refine ACall.eqArgs (args' := [.row 0 1 0 n, AV.int .i64 (m + 1 - 1 : Nat), AV.int .i64 (m + 1 : Nat), AV.int .i64 (m + 1 + 1 : Nat), .ptr 1 0]) (show [AV.row 0 1 0 n, AV.int .i64 (((m + 1 : Nat) : Int) - 1), AV.int .i64 (m + 1 : Nat), AV.int .i64 (((m + 1 : Nat) : Int) + 1), AV.ptr 1 0] = _ by rw [e1, e2]) ?_
  refine AFn.use [0, 1] (h) (by kernel_rfl) rfl (by repeat' first | exact trivial | refine ⟨rfl, ?_⟩) fun _ => ?_
  (conv => whnf); repeat ((first | (refine And.intro ?_ ?_; (focus ((repeat' (first | exact trivial | refine And.intro rfl ?_)); done))) | (refine And.intro ?_ ?_; (focus (first | omega | (dsimp -iota only; omega) | (simp -iota; omega) | (simp -iota; done) | decide)))); conv => whnf)
  refine ⟨_, _, Ent.mk' (e' := [(0, AV.int .i64 (median nlt d (m + 1 - 1) (m + 1) (m + 1 + 1) s).1)]) (H' := uSH n d (median nlt d (m + 1 - 1) (m + 1) (m + 1 + 1) s).2) [some 0, some 1] (by kernel_rfl) ?_ ?_, (), rfl, rfl⟩
  · exact ⟨AVE.refl _, trivial⟩
  · (repeat' first | exact trivial | refine ⟨⟨_, rfl, ChE.refl _⟩, ?_⟩)
/-- The hint's number. -/
def hintN : Hint → Int
  | .unknown => 0
  | .increasing => 1
  | .decreasing => 2
theorem pivot_ok (n : Nat) (d : Array Nat) (a b : Nat) (hn : d.size = n) (hab : a + 12 < b) (hb : b ≤ n) (h1000 : n ≤ 1000000) : AFn Go.Proofs.Try.prog 55 [.row 0 1 0 n, AV.int .i64 a, AV.int .i64 b] (uH n d) (fun _ : Unit => .tup [AV.int .i64 (choosePivot nlt d a b).1, AV.int .i64 (hintN (choosePivot nlt d a b).2)]) (fun _ => uH n d) := by
  have e1 : (a : Int) + ((b : Int) - a) / 4 * 1 = ((a + (b - a) / 4 * 1 : Nat) : Int) := by omega
  have e2 : (a : Int) + ((b : Int) - a) / 4 * 2 = ((a + (b - a) / 4 * 2 : Nat) : Int) := by omega
  have e3 : (a : Int) + ((b : Int) - a) / 4 * 3 = ((a + (b - a) / 4 * 3 : Nat) : Int) := by omega
  refine ACall.fin ?_
  refine ACall.walk (C := cfgU 57 1) (cfgUOk _ _) [] (fn := Go.Proofs.Try.f55) (by kernel_rfl) (by kernel_rfl) rfl (by kernel_rfl) (by kernel_rfl) rfl rfl ?_
  (conv => whnf); repeat ((first | (refine And.intro ?_ ?_; (focus ((repeat' (first | exact trivial | refine And.intro rfl ?_)); done))) | (refine And.intro ?_ ?_; (focus (first | omega | (dsimp -iota only; omega) | (simp -iota; omega) | (simp -iota; done) | decide)))); conv => whnf)
  refine branchB_of (fun h8 => ?_) (fun h8 => ?_) <;> (first | replace h8 := not_t h8 | replace h8 := not_f h8 | skip) <;> (first | replace h8 := of_decide_eq_true h8 | replace h8 := of_decide_eq_false h8 | skip) <;> (first | replace h8 := Classical.not_not.1 h8 | skip) <;> (try dsimp only at h8)
  rotate_left
  · exact absurd (show (b : Int) - a ≥ 8 by omega) h8
  (conv => whnf); repeat ((first | (refine And.intro ?_ ?_; (focus ((repeat' (first | exact trivial | refine And.intro rfl ?_)); done))) | (refine And.intro ?_ ?_; (focus (first | omega | (dsimp -iota only; omega) | (simp -iota; omega) | (simp -iota; done) | decide)))); conv => whnf)
  refine branchB_of (fun h50 => ?_) (fun h50 => ?_) <;> (first | replace h50 := not_t h50 | replace h50 := not_f h50 | skip) <;> (first | replace h50 := of_decide_eq_true h50 | replace h50 := of_decide_eq_false h50 | skip) <;> (first | replace h50 := Classical.not_not.1 h50 | skip) <;> (try dsimp only at h50)
  · have m1 := medAdj_ok n d (a + (b - a) / 4 * 1) 0 hn (by omega) (by omega) (by omega) h1000
    have c1 : (medianAdjacent nlt d (a + (b - a) / 4 * 1) 0).2 ≤ 3 := medianAdjacent_count nlt d _ 0
    have l1 : (medianAdjacent nlt d (a + (b - a) / 4 * 1) 0).1 < n := by rcases medianAdjacent_mem nlt d (a + (b - a) / 4 * 1) 0 with h | h | h <;> rw [h] <;> omega
    generalize hri : medianAdjacent nlt d (a + (b - a) / 4 * 1) 0 = ri at m1 c1 l1
    have m2 := medAdj_ok n d (a + (b - a) / 4 * 2) ri.2 hn (by omega) (by omega) (by omega) h1000
    have c2 : (medianAdjacent nlt d (a + (b - a) / 4 * 2) ri.2).2 ≤ ri.2 + 3 := medianAdjacent_count nlt d _ _
    have l2 : (medianAdjacent nlt d (a + (b - a) / 4 * 2) ri.2).1 < n := by rcases medianAdjacent_mem nlt d (a + (b - a) / 4 * 2) ri.2 with h | h | h <;> rw [h] <;> omega
    generalize hrj : medianAdjacent nlt d (a + (b - a) / 4 * 2) ri.2 = rj at m2 c2 l2
    have m3 := medAdj_ok n d (a + (b - a) / 4 * 3) rj.2 hn (by omega) (by omega) (by omega) h1000
    have c3 : (medianAdjacent nlt d (a + (b - a) / 4 * 3) rj.2).2 ≤ rj.2 + 3 := medianAdjacent_count nlt d _ _
    have l3 : (medianAdjacent nlt d (a + (b - a) / 4 * 3) rj.2).1 < n := by rcases medianAdjacent_mem nlt d (a + (b - a) / 4 * 3) rj.2 with h | h | h <;> rw [h] <;> omega
    generalize hrk : medianAdjacent nlt d (a + (b - a) / 4 * 3) rj.2 = rk at m3 c3 l3
    have m4 := median_ok n d ri.1 rj.1 rk.1 rk.2 hn l1 l2 l3 (by omega) h1000
    generalize hr : median nlt d ri.1 rj.1 rk.1 rk.2 = r at m4
    have hch : choosePivot nlt d a b = (r.1, if r.2 = 0 then .increasing else if r.2 = 12 then .decreasing else .unknown) := by
      unfold choosePivot
      simp only [if_pos (show b - a ≥ 8 by omega), if_pos (show b - a ≥ 50 by omega), hri, hrj, hrk, hr]
    (conv => whnf); repeat ((first | (refine And.intro ?_ ?_; (focus ((repeat' (first | exact trivial | refine And.intro rfl ?_)); done))) | (refine And.intro ?_ ?_; (focus (first | omega | (dsimp -iota only; omega) | (simp -iota; omega) | (simp -iota; done) | decide)))); conv => whnf)
    refine ACall.eqArgs (args' := [.row 0 1 0 n, AV.int .i64 (((a + (b - a) / 4 * 1) : Nat) : Int), .ptr 1 0]) (show [AV.row 0 1 0 n, AV.int .i64 ((a : Int) + ((b : Int) - a) / 4 * 1), AV.ptr 1 0] = [.row 0 1 0 n, AV.int .i64 (((a + (b - a) / 4 * 1) : Nat) : Int), .ptr 1 0] by rw [e1]) ?_
    refine AFn.use [0, 1] (m1) (by kernel_rfl) rfl (by repeat' first | exact trivial | refine ⟨rfl, ?_⟩) fun _ => ?_
    (conv => whnf); repeat ((first | (refine And.intro ?_ ?_; (focus ((repeat' (first | exact trivial | refine And.intro rfl ?_)); done))) | (refine And.intro ?_ ?_; (focus (first | omega | (dsimp -iota only; omega) | (simp -iota; omega) | (simp -iota; done) | decide)))); conv => whnf)
    refine ACall.eqArgs (args' := [.row 0 1 0 n, AV.int .i64 (((a + (b - a) / 4 * 2) : Nat) : Int), .ptr 1 0]) (show [AV.row 0 1 0 n, AV.int .i64 ((a : Int) + ((b : Int) - a) / 4 * 2), AV.ptr 1 0] = [.row 0 1 0 n, AV.int .i64 (((a + (b - a) / 4 * 2) : Nat) : Int), .ptr 1 0] by rw [e2]) ?_
    refine AFn.use [0, 1] (m2) (by kernel_rfl) rfl (by repeat' first | exact trivial | refine ⟨rfl, ?_⟩) fun _ => ?_
    (conv => whnf); repeat ((first | (refine And.intro ?_ ?_; (focus ((repeat' (first | exact trivial | refine And.intro rfl ?_)); done))) | (refine And.intro ?_ ?_; (focus (first | omega | (dsimp -iota only; omega) | (simp -iota; omega) | (simp -iota; done) | decide)))); conv => whnf)
    refine ACall.eqArgs (args' := [.row 0 1 0 n, AV.int .i64 (((a + (b - a) / 4 * 3) : Nat) : Int), .ptr 1 0]) (show [AV.row 0 1 0 n, AV.int .i64 ((a : Int) + ((b : Int) - a) / 4 * 3), AV.ptr 1 0] = [.row 0 1 0 n, AV.int .i64 (((a + (b - a) / 4 * 3) : Nat) : Int), .ptr 1 0] by rw [e3]) ?_
    refine AFn.use [0, 1] (m3) (by kernel_rfl) rfl (by repeat' first | exact trivial | refine ⟨rfl, ?_⟩) fun _ => ?_
    (conv => whnf); repeat ((first | (refine And.intro ?_ ?_; (focus ((repeat' (first | exact trivial | refine And.intro rfl ?_)); done))) | (refine And.intro ?_ ?_; (focus (first | omega | (dsimp -iota only; omega) | (simp -iota; omega) | (simp -iota; done) | decide)))); conv => whnf)
    refine AFn.use [0, 1] (m4) (by kernel_rfl) rfl (by repeat' first | exact trivial | refine ⟨rfl, ?_⟩) fun _ => ?_
    (conv => whnf); repeat ((first | (refine And.intro ?_ ?_; (focus ((repeat' (first | exact trivial | refine And.intro rfl ?_)); done))) | (refine And.intro ?_ ?_; (focus (first | omega | (dsimp -iota only; omega) | (simp -iota; omega) | (simp -iota; done) | decide)))); conv => whnf)
    refine branchB_of (fun z0 => ?_) (fun z0 => ?_) <;> (first | replace z0 := not_t z0 | replace z0 := not_f z0 | skip) <;> (first | replace z0 := of_decide_eq_true z0 | replace z0 := of_decide_eq_false z0 | skip) <;> (first | replace z0 := Classical.not_not.1 z0 | skip) <;> (try dsimp only at z0)
    · have ec : choosePivot nlt d a b = (r.1, .increasing) := by rw [hch, if_pos (by omega)]
      rw [ec]
      (conv => whnf); repeat ((first | (refine And.intro ?_ ?_; (focus ((repeat' (first | exact trivial | refine And.intro rfl ?_)); done))) | (refine And.intro ?_ ?_; (focus (first | omega | (dsimp -iota only; omega) | (simp -iota; omega) | (simp -iota; done) | decide)))); conv => whnf)
      refine ⟨_, _, Ent.mk' (e' := [(0, .tup [AV.int .i64 r.1, AV.int .i64 1])]) (H' := uH n d) [some 0] (by kernel_rfl) ?_ ?_, (), rfl, rfl⟩
      · exact ⟨AVE.refl _, trivial⟩
      · (repeat' first | exact trivial | refine ⟨⟨_, rfl, ChE.refl _⟩, ?_⟩)
    · (conv => whnf); repeat ((first | (refine And.intro ?_ ?_; (focus ((repeat' (first | exact trivial | refine And.intro rfl ?_)); done))) | (refine And.intro ?_ ?_; (focus (first | omega | (dsimp -iota only; omega) | (simp -iota; omega) | (simp -iota; done) | decide)))); conv => whnf)
      refine branchB_of (fun z1 => ?_) (fun z1 => ?_) <;> (first | replace z1 := not_t z1 | replace z1 := not_f z1 | skip) <;> (first | replace z1 := of_decide_eq_true z1 | replace z1 := of_decide_eq_false z1 | skip) <;> (first | replace z1 := Classical.not_not.1 z1 | skip) <;> (try dsimp only at z1)
      · have ec : choosePivot nlt d a b = (r.1, .decreasing) := by rw [hch, if_neg (by omega), if_pos (by omega)]
        rw [ec]
        (conv => whnf); repeat ((first | (refine And.intro ?_ ?_; (focus ((repeat' (first | exact trivial | refine And.intro rfl ?_)); done))) | (refine And.intro ?_ ?_; (focus (first | omega | (dsimp -iota only; omega) | (simp -iota; omega) | (simp -iota; done) | decide)))); conv => whnf)
        refine ⟨_, _, Ent.mk' (e' := [(0, .tup [AV.int .i64 r.1, AV.int .i64 2])]) (H' := uH n d) [some 0] (by kernel_rfl) ?_ ?_, (), rfl, rfl⟩
        · exact ⟨AVE.refl _, trivial⟩
        · (repeat' first | exact trivial | refine ⟨⟨_, rfl, ChE.refl _⟩, ?_⟩)
      · have ec : choosePivot nlt d a b = (r.1, .unknown) := by rw [hch, if_neg (by omega), if_neg (by omega)]
        rw [ec]
        (conv => whnf); repeat ((first | (refine And.intro ?_ ?_; (focus ((repeat' (first | exact trivial | refine And.intro rfl ?_)); done))) | (refine And.intro ?_ ?_; (focus (first | omega | (dsimp -iota only; omega) | (simp -iota; omega) | (simp -iota; done) | decide)))); conv => whnf)
        refine ⟨_, _, Ent.mk' (e' := [(0, .tup [AV.int .i64 r.1, AV.int .i64 0])]) (H' := uH n d) [some 0] (by kernel_rfl) ?_ ?_, (), rfl, rfl⟩
        · exact ⟨AVE.refl _, trivial⟩
        · (repeat' first | exact trivial | refine ⟨⟨_, rfl, ChE.refl _⟩, ?_⟩)
  · have m4 := median_ok n d (a + (b - a) / 4 * 1) (a + (b - a) / 4 * 2) (a + (b - a) / 4 * 3) 0 hn (by omega) (by omega) (by omega) (by omega) h1000
    generalize hr : median nlt d (a + (b - a) / 4 * 1) (a + (b - a) / 4 * 2) (a + (b - a) / 4 * 3) 0 = r at m4
    have hch : choosePivot nlt d a b = (r.1, if r.2 = 0 then .increasing else if r.2 = 12 then .decreasing else .unknown) := by
      unfold choosePivot
      simp only [if_pos (show b - a ≥ 8 by omega), if_neg (show ¬ b - a ≥ 50 by omega), hr]
    (conv => whnf); repeat ((first | (refine And.intro ?_ ?_; (focus ((repeat' (first | exact trivial | refine And.intro rfl ?_)); done))) | (refine And.intro ?_ ?_; (focus (first | omega | (dsimp -iota only; omega) | (simp -iota; omega) | (simp -iota; done) | decide)))); conv => whnf)
    refine ACall.eqArgs (args' := [.row 0 1 0 n, AV.int .i64 (((a + (b - a) / 4 * 1) : Nat) : Int), AV.int .i64 (((a + (b - a) / 4 * 2) : Nat) : Int), AV.int .i64 (((a + (b - a) / 4 * 3) : Nat) : Int), .ptr 1 0]) (show [AV.row 0 1 0 n, AV.int .i64 ((a : Int) + ((b : Int) - a) / 4 * 1), AV.int .i64 ((a : Int) + ((b : Int) - a) / 4 * 2), AV.int .i64 ((a : Int) + ((b : Int) - a) / 4 * 3), AV.ptr 1 0] = [.row 0 1 0 n, AV.int .i64 (((a + (b - a) / 4 * 1) : Nat) : Int), AV.int .i64 (((a + (b - a) / 4 * 2) : Nat) : Int), AV.int .i64 (((a + (b - a) / 4 * 3) : Nat) : Int), .ptr 1 0] by rw [e1, e2, e3]) ?_
    refine AFn.use [0, 1] (m4) (by kernel_rfl) rfl (by repeat' first | exact trivial | refine ⟨rfl, ?_⟩) fun _ => ?_
    (conv => whnf); repeat ((first | (refine And.intro ?_ ?_; (focus ((repeat' (first | exact trivial | refine And.intro rfl ?_)); done))) | (refine And.intro ?_ ?_; (focus (first | omega | (dsimp -iota only; omega) | (simp -iota; omega) | (simp -iota; done) | decide)))); conv => whnf)
    refine branchB_of (fun z0 => ?_) (fun z0 => ?_) <;> (first | replace z0 := not_t z0 | replace z0 := not_f z0 | skip) <;> (first | replace z0 := of_decide_eq_true z0 | replace z0 := of_decide_eq_false z0 | skip) <;> (first | replace z0 := Classical.not_not.1 z0 | skip) <;> (try dsimp only at z0)
    · have ec : choosePivot nlt d a b = (r.1, .increasing) := by rw [hch, if_pos (by omega)]
      rw [ec]
      (conv => whnf); repeat ((first | (refine And.intro ?_ ?_; (focus ((repeat' (first | exact trivial | refine And.intro rfl ?_)); done))) | (refine And.intro ?_ ?_; (focus (first | omega | (dsimp -iota only; omega) | (simp -iota; omega) | (simp -iota; done) | decide)))); conv => whnf)
      refine ⟨_, _, Ent.mk' (e' := [(0, .tup [AV.int .i64 r.1, AV.int .i64 1])]) (H' := uH n d) [some 0] (by kernel_rfl) ?_ ?_, (), rfl, rfl⟩
      · exact ⟨AVE.refl _, trivial⟩
      · (repeat' first | exact trivial | refine ⟨⟨_, rfl, ChE.refl _⟩, ?_⟩)
    · (conv => whnf); repeat ((first | (refine And.intro ?_ ?_; (focus ((repeat' (first | exact trivial | refine And.intro rfl ?_)); done))) | (refine And.intro ?_ ?_; (focus (first | omega | (dsimp -iota only; omega) | (simp -iota; omega) | (simp -iota; done) | decide)))); conv => whnf)
      refine branchB_of (fun z1 => ?_) (fun z1 => ?_) <;> (first | replace z1 := not_t z1 | replace z1 := not_f z1 | skip) <;> (first | replace z1 := of_decide_eq_true z1 | replace z1 := of_decide_eq_false z1 | skip) <;> (first | replace z1 := Classical.not_not.1 z1 | skip) <;> (try dsimp only at z1)
      · have ec : choosePivot nlt d a b = (r.1, .decreasing) := by rw [hch, if_neg (by omega), if_pos (by omega)]
        rw [ec]
        (conv => whnf); repeat ((first | (refine And.intro ?_ ?_; (focus ((repeat' (first | exact trivial | refine And.intro rfl ?_)); done))) | (refine And.intro ?_ ?_; (focus (first | omega | (dsimp -iota only; omega) | (simp -iota; omega) | (simp -iota; done) | decide)))); conv => whnf)
        refine ⟨_, _, Ent.mk' (e' := [(0, .tup [AV.int .i64 r.1, AV.int .i64 2])]) (H' := uH n d) [some 0] (by kernel_rfl) ?_ ?_, (), rfl, rfl⟩
        · exact ⟨AVE.refl _, trivial⟩
        · (repeat' first | exact trivial | refine ⟨⟨_, rfl, ChE.refl _⟩, ?_⟩)
      · have ec : choosePivot nlt d a b = (r.1, .unknown) := by rw [hch, if_neg (by omega), if_neg (by omega)]
        rw [ec]
        (conv => whnf); repeat ((first | (refine And.intro ?_ ?_; (focus ((repeat' (first | exact trivial | refine And.intro rfl ?_)); done))) | (refine And.intro ?_ ?_; (focus (first | omega | (dsimp -iota only; omega) | (simp -iota; omega) | (simp -iota; done) | decide)))); conv => whnf)
        refine ⟨_, _, Ent.mk' (e' := [(0, .tup [AV.int .i64 r.1, AV.int .i64 0])]) (H' := uH n d) [some 0] (by kernel_rfl) ?_ ?_, (), rfl, rfl⟩
        · exact ⟨AVE.refl _, trivial⟩
        · (repeat' first | exact trivial | refine ⟨⟨_, rfl, ChE.refl _⟩, ?_⟩)
end Go.Proofs.Ytoofmkkcaoojiaa.Ax
