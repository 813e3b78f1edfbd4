/-
  Chapter 19: the law's examples, walked.
-/
import Derived.Test.YtoofmkkcaoojiaaUi
import Derived.Test.YtoofmkkcaoojiaaBxZc
namespace Go.Proofs.Ytoofmkkcaoojiaa.Ax
open Go.RowKit Go.Sort
set_option maxRecDepth 100000
theorem argsE_run {ρ : Rho} {ι : Imm} : ∀ {xs ys : List AV} {vs : List Value}, cellsE xs ys → AV.Rs ρ ι xs vs → AV.Rs ρ ι ys vs
  | [], [], vs, _, h => h
  | x :: xs, y :: ys, vs, h, hr => by
    simp only [cellsE] at h
    simp only [AV.Rs] at hr ⊢
    obtain ⟨u, us, e, r, rs⟩ := hr
    exact ⟨u, us, e, h.1.run _ _ _ r, argsE_run h.2 rs⟩
theorem ACall.argsE {P : Program} {f : FuncId} {args : List AV} (args' : List AV) {H : AH} {K QP : AV → AH → Prop} (he : cellsE args args') (h : ACall P f args' H K QP) : ACall P f args H K QP :=
  ⟨h.fn, fun ρ ι w cargs hG hS hr => h.run ρ ι w cargs hG hS (argsE_run he hr)⟩
def frzS : Op → Bool
  | .buildSlice .. => true
  | _ => false
noncomputable def cfgZ (N b : Nat) : Cfg := { P := Go.Proofs.Try.prog, T := tt, wr := false, N := N, pure := [], base := b, frz := frzS }
theorem cfgZOk (N b : Nat) : (cfgZ N b).Ok := ⟨ttOk, ttBytes, by kernel_rfl⟩
def S0 : SN := ⟨[], 0⟩
def S1 : SN := ⟨[([98], (5, 1))], 1⟩
def S2 : SN := ⟨[([98], (5, 1)), ([97], (9, 2))], 2⟩
def S3 : SN := ⟨[([97], (9, 2))], 2⟩
def S4 : SN := ⟨[([97], (9, 2)), ([98], (9, 3))], 3⟩
theorem ok0 : S0.Ok := ⟨by decide, by decide, by decide, by decide, by decide, by decide, by decide, by decide⟩
theorem ok1 : S1.Ok := ⟨by decide, by decide, by decide, by decide, by decide, by decide, by decide, by decide⟩
theorem ok2 : S2.Ok := ⟨by decide, by decide, by decide, by decide, by decide, by decide, by decide, by decide⟩
theorem ok3 : S3.Ok := ⟨by decide, by decide, by decide, by decide, by decide, by decide, by decide, by decide⟩
theorem ok4 : S4.Ok := ⟨by decide, by decide, by decide, by decide, by decide, by decide, by decide, by decide⟩
theorem add_at {s s' : SN} {x : List UInt8} {q m : Nat} {e : Int} (hs : s.Ok) (hq : q ≤ 18446744073709551615) (h1 : s.addM x q = m) (h2 : s.addE x q = e) (h3 : s.add x q = s') : AFn Go.Proofs.Try.prog 7 [.ptr 0 0, .str x, AV.int .u64 q] (one s.H) (fun _ : Unit => .tup [AV.int .u64 m, AV.int .i64 e]) (fun _ => one s'.H) := by
  have h := add_ok s hs x q hq
  rw [h1, h2, h3] at h
  exact h
theorem w1 : AFn Go.Proofs.Try.prog 7 [.ptr 0 0, .str [98], AV.int .u64 5] (one S0.H) (fun _ : Unit => .tup [AV.int .u64 1, AV.int .i64 0]) (fun _ => one S1.H) := add_at (q := 5) (m := 1) ok0 (by omega) (by decide) (by decide) (by rfl)
theorem w2 : AFn Go.Proofs.Try.prog 7 [.ptr 0 0, .str [97], AV.int .u64 9] (one S1.H) (fun _ : Unit => .tup [AV.int .u64 2, AV.int .i64 0]) (fun _ => one S2.H) := add_at (q := 9) (m := 2) ok1 (by omega) (by decide) (by decide) (by rfl)
theorem w3 : AFn Go.Proofs.Try.prog 7 [.ptr 0 0, .str [98], AV.int .u64 7] (one S2.H) (fun _ : Unit => .tup [AV.int .u64 0, AV.int .i64 34]) (fun _ => one S2.H) := add_at (q := 7) (m := 0) ok2 (by omega) (by decide) (by decide) (by rfl)
theorem w5 : AFn Go.Proofs.Try.prog 7 [.ptr 0 0, .str [98], AV.int .u64 9] (one S3.H) (fun _ : Unit => .tup [AV.int .u64 3, AV.int .i64 0]) (fun _ => one S4.H) := add_at (q := 9) (m := 3) ok3 (by omega) (by decide) (by decide) (by rfl)
theorem list2 : S2.list = [([97], 9), ([98], 5)] := (listS_of (by decide) (List.Perm.swap _ _ _) (by decide)).symm
theorem seqs2 : S2.seqs = [5, 9] := by
  have h : sortU [5, 9] = [5, 9] := List.mergeSort_of_pairwise (by decide)
  show dd (sortU [5, 9]) = _
  rw [h]
  rfl
theorem seqs4 : S4.seqs = [9] := by
  have h : sortU [9, 9] = [9, 9] := List.mergeSort_of_pairwise (by decide)
  show dd (sortU [9, 9]) = _
  rw [h]
  rfl
theorem l2 : AFn Go.Proofs.Try.prog 8 [.ptr 0 0] (one S2.H) (fun _ : Unit => .iv (.sl 2 2 (nqF [([97], 9), ([98], 5)]))) (fun _ => one S2.H) := by
  have h := list_ok S2 ok2
  rw [list2] at h
  exact h
theorem q2 : AFn Go.Proofs.Try.prog 9 [.ptr 0 0] (one S2.H) (fun _ : Unit => .iv (.sl 1 2 (uF #[5, 9]))) (fun _ => one S2.H) := by
  have h := seqs_ok S2 ok2
  rw [seqs2] at h
  exact h
theorem q4 : AFn Go.Proofs.Try.prog 9 [.ptr 0 0] (one S4.H) (fun _ : Unit => .iv (.sl 1 1 (uF #[9]))) (fun _ => one S4.H) := by
  have h := seqs_ok S4 ok4
  rw [seqs4] at h
  exact h
theorem dr : AFn Go.Proofs.Try.prog 14 [.ptr 0 0, .str [98]] (one S2.H) (fun _ : Unit => AV.int .i64 0) (fun _ => one S3.H) := by
  have h := drop_ok S2 [98]
  rw [show S2.findE [98] = 0 by decide, show S2.drop [98] = S3 by rfl] at h
  exact h
theorem lv1 : AFn Go.Proofs.Try.prog 13 [.ptr 0 0, AV.int .u64 1] (one S4.H) (fun _ : Unit => .tup [.agg [.str [], AV.int .u64 0], AV.bool false]) (fun _ => one S4.H) := lives_off S4 ok4 (by decide)
theorem lv3 : AFn Go.Proofs.Try.prog 13 [.ptr 0 0, AV.int .u64 3] (one S4.H) (fun _ : Unit => .tup [.agg [.str [98], AV.int .u64 9], AV.bool true]) (fun _ => one S4.H) := lives_at S4 ok4 (p := ([98], (9, 3))) (by decide)
theorem eqL : AFn Go.Proofs.Try.prog 10 [.iv (.sl 2 2 (nqF [([97], 9), ([98], 5)])), .iv (.sl 2 2 (nqF [([97], 9), ([98], 5)]))] ⟨0, []⟩ (fun _ : Unit => AV.bool true) (fun _ => ⟨0, []⟩) := equal_ok [([97], 9), ([98], 5)] [([97], 9), ([98], 5)] (by decide) (by decide)
theorem eqU2 : AFn Go.Proofs.Try.prog 11 [.iv (.sl 1 2 (uF #[5, 9])), .iv (.sl 1 2 (uF #[5, 9]))] ⟨0, []⟩ (fun _ : Unit => AV.bool true) (fun _ => ⟨0, []⟩) := equalU_ok [5, 9] [5, 9] (by decide) (by decide)
theorem eqU1 : AFn Go.Proofs.Try.prog 11 [.iv (.sl 1 1 (uF #[9])), .iv (.sl 1 1 (uF #[9]))] ⟨0, []⟩ (fun _ : Unit => AV.bool true) (fun _ => ⟨0, []⟩) := equalU_ok [9] [9] (by decide) (by decide)
theorem wakes_ok : AFn Go.Proofs.Try.prog 12 [] ⟨0, []⟩ (fun _ : Unit => AV.bool true) (fun _ => ⟨0, []⟩) := by
  refine ACall.fin ?_
  refine ACall.walk (C := cfgZ 102 0) (cfgZOk _ _) [] (fn := Go.Proofs.Try.f12) (by kernel_rfl) (by kernel_rfl) rfl (by kernel_rfl) (by kernel_rfl) rfl rfl ?_
  (conv => whnf); repeat ((first | (refine And.intro ?_ ?_; (focus ((repeat' (first | exact trivial | refine And.intro rfl ?_)); done))) | (refine And.intro ?_ ?_; (focus (first | omega | (dsimp -iota only; omega) | (simp -iota; omega) | (simp -iota; done) | decide)))); conv => whnf)
  refine AFn.use [] (new_ok) (by kernel_rfl) rfl (by repeat' first | exact trivial | refine ⟨rfl, ?_⟩) fun _ => ?_
  (conv => whnf); repeat ((first | (refine And.intro ?_ ?_; (focus ((repeat' (first | exact trivial | refine And.intro rfl ?_)); done))) | (refine And.intro ?_ ?_; (focus (first | omega | (dsimp -iota only; omega) | (simp -iota; omega) | (simp -iota; done) | decide)))); conv => whnf)
  refine AFn.use [0] (w1) (by kernel_rfl) rfl (by repeat' first | exact trivial | refine ⟨rfl, ?_⟩) fun _ => ?_
  (conv => whnf); repeat ((first | (refine And.intro ?_ ?_; (focus ((repeat' (first | exact trivial | refine And.intro rfl ?_)); done))) | (refine And.intro ?_ ?_; (focus (first | omega | (dsimp -iota only; omega) | (simp -iota; omega) | (simp -iota; done) | decide)))); conv => whnf)
  refine AFn.use [0] (w2) (by kernel_rfl) rfl (by repeat' first | exact trivial | refine ⟨rfl, ?_⟩) fun _ => ?_
  (conv => whnf); repeat ((first | (refine And.intro ?_ ?_; (focus ((repeat' (first | exact trivial | refine And.intro rfl ?_)); done))) | (refine And.intro ?_ ?_; (focus (first | omega | (dsimp -iota only; omega) | (simp -iota; omega) | (simp -iota; done) | decide)))); conv => whnf)
  refine AFn.use [0] (w3) (by kernel_rfl) rfl (by repeat' first | exact trivial | refine ⟨rfl, ?_⟩) fun _ => ?_
  (conv => whnf); repeat ((first | (refine And.intro ?_ ?_; (focus ((repeat' (first | exact trivial | refine And.intro rfl ?_)); done))) | (refine And.intro ?_ ?_; (focus (first | omega | (dsimp -iota only; omega) | (simp -iota; omega) | (simp -iota; done) | decide)))); conv => whnf)
  refine AFn.use [0] (l2) (by kernel_rfl) rfl (by repeat' first | exact trivial | refine ⟨rfl, ?_⟩) fun _ => ?_
  (conv => whnf); repeat ((first | (refine And.intro ?_ ?_; (focus ((repeat' (first | exact trivial | refine And.intro rfl ?_)); done))) | (refine And.intro ?_ ?_; (focus (first | omega | (dsimp -iota only; omega) | (simp -iota; omega) | (simp -iota; done) | decide)))); conv => whnf)
  refine AFn.use [0] (q2) (by kernel_rfl) rfl (by repeat' first | exact trivial | refine ⟨rfl, ?_⟩) fun _ => ?_
  (conv => whnf); repeat ((first | (refine And.intro ?_ ?_; (focus ((repeat' (first | exact trivial | refine And.intro rfl ?_)); done))) | (refine And.intro ?_ ?_; (focus (first | omega | (dsimp -iota only; omega) | (simp -iota; omega) | (simp -iota; done) | decide)))); conv => whnf)
  refine AFn.use [0] (dr) (by kernel_rfl) rfl (by repeat' first | exact trivial | refine ⟨rfl, ?_⟩) fun _ => ?_
  (conv => whnf); repeat ((first | (refine And.intro ?_ ?_; (focus ((repeat' (first | exact trivial | refine And.intro rfl ?_)); done))) | (refine And.intro ?_ ?_; (focus (first | omega | (dsimp -iota only; omega) | (simp -iota; omega) | (simp -iota; done) | decide)))); conv => whnf)
  refine AFn.use [0] (w5) (by kernel_rfl) rfl (by repeat' first | exact trivial | refine ⟨rfl, ?_⟩) fun _ => ?_
  (conv => whnf); repeat ((first | (refine And.intro ?_ ?_; (focus ((repeat' (first | exact trivial | refine And.intro rfl ?_)); done))) | (refine And.intro ?_ ?_; (focus (first | omega | (dsimp -iota only; omega) | (simp -iota; omega) | (simp -iota; done) | decide)))); conv => whnf)
  refine AFn.use [0] (lv1) (by kernel_rfl) rfl (by repeat' first | exact trivial | refine ⟨rfl, ?_⟩) fun _ => ?_
  (conv => whnf); repeat ((first | (refine And.intro ?_ ?_; (focus ((repeat' (first | exact trivial | refine And.intro rfl ?_)); done))) | (refine And.intro ?_ ?_; (focus (first | omega | (dsimp -iota only; omega) | (simp -iota; omega) | (simp -iota; done) | decide)))); conv => whnf)
  refine AFn.use [0] (lv3) (by kernel_rfl) rfl (by repeat' first | exact trivial | refine ⟨rfl, ?_⟩) fun _ => ?_
  (conv => whnf); repeat ((first | (refine And.intro ?_ ?_; (focus ((repeat' (first | exact trivial | refine And.intro rfl ?_)); done))) | (refine And.intro ?_ ?_; (focus (first | omega | (dsimp -iota only; omega) | (simp -iota; omega) | (simp -iota; done) | decide)))); conv => whnf)
  refine ACall.argsE [.iv (.sl 2 2 (nqF [([97], 9), ([98], 5)])), .iv (.sl 2 2 (nqF [([97], 9), ([98], 5)]))] ⟨AVE.refl _, AVE.sl fun i hi => ?_, rfl⟩ ?_
  · match i, hi with
    | 0, _ => exact IVEs.refl _
    | 1, _ => exact IVEs.refl _
  refine AFn.use [] (eqL) (by kernel_rfl) rfl (by repeat' first | exact trivial | refine ⟨rfl, ?_⟩) fun _ => ?_
  (conv => whnf); repeat ((first | (refine And.intro ?_ ?_; (focus ((repeat' (first | exact trivial | refine And.intro rfl ?_)); done))) | (refine And.intro ?_ ?_; (focus (first | omega | (dsimp -iota only; omega) | (simp -iota; omega) | (simp -iota; done) | decide)))); conv => whnf)
  refine ACall.argsE [.iv (.sl 1 2 (uF #[5, 9])), .iv (.sl 1 2 (uF #[5, 9]))] ⟨AVE.refl _, AVE.sl fun i hi => ?_, rfl⟩ ?_
  · match i, hi with
    | 0, _ => exact IVEs.refl _
    | 1, _ => exact IVEs.refl _
  refine AFn.use [] (eqU2) (by kernel_rfl) rfl (by repeat' first | exact trivial | refine ⟨rfl, ?_⟩) fun _ => ?_
  (conv => whnf); repeat ((first | (refine And.intro ?_ ?_; (focus ((repeat' (first | exact trivial | refine And.intro rfl ?_)); done))) | (refine And.intro ?_ ?_; (focus (first | omega | (dsimp -iota only; omega) | (simp -iota; omega) | (simp -iota; done) | decide)))); conv => whnf)
  refine AFn.use [0] (q4) (by kernel_rfl) rfl (by repeat' first | exact trivial | refine ⟨rfl, ?_⟩) fun _ => ?_
  (conv => whnf); repeat ((first | (refine And.intro ?_ ?_; (focus ((repeat' (first | exact trivial | refine And.intro rfl ?_)); done))) | (refine And.intro ?_ ?_; (focus (first | omega | (dsimp -iota only; omega) | (simp -iota; omega) | (simp -iota; done) | decide)))); conv => whnf)
  refine ACall.argsE [.iv (.sl 1 1 (uF #[9])), .iv (.sl 1 1 (uF #[9]))] ⟨AVE.refl _, AVE.sl fun i hi => ?_, rfl⟩ ?_
  · match i, hi with
    | 0, _ => exact IVEs.refl _
  refine AFn.use [] (eqU1) (by kernel_rfl) rfl (by repeat' first | exact trivial | refine ⟨rfl, ?_⟩) fun _ => ?_
  (conv => whnf); repeat ((first | (refine And.intro ?_ ?_; (focus ((repeat' (first | exact trivial | refine And.intro rfl ?_)); done))) | (refine And.intro ?_ ?_; (focus (first | omega | (dsimp -iota only; omega) | (simp -iota; omega) | (simp -iota; done) | decide)))); conv => whnf)
  refine ⟨_, _, Ent.mk' (e' := [(0, AV.bool true)]) (H' := ⟨0, []⟩) [] (by kernel_rfl) ?_ ?_, (), rfl, rfl⟩
  · exact ⟨AVE.refl _, trivial⟩
  · trivial
end Go.Proofs.Ytoofmkkcaoojiaa.Ax
