/-
  Chapter 19: the examples; SnapsOrder; SnapsPlay; what is handed to the laws.
-/
import Derived.Test.YtoofmkkcaoojiaaUi
import Derived.Test.YtoofmkkcaoojiaaBxZc
import Derived.Test.YtoofmkkcaoojiaaRr
namespace Go.Proofs.Ytoofmkkcaoojiaa.Ax
open Go.RowKit Go.Sort
set_option maxRecDepth 100000
theorem argsE_run {ρ : Rho} {ι : Imm} : ∀ {xs ys : List AV} {vs : List Value}, cellsE xs ys → AV.Rs ρ ι xs vs → AV.Rs ρ ι ys vs
  | [], [], vs, _, h => h
  | x :: xs, y :: ys, vs, h, hr => by
    simp only [cellsE] at h
    simp only [AV.Rs] at hr ⊢
    obtain ⟨u, us, e, r, rs⟩ := hr
    exact ⟨u, us, e, h.1.run _ _ _ r, argsE_run h.2 rs⟩
theorem ACall.argsE {P : Program} {f : FuncId} {args : List AV} (args' : List AV) {H : AH} {K QP : AV → AH → Prop} (he : cellsE args args') (h : ACall P f args' H K QP) : ACall P f args H K QP :=
  ⟨h.fn, fun ρ ι w cargs hG hS hr => h.run ρ ι w cargs hG hS (argsE_run he hr)⟩
def frzS : Op → Bool
  | .buildSlice .. => true
  | _ => false
noncomputable def cfgZ (N b : Nat) : Cfg := { P := Go.Proofs.Try.prog, T := tt, wr := false, N := N, pure := [], base := b, frz := frzS }
theorem cfgZOk (N b : Nat) : (cfgZ N b).Ok := ⟨ttOk, ttBytes, by kernel_rfl⟩
def S0 : SN := ⟨[], 0⟩
def S1 : SN := ⟨[([98], (5, 1))], 1⟩
def S2 : SN := ⟨[([98], (5, 1)), ([97], (9, 2))], 2⟩
def S3 : SN := ⟨[([97], (9, 2))], 2⟩
def S4 : SN := ⟨[([97], (9, 2)), ([98], (9, 3))], 3⟩
theorem ok0 : S0.Ok := ⟨by decide, by decide, by decide, by decide, by decide, by decide, by decide, by decide⟩
theorem ok1 : S1.Ok := ⟨by decide, by decide, by decide, by decide, by decide, by decide, by decide, by decide⟩
theorem ok2 : S2.Ok := ⟨by decide, by decide, by decide, by decide, by decide, by decide, by decide, by decide⟩
theorem ok3 : S3.Ok := ⟨by decide, by decide, by decide, by decide, by decide, by decide, by decide, by decide⟩
theorem ok4 : S4.Ok := ⟨by decide, by decide, by decide, by decide, by decide, by decide, by decide, by decide⟩
theorem add_at {s s' : SN} {x : List UInt8} {q m : Nat} {e : Int} (hs : s.Ok) (hq : q ≤ 18446744073709551615) (h1 : s.addM x q = m) (h2 : s.addE x q = e) (h3 : s.add x q = s') : AFn Go.Proofs.Try.prog 7 [.ptr 0 0, .str x, AV.int .u64 q] (one s.H) (fun _ : Unit => .tup [AV.int .u64 m, AV.int .i64 e]) (fun _ => one s'.H) := by
  have h := add_ok s hs x q hq
  rw [h1, h2, h3] at h
  exact h
theorem w1 : AFn Go.Proofs.Try.prog 7 [.ptr 0 0, .str [98], AV.int .u64 5] (one S0.H) (fun _ : Unit => .tup [AV.int .u64 1, AV.int .i64 0]) (fun _ => one S1.H) := add_at (q := 5) (m := 1) ok0 (by omega) (by decide) (by decide) (by rfl)
theorem w2 : AFn Go.Proofs.Try.prog 7 [.ptr 0 0, .str [97], AV.int .u64 9] (one S1.H) (fun _ : Unit => .tup [AV.int .u64 2, AV.int .i64 0]) (fun _ => one S2.H) := add_at (q := 9) (m := 2) ok1 (by omega) (by decide) (by decide) (by rfl)
theorem w3 : AFn Go.Proofs.Try.prog 7 [.ptr 0 0, .str [98], AV.int .u64 7] (one S2.H) (fun _ : Unit => .tup [AV.int .u64 0, AV.int .i64 34]) (fun _ => one S2.H) := add_at (q := 7) (m := 0) ok2 (by omega) (by decide) (by decide) (by rfl)
theorem w5 : AFn Go.Proofs.Try.prog 7 [.ptr 0 0, .str [98], AV.int .u64 9] (one S3.H) (fun _ : Unit => .tup [AV.int .u64 3, AV.int .i64 0]) (fun _ => one S4.H) := add_at (q := 9) (m := 3) ok3 (by omega) (by decide) (by decide) (by rfl)
theorem list2 : S2.list = [([97], 9), ([98], 5)] := (listS_of (by decide) (List.Perm.swap _ _ _) (by decide)).symm
theorem seqs2 : S2.seqs = [5, 9] := by
  have h : sortU [5, 9] = [5, 9] := List.mergeSort_of_pairwise (by decide)
  show dd (sortU [5, 9]) = _
  rw [h]
  rfl
theorem seqs4 : S4.seqs = [9] := by
  have h : sortU [9, 9] = [9, 9] := List.mergeSort_of_pairwise (by decide)
  show dd (sortU [9, 9]) = _
  rw [h]
  rfl
theorem l2 : AFn Go.Proofs.Try.prog 8 [.ptr 0 0] (one S2.H) (fun _ : Unit => .iv (.sl 2 2 (nqF [([97], 9), ([98], 5)]))) (fun _ => one S2.H) := by
  have h := list_ok S2 ok2
  rw [list2] at h
  exact h
theorem q2 : AFn Go.Proofs.Try.prog 9 [.ptr 0 0] (one S2.H) (fun _ : Unit => .iv (.sl 1 2 (uF #[5, 9]))) (fun _ => one S2.H) := by
  have h := seqs_ok S2 ok2
  rw [seqs2] at h
  exact h
theorem q4 : AFn Go.Proofs.Try.prog 9 [.ptr 0 0] (one S4.H) (fun _ : Unit => .iv (.sl 1 1 (uF #[9]))) (fun _ => one S4.H) := by
  have h := seqs_ok S4 ok4
  rw [seqs4] at h
  exact h
theorem dr : AFn Go.Proofs.Try.prog 14 [.ptr 0 0, .str [98]] (one S2.H) (fun _ : Unit => AV.int .i64 0) (fun _ => one S3.H) := by
  have h := drop_ok S2 [98]
  rw [show S2.findE [98] = 0 by decide, show S2.drop [98] = S3 by rfl] at h
  exact h
theorem lv1 : AFn Go.Proofs.Try.prog 13 [.ptr 0 0, AV.int .u64 1] (one S4.H) (fun _ : Unit => .tup [.agg [.str [], AV.int .u64 0], AV.bool false]) (fun _ => one S4.H) := lives_off S4 ok4 (by decide)
theorem lv3 : AFn Go.Proofs.Try.prog 13 [.ptr 0 0, AV.int .u64 3] (one S4.H) (fun _ : Unit => .tup [.agg [.str [98], AV.int .u64 9], AV.bool true]) (fun _ => one S4.H) := lives_at S4 ok4 (p := ([98], (9, 3))) (by decide)
theorem eqL : AFn Go.Proofs.Try.prog 10 [.iv (.sl 2 2 (nqF [([97], 9), ([98], 5)])), .iv (.sl 2 2 (nqF [([97], 9), ([98], 5)]))] ⟨0, []⟩ (fun _ : Unit => AV.bool true) (fun _ => ⟨0, []⟩) := equal_ok [([97], 9), ([98], 5)] [([97], 9), ([98], 5)] (by decide) (by decide)
theorem eqU2 : AFn Go.Proofs.Try.prog 11 [.iv (.sl 1 2 (uF #[5, 9])), .iv (.sl 1 2 (uF #[5, 9]))] ⟨0, []⟩ (fun _ : Unit => AV.bool true) (fun _ => ⟨0, []⟩) := equalU_ok [5, 9] [5, 9] (by decide) (by decide)
theorem eqU1 : AFn Go.Proofs.Try.prog 11 [.iv (.sl 1 1 (uF #[9])), .iv (.sl 1 1 (uF #[9]))] ⟨0, []⟩ (fun _ : Unit => AV.bool true) (fun _ => ⟨0, []⟩) := equalU_ok [9] [9] (by decide) (by decide)
theorem wakes_ok : AFn Go.Proofs.Try.prog 12 [] ⟨0, []⟩ (fun _ : Unit => AV.bool true) (fun _ => ⟨0, []⟩) := by
  refine ACall.fin ?_
  refine ACall.walk (C := cfgZ 102 0) (cfgZOk _ _) [] (fn := Go.Proofs.Try.f12) (by kernel_rfl) (by kernel_rfl) rfl (by kernel_rfl) (by kernel_rfl) rfl rfl ?_
  (conv => whnf); repeat ((first | (refine And.intro ?_ ?_; (focus ((repeat' (first | exact trivial | refine And.intro rfl ?_)); done))) | (refine And.intro ?_ ?_; (focus (first | omega | (dsimp -iota only; omega) | (simp -iota; omega) | (simp -iota; done) | decide)))); conv => whnf)
  refine AFn.use [] (new_ok) (by kernel_rfl) rfl (by repeat' first | exact trivial | refine ⟨rfl, ?_⟩) fun _ => ?_
  (conv => whnf); repeat ((first | (refine And.intro ?_ ?_; (focus ((repeat' (first | exact trivial | refine And.intro rfl ?_)); done))) | (refine And.intro ?_ ?_; (focus (first | omega | (dsimp -iota only; omega) | (simp -iota; omega) | (simp -iota; done) | decide)))); conv => whnf)
  refine AFn.use [0] (w1) (by kernel_rfl) rfl (by repeat' first | exact trivial | refine ⟨rfl, ?_⟩) fun _ => ?_
  (conv => whnf); repeat ((first | (refine And.intro ?_ ?_; (focus ((repeat' (first | exact trivial | refine And.intro rfl ?_)); done))) | (refine And.intro ?_ ?_; (focus (first | omega | (dsimp -iota only; omega) | (simp -iota; omega) | (simp -iota; done) | decide)))); conv => whnf)
  refine AFn.use [0] (w2) (by kernel_rfl) rfl (by repeat' first | exact trivial | refine ⟨rfl, ?_⟩) fun _ => ?_
  (conv => whnf); repeat ((first | (refine And.intro ?_ ?_; (focus ((repeat' (first | exact trivial | refine And.intro rfl ?_)); done))) | (refine And.intro ?_ ?_; (focus (first | omega | (dsimp -iota only; omega) | (simp -iota; omega) | (simp -iota; done) | decide)))); conv => whnf)
  refine AFn.use [0] (w3) (by kernel_rfl) rfl (by repeat' first | exact trivial | refine ⟨rfl, ?_⟩) fun _ => ?_
  (conv => whnf); repeat ((first | (refine And.intro ?_ ?_; (focus ((repeat' (first | exact trivial | refine And.intro rfl ?_)); done))) | (refine And.intro ?_ ?_; (focus (first | omega | (dsimp -iota only; omega) | (simp -iota; omega) | (simp -iota; done) | decide)))); conv => whnf)
  refine AFn.use [0] (l2) (by kernel_rfl) rfl (by repeat' first | exact trivial | refine ⟨rfl, ?_⟩) fun _ => ?_
  (conv => whnf); repeat ((first | (refine And.intro ?_ ?_; (focus ((repeat' (first | exact trivial | refine And.intro rfl ?_)); done))) | (refine And.intro ?_ ?_; (focus (first | omega | (dsimp -iota only; omega) | (simp -iota; omega) | (simp -iota; done) | decide)))); conv => whnf)
  refine AFn.use [0] (q2) (by kernel_rfl) rfl (by repeat' first | exact trivial | refine ⟨rfl, ?_⟩) fun _ => ?_
  (conv => whnf); repeat ((first | (refine And.intro ?_ ?_; (focus ((repeat' (first | exact trivial | refine And.intro rfl ?_)); done))) | (refine And.intro ?_ ?_; (focus (first | omega | (dsimp -iota only; omega) | (simp -iota; omega) | (simp -iota; done) | decide)))); conv => whnf)
  refine AFn.use [0] (dr) (by kernel_rfl) rfl (by repeat' first | exact trivial | refine ⟨rfl, ?_⟩) fun _ => ?_
  (conv => whnf); repeat ((first | (refine And.intro ?_ ?_; (focus ((repeat' (first | exact trivial | refine And.intro rfl ?_)); done))) | (refine And.intro ?_ ?_; (focus (first | omega | (dsimp -iota only; omega) | (simp -iota; omega) | (simp -iota; done) | decide)))); conv => whnf)
  refine AFn.use [0] (w5) (by kernel_rfl) rfl (by repeat' first | exact trivial | refine ⟨rfl, ?_⟩) fun _ => ?_
  (conv => whnf); repeat ((first | (refine And.intro ?_ ?_; (focus ((repeat' (first | exact trivial | refine And.intro rfl ?_)); done))) | (refine And.intro ?_ ?_; (focus (first | omega | (dsimp -iota only; omega) | (simp -iota; omega) | (simp -iota; done) | decide)))); conv => whnf)
  refine AFn.use [0] (lv1) (by kernel_rfl) rfl (by repeat' first | exact trivial | refine ⟨rfl, ?_⟩) fun _ => ?_
  (conv => whnf); repeat ((first | (refine And.intro ?_ ?_; (focus ((repeat' (first | exact trivial | refine And.intro rfl ?_)); done))) | (refine And.intro ?_ ?_; (focus (first | omega | (dsimp -iota only; omega) | (simp -iota; omega) | (simp -iota; done) | decide)))); conv => whnf)
  refine AFn.use [0] (lv3) (by kernel_rfl) rfl (by repeat' first | exact trivial | refine ⟨rfl, ?_⟩) fun _ => ?_
  (conv => whnf); repeat ((first | (refine And.intro ?_ ?_; (focus ((repeat' (first | exact trivial | refine And.intro rfl ?_)); done))) | (refine And.intro ?_ ?_; (focus (first | omega | (dsimp -iota only; omega) | (simp -iota; omega) | (simp -iota; done) | decide)))); conv => whnf)
  refine ACall.argsE [.iv (.sl 2 2 (nqF [([97], 9), ([98], 5)])), .iv (.sl 2 2 (nqF [([97], 9), ([98], 5)]))] ⟨AVE.refl _, AVE.sl fun i hi => ?_, rfl⟩ ?_
  · match i, hi with
    | 0, _ => exact IVEs.refl _
    | 1, _ => exact IVEs.refl _
  refine AFn.use [] (eqL) (by kernel_rfl) rfl (by repeat' first | exact trivial | refine ⟨rfl, ?_⟩) fun _ => ?_
  (conv => whnf); repeat ((first | (refine And.intro ?_ ?_; (focus ((repeat' (first | exact trivial | refine And.intro rfl ?_)); done))) | (refine And.intro ?_ ?_; (focus (first | omega | (dsimp -iota only; omega) | (simp -iota; omega) | (simp -iota; done) | decide)))); conv => whnf)
  refine ACall.argsE [.iv (.sl 1 2 (uF #[5, 9])), .iv (.sl 1 2 (uF #[5, 9]))] ⟨AVE.refl _, AVE.sl fun i hi => ?_, rfl⟩ ?_
  · match i, hi with
    | 0, _ => exact IVEs.refl _
    | 1, _ => exact IVEs.refl _
  refine AFn.use [] (eqU2) (by kernel_rfl) rfl (by repeat' first | exact trivial | refine ⟨rfl, ?_⟩) fun _ => ?_
  (conv => whnf); repeat ((first | (refine And.intro ?_ ?_; (focus ((repeat' (first | exact trivial | refine And.intro rfl ?_)); done))) | (refine And.intro ?_ ?_; (focus (first | omega | (dsimp -iota only; omega) | (simp -iota; omega) | (simp -iota; done) | decide)))); conv => whnf)
  refine AFn.use [0] (q4) (by kernel_rfl) rfl (by repeat' first | exact trivial | refine ⟨rfl, ?_⟩) fun _ => ?_
  (conv => whnf); repeat ((first | (refine And.intro ?_ ?_; (focus ((repeat' (first | exact trivial | refine And.intro rfl ?_)); done))) | (refine And.intro ?_ ?_; (focus (first | omega | (dsimp -iota only; omega) | (simp -iota; omega) | (simp -iota; done) | decide)))); conv => whnf)
  refine ACall.argsE [.iv (.sl 1 1 (uF #[9])), .iv (.sl 1 1 (uF #[9]))] ⟨AVE.refl _, AVE.sl fun i hi => ?_, rfl⟩ ?_
  · match i, hi with
    | 0, _ => exact IVEs.refl _
  refine AFn.use [] (eqU1) (by kernel_rfl) rfl (by repeat' first | exact trivial | refine ⟨rfl, ?_⟩) fun _ => ?_
  (conv => whnf); repeat ((first | (refine And.intro ?_ ?_; (focus ((repeat' (first | exact trivial | refine And.intro rfl ?_)); done))) | (refine And.intro ?_ ?_; (focus (first | omega | (dsimp -iota only; omega) | (simp -iota; omega) | (simp -iota; done) | decide)))); conv => whnf)
  refine ⟨_, _, Ent.mk' (e' := [(0, AV.bool true)]) (H' := ⟨0, []⟩) [] (by kernel_rfl) ?_ ?_, (), rfl, rfl⟩
  · exact ⟨AVE.refl _, trivial⟩
  · trivial
end Go.Proofs.Ytoofmkkcaoojiaa.Ax

namespace Go.Proofs.Ytoofmkkcaoojiaa.Ax
open Go.RowKit Go.Sort
set_option maxRecDepth 100000
structure Act where
  w : Int
  s : List UInt8
  q : Nat
instance : Inhabited Act := ⟨⟨0, [], 0⟩⟩
def actI (c : Act) : List IV := [.v (.int .i64 c.w), .str c.s, .v (.int .u64 c.q)]
noncomputable def cfgL (N b : Nat) : Cfg := { P := Go.Proofs.Try.prog, T := tt, wr := false, N := N, pure := [], base := b }
theorem cfgLOk (N b : Nat) : (cfgL N b).Ok := ⟨ttOk, ttBytes, by kernel_rfl⟩
def sn (_ : Unit) : IV := .v (.int .i64 1)
def kd (A : List Act) : List (List UInt8 × Unit) := A.map fun a => (a.s, ())
structure GoodA (A : List Act) : Prop where
  nd : (A.map (·.s)).Nodup
  nm : ∀ a ∈ A, okN a.s = true
  q : ∀ a ∈ A, a.q ≤ 1099511627776
  len : A.length ≤ 16
structure O1 (l : List Act) where
  i : Nat
  A : List Act
  hi : i ≤ l.length
  h : GoodA A
theorem kd_keys (A : List Act) : (kd A).map (·.1) = A.map (·.s) := by simp [kd]
theorem mput_sn (l : List (List UInt8 × Unit)) (x : List UInt8) : mput (smap sn l) (.s x) (.v (.int .i64 1)) = smap sn (aput l x ()) := by
  rw [← mput_smap]
  rfl
theorem kd_put {A : List Act} {c : Act} (h : c.s ∉ A.map (·.s)) : aput (kd A) c.s () = kd (A ++ [c]) := by
  rw [aput_new (by rw [kd_keys]; exact h)]
  simp [kd]
def aF (A : List Act) (i : Nat) : List IV := actI (A.getD i default)
theorem ChE.pushA {e : Nat} {A B : List Act} {p : Act} {g : Nat → List IV} (hg : g 0 = actI p) (hB : B = A ++ [p]) : ChE (.rowc e 3 (A.length + 1) fun j => if j < A.length then aF A j else g (j - A.length)) (.rowc e 3 B.length (aF B)) := by
  subst hB
  refine ChE.row (by simp) fun j hj => ?_
  by_cases h : j < A.length
  · simp only [if_pos h]
    unfold aF
    simp [List.getD, List.getElem?_append_left, h]
  · have : j = A.length := by simp at hj; omega
    subst this
    simp only [if_neg h, Nat.sub_self]
    rw [hg]
    simp [aF]
def nqA (a : Act) : NQ := (a.s, a.q)
theorem GoodA.rev {A : List Act} (h : GoodA A) : GoodA A.reverse :=
  ⟨by rw [List.map_reverse]; exact (List.reverse_perm _).nodup_iff.2 h.nd, fun a ha => h.nm a (List.mem_reverse.1 ha), fun a ha => h.q a (List.mem_reverse.1 ha), by rw [List.length_reverse]; exact h.len⟩
theorem getD_mem {A : List Act} {i : Nat} (hi : i < A.length) : A.getD i default ∈ A := by
  simp only [List.getD, List.getElem?_eq_getElem hi, Option.getD_some]
  exact List.getElem_mem hi
theorem take_next {A : List Act} {i : Nat} (hi : i < A.length) : A.take (i + 1) = A.take i ++ [A.getD i default] := by
  rw [List.take_succ_eq_append_getElem hi]
  simp [List.getD, hi]
theorem step_ok {s : SN} {A : List Act} (hA : GoodA A) {i : Nat} (hi : i < A.length) (hl : s.nqs = (A.take i).map nqA) : s.addE (A.getD i default).s (A.getD i default).q = 0 := by
  have h1 := hA.nm _ (getD_mem hi)
  have h2 := hA.q _ (getD_mem hi)
  have h3 : (A.getD i default).s ∉ s.l.map (·.1) := by
    rw [← nqs_keys, hl, List.map_map]
    intro hm
    have hnd := hA.nd
    rw [← List.take_append_drop (i + 1) A, take_next hi, List.map_append, List.map_append, List.nodup_append] at hnd
    have := (List.nodup_append.1 hnd.1).2.2 _ hm (A.getD i default).s (by simp)
    exact this rfl
  have h4 : s.l.length = i := by
    have := congrArg List.length hl
    simp only [SN.nqs, List.length_map, List.length_take] at this
    omega
  have h5 := hA.len
  unfold SN.addE
  rw [h1, decide_eq_false (show ¬ 1099511627776 < (A.getD i default).q by omega), afind_none.2 h3, decide_eq_false (show ¬ 16 ≤ s.l.length by omega)]
  rfl
structure O3 (A : List Act) (i : Nat) (s : SN) : Prop where
  hs : s.Ok
  hn : s.n = i
  hl : s.nqs = (A.take i).map nqA
theorem O3.step {A : List Act} (hA : GoodA A) {i : Nat} {s : SN} (h : O3 A i s) (hi : i < A.length) : O3 A (i + 1) (s.add (A.getD i default).s (A.getD i default).q) ∧ s.addE (A.getD i default).s (A.getD i default).q = 0 := by
  have e := step_ok hA hi h.hl
  refine ⟨⟨add_Ok s h.hs e (by have := h.hn; have := hA.len; omega), ?_, ?_⟩, e⟩
  · rw [add_l s e]
    show s.n + 1 = i + 1
    rw [h.hn]
  · rw [add_l s e, take_next hi, List.map_append, ← h.hl]
    simp [SN.nqs, nqA]
structure O2 (A : List Act) where
  i : Nat
  s : SN
  r : SN
  hi : i ≤ A.length
  hs : O3 A i s
  hr : O3 A.reverse i r
theorem rev_getD {A : List Act} {i : Nat} (hi : i < A.length) : A.reverse.getD i default = A.getD (A.length - 1 - i) default := by
  simp [List.getD, List.getElem?_reverse, hi, show A.length - 1 - i < A.length by omega]
/-! What the rows say. -/
structure Tell (A : List Act) (L : List NQ) (Q : List Nat) : Prop where
  ln : L.length = A.length
  ls : ∀ k, 0 < k → k < L.length → (L.getD (k - 1) ([], 0)).1 < (L.getD k ([], 0)).1
  lm : ∀ k, k < L.length → (L.getD k ([], 0)).1 ∈ A.map (·.s)
  qm : ∀ n, n ∈ Q ↔ ∃ p ∈ L, p.2 = n
  qs : ∀ k, 0 < k → k < Q.length → Q.getD (k - 1) 0 < Q.getD k 0
  ql : Q.length ≤ 16
  qd : Q.Nodup
theorem dd_le (D : List Nat) : (dd D).length ≤ D.length := by
  have h := dd_len D D.length
  rwa [List.take_length] at h
theorem seqs_le {s : SN} (hs : s.Ok) : s.seqs.length ≤ 16 := by
  have h := dd_le (sortU (s.l.map (·.2.1)))
  rw [sortU_length, List.length_map] at h
  have := hs.len
  exact Nat.le_trans h this
theorem seqs_nqs (s : SN) : s.seqs = dd (sortU (s.nqs.map (·.2))) := by
  unfold SN.seqs SN.nqs
  rw [List.map_map]
  rfl
theorem tell_of {A : List Act} {s : SN} (hs : s.Ok) (hl : s.nqs = A.map nqA) : Tell A s.list s.seqs := by
  have hnk : (s.nqs.map (·.1)).Nodup := by rw [nqs_keys]; exact hs.dup
  have hp : s.list.Perm s.nqs := listS_perm hnk
  have hln : s.list.length = A.length := by
    rw [hp.length_eq, hl, List.length_map]
  have hpw := List.pairwise_iff_getElem.1 (listS_sorted s.nqs)
  have hnd : (s.list.map (·.1)).Nodup := (hp.map (·.1)).nodup_iff.2 hnk
  have hqp := List.pairwise_iff_getElem.1 (dd_lt (sortU_sorted (s.nqs.map (·.2))))
  have hqn : s.seqs.Nodup := by
    rw [seqs_nqs]
    exact (dd_lt (sortU_sorted (s.nqs.map (·.2)))).imp fun h => Nat.ne_of_lt h
  refine ⟨hln, fun k h0 hk => ?_, fun k hk => ?_, fun n => ?_, fun k h0 hk => ?_, seqs_le hs, hqn⟩
  · have h1 := hpw (k - 1) k (by show k - 1 < s.list.length; omega) hk (by omega)
    simp only [nqLt, decide_eq_false_iff_not, List.not_lt] at h1
    have h2 : (s.list[k - 1]).1 ≠ (s.list[k]).1 := fun e => by
      have := List.pairwise_iff_getElem.1 hnd (k - 1) k (by simp; omega) (by simpa using hk) (by omega)
      simp only [List.getElem_map] at this
      exact this e
    have e1 : s.list.getD (k - 1) ([], 0) = s.list[k - 1] := by simp [List.getD, show k - 1 < s.list.length by omega]
    have e2 : s.list.getD k ([], 0) = s.list[k] := by simp [List.getD, hk]
    rw [e1, e2]
    exact Classical.byContradiction fun h => h2 (List.le_antisymm h1 (List.not_lt.1 h))
  · have e2 : s.list.getD k ([], 0) = s.list[k] := by simp [List.getD, hk]
    rw [e2]
    have h1 : s.list[k] ∈ s.nqs := hp.mem_iff.1 (List.getElem_mem hk)
    rw [hl] at h1
    obtain ⟨a, ha, e⟩ := List.mem_map.1 h1
    exact List.mem_map.2 ⟨a, ha, congrArg Prod.fst e⟩
  · rw [seqs_nqs, dd_mem, sortU_mem, List.mem_map]
    exact ⟨fun ⟨p, h1, h2⟩ => ⟨p, hp.mem_iff.2 h1, h2⟩, fun ⟨p, h1, h2⟩ => ⟨p, hp.mem_iff.1 h1, h2⟩⟩
  · rw [seqs_nqs] at hk ⊢
    have h1 := hqp (k - 1) k (by omega) hk (by omega)
    simpa [List.getD, hk, show k - 1 < (dd (sortU (s.nqs.map (·.2)))).length by omega] using h1
theorem same_of {A B : List Act} {s r : SN} (hs : s.Ok) (hr : r.Ok) (hl : s.nqs = A.map nqA) (hl2 : r.nqs = B.map nqA) (hp : B.Perm A) : r.list = s.list ∧ r.seqs = s.seqs := by
  have hp2 : r.nqs.Perm s.nqs := by rw [hl, hl2]; exact hp.map _
  refine ⟨listS_same (by rw [nqs_keys]; exact hr.dup) (by rw [nqs_keys]; exact hs.dup) hp2, ?_⟩
  rw [seqs_nqs, seqs_nqs, sortU_perm (hp2.map _)]
def pm (G : List Nat) : List (MK × IV) := G.map fun g : Nat => (MK.i .u64 (g : Int), IV.v (.int .i64 1))
def gput (G : List Nat) (g : Nat) : List Nat := if g ∈ G then G else G ++ [g]
theorem mput_pm : ∀ (G : List Nat) (g : Nat), mput (pm G) (.i .u64 g) (.v (.int .i64 1)) = pm (gput G g)
  | [], g => by simp [pm, mput, gput]
  | a :: G, g => by
    have ih := mput_pm G g
    unfold pm at ih ⊢
    simp only [List.map_cons, mput, MK.i.injEq, true_and, Int.natCast_inj]
    by_cases h : a = g
    · subst h
      simp [gput]
    · have h2 : (gput (a :: G) g) = a :: gput G g := by
        unfold gput
        by_cases hg : g ∈ G
        · simp [hg]
        · simp [hg, Ne.symm h]
      rw [if_neg h, h2, ih]
      rfl
theorem mfind_pm : ∀ (G : List Nat) (g : Nat), mfind (pm G) (.i .u64 g) = if g ∈ G then some (.v (.int .i64 1)) else none
  | [], g => by simp [pm, mfind]
  | a :: G, g => by
    have ih := mfind_pm G g
    unfold pm mfind at ih ⊢
    rw [List.map_cons, List.find?_cons]
    by_cases h : a = g
    · subst h
      simp
    · rw [decide_eq_false (show ¬ (MK.i .u64 (a : Int) = MK.i .u64 (g : Int)) from fun e => h (by injection e with _ e; omega))]
      simp only [List.mem_cons, Ne.symm h, false_or]
      exact ih
theorem pm_length (G : List Nat) : (pm G).length = G.length := by simp [pm]
theorem mem_gput {G : List Nat} {g a : Nat} : a ∈ gput G g ↔ a ∈ G ∨ a = g := by
  unfold gput
  split
  · constructor
    · exact .inl
    · rintro (h | rfl)
      · exact h
      · assumption
  · simp
theorem nodup_gput {G : List Nat} {g : Nat} (h : G.Nodup) : (gput G g).Nodup := by
  unfold gput
  split
  · exact h
  · rename_i hg
    rw [List.nodup_append]
    refine ⟨h, by simp, fun a ha b hb => ?_⟩
    rw [List.mem_singleton] at hb
    subst hb
    exact fun e => hg (e ▸ ha)
structure O4 (L : List NQ) where
  k : Nat
  P : List Nat
  hk : k ≤ L.length
  nd : P.Nodup
  mem : ∀ n, n ∈ P ↔ ∃ p ∈ L.take k, p.2 = n
set_option maxHeartbeats 1000000 in
theorem order_law (l : List Act) (hq : ∀ c ∈ l, c.q ≤ 18446744073709551615) : Law Go.Proofs.Try.prog 3 [.iv (.sl 3 l.length fun i => actI (l.getD i default))] := by
  refine ACall.fin ?_
  refine ACall.walkF (C := cfgL 197 0) (cfgLOk _ _) sch3 (fn := Go.Proofs.Try.f3) (by kernel_rfl) (by kernel_rfl) rfl (by kernel_rfl) (by kernel_rfl) rfl rfl fun hlen hheap => ?_
  obtain ⟨hl1, _⟩ := hlen
  simp only [lenF] at hl1
  (conv => whnf); repeat ((first | (refine And.intro ?_ ?_; (focus ((repeat' (first | exact trivial | refine And.intro rfl ?_)); done))) | (refine And.intro ?_ ?_; (focus (first | omega | (dsimp -iota only; omega) | (simp -iota; omega) | (simp -iota; done) | decide)))); conv => whnf)
  refine AFn.use [] (new_ok) (by kernel_rfl) rfl (by repeat' first | exact trivial | refine ⟨rfl, ?_⟩) fun _ => ?_
  (conv => whnf); repeat ((first | (refine And.intro ?_ ?_; (focus ((repeat' (first | exact trivial | refine And.intro rfl ?_)); done))) | (refine And.intro ?_ ?_; (focus (first | omega | (dsimp -iota only; omega) | (simp -iota; omega) | (simp -iota; done) | decide)))); conv => whnf)
  refine AFn.use [] (new_ok) (by kernel_rfl) rfl (by repeat' first | exact trivial | refine ⟨rfl, ?_⟩) fun _ => ?_
  (conv => whnf); repeat ((first | (refine And.intro ?_ ?_; (focus ((repeat' (first | exact trivial | refine And.intro rfl ?_)); done))) | (refine And.intro ?_ ?_; (focus (first | omega | (dsimp -iota only; omega) | (simp -iota; omega) | (simp -iota; done) | decide)))); conv => whnf)
  refine AWP.loop (X := O1 l) (fun x => [(3, .ptr 0 0), (4, .ptr 1 0), (5, .mp 2), (6, .row 3 3 0 x.A.length), (26, .iv (.sl 3 l.length fun i => actI (l.getD i default))), (27, AV.int .i64 l.length), (28, AV.int .i64 x.i)]) (fun x => ⟨4, [(0, .sem (Nest S0.H)), (1, .sem (Nest S0.H)), (2, .map none (smap sn (kd x.A))), (3, .rowc 28 3 x.A.length (aF x.A))]⟩) (fun x => l.length - x.i) (⟨0, [], by omega, by simp, by simp, by simp, by simp⟩) ?_ fun x => AWP.go (S := sch3) (cfgLOk _ _) (.of_eq (by kernel_rfl)) ?_
  · refine Ent.mk' [some 0, some 1, some 2, none] (by kernel_rfl) ?_ ?_
    · exact ⟨AVE.refl _, AVE.refl _, AVE.refl _, AVE.nil _ _, AVE.refl _, AVE.refl _, AVE.refl _, trivial⟩
    · exact ⟨⟨_, rfl, ChE.refl _⟩, ⟨_, rfl, ChE.refl _⟩, ⟨_, rfl, ChE.refl _⟩, trivial, trivial⟩
  · obtain ⟨i, A, hi, hA⟩ := x
    have hix : ((i : Nat) : Int).toNat = i := by simp
    have hA16 := hA.len
    (conv => whnf); repeat ((first | (refine And.intro ?_ ?_; (focus ((repeat' (first | exact trivial | refine And.intro rfl ?_)); done))) | (refine And.intro ?_ ?_; (focus (first | omega | (dsimp -iota only; omega) | (simp -iota; omega) | (simp -iota; done) | decide)))); conv => whnf)
    refine branchB_of (fun h => ?_) (fun h => ?_) <;> (first | replace h := not_t h | replace h := not_f h | skip) <;> (first | replace h := of_decide_eq_true h | replace h := of_decide_eq_false h | skip) <;> (first | replace h := Classical.not_not.1 h | skip) <;> (try dsimp only at h)
    · (conv => whnf); repeat ((first | (refine And.intro ?_ ?_; (focus ((repeat' (first | exact trivial | refine And.intro rfl ?_)); done))) | (refine And.intro ?_ ?_; (focus (first | omega | (dsimp -iota only; omega) | (simp -iota; omega) | (simp -iota; done) | decide)))); conv => whnf)
      generalize hc0 : l.getD ((i : Nat) : Int).toNat default = c at *
      generalize hnm : ((c.s.drop (0 : Int).toNat).take ((min (c.s.length : Int) 32).toNat - (0 : Int).toNat)) = nm
      have hn32 : nm.length ≤ 32 := by rw [← hnm, List.length_take]; omega
      obtain ⟨q, hqe, hqm⟩ : ∃ q : Nat, (c.q : Int) % 1099511627777 = (q : Int) ∧ q ≤ 1099511627776 := ⟨c.q % 1099511627777, by omega, by omega⟩
      rw [hqe]
      refine branchB_of (fun g0 => ?_) (fun g0 => ?_) <;> (first | replace g0 := not_t g0 | replace g0 := not_f g0 | skip) <;> (first | replace g0 := of_decide_eq_true g0 | replace g0 := of_decide_eq_false g0 | skip) <;> (first | replace g0 := Classical.not_not.1 g0 | skip) <;> (try dsimp only at g0)
      · (conv => whnf); repeat ((first | (refine And.intro ?_ ?_; (focus ((repeat' (first | exact trivial | refine And.intro rfl ?_)); done))) | (refine And.intro ?_ ?_; (focus (first | omega | (dsimp -iota only; omega) | (simp -iota; omega) | (simp -iota; done) | decide)))); conv => whnf)
        rw [mfind_smap]
        refine ⟨fun y hy => ?_, fun hy => ?_⟩
        · obtain ⟨z, hz, hz2⟩ := Option.map_eq_some_iff.1 hy
          obtain ⟨p, hp, rfl⟩ := Option.map_eq_some_iff.1 hz
          subst hz2
          (conv => whnf); repeat ((first | (refine And.intro ?_ ?_; (focus ((repeat' (first | exact trivial | refine And.intro rfl ?_)); done))) | (refine And.intro ?_ ?_; (focus (first | omega | (dsimp -iota only; omega) | (simp -iota; omega) | (simp -iota; done) | decide)))); conv => whnf)
          refine ⟨⟨i + 1, A, by omega, hA⟩, Ent.mk' [some 0, some 1, some 2, some 3] (by kernel_rfl) (by repeat' first | exact trivial | refine And.intro (AVE.refl _) ?_ | refine And.intro (AVE.int (by first | rfl | omega | (dsimp only; omega) | (simp -iota; omega) | (simp -iota; done))) ?_ | refine And.intro (AVE.bool (by assumption)) ?_ | refine And.intro (AVE.len (by first | rfl | omega | (dsimp only; omega) | (simp -iota; omega) | (simp -iota; done))) ?_) (by repeat' (first | exact trivial | refine ⟨⟨_, rfl, ChE.refl _⟩, ?_⟩)), ?_⟩
          show l.length - (i + 1) < l.length - i
          omega
        · have hy := Option.map_eq_none_iff.1 (Option.map_eq_none_iff.1 hy)
          (conv => whnf); repeat ((first | (refine And.intro ?_ ?_; (focus ((repeat' (first | exact trivial | refine And.intro rfl ?_)); done))) | (refine And.intro ?_ ?_; (focus (first | omega | (dsimp -iota only; omega) | (simp -iota; omega) | (simp -iota; done) | decide)))); conv => whnf)
          refine branchB_of (fun g1 => ?_) (fun g1 => ?_) <;> (first | replace g1 := not_t g1 | replace g1 := not_f g1 | skip) <;> (first | replace g1 := of_decide_eq_true g1 | replace g1 := of_decide_eq_false g1 | skip) <;> (first | replace g1 := Classical.not_not.1 g1 | skip) <;> (try dsimp only at g1)
          · (conv => whnf); repeat ((first | (refine And.intro ?_ ?_; (focus ((repeat' (first | exact trivial | refine And.intro rfl ?_)); done))) | (refine And.intro ?_ ?_; (focus (first | omega | (dsimp -iota only; omega) | (simp -iota; omega) | (simp -iota; done) | decide)))); conv => whnf)
            rw [mput_sn]
            have hnk : nm ∉ A.map (·.s) := by rw [← kd_keys]; exact afind_none.1 hy
            have hAc : GoodA (A ++ [⟨c.w, nm, q⟩]) := by
              refine ⟨?_, fun a ha => ?_, fun a ha => ?_, ?_⟩
              · rw [List.map_append, List.nodup_append]
                refine ⟨hA.nd, by simp, fun a ha b hb => ?_⟩
                simp only [List.map_cons, List.map_nil, List.mem_singleton] at hb
                subst hb
                exact fun e => hnk (e ▸ ha)
              · rcases List.mem_append.1 ha with ha | ha
                · exact hA.nm a ha
                · rw [List.mem_singleton] at ha
                  subst ha
                  have : nm.length ≠ 0 := fun e => g0 (List.length_eq_zero_iff.1 e)
                  simp only [okN, decide_eq_true_eq]
                  omega
              · rcases List.mem_append.1 ha with ha | ha
                · exact hA.q a ha
                · rw [List.mem_singleton] at ha
                  subst ha
                  exact hqm
              · simp; omega
            have hkp := kd_put (A := A) (c := ⟨c.w, nm, q⟩) hnk
            simp only at hkp
            rw [hkp]
            (conv => whnf); repeat ((first | (refine And.intro ?_ ?_; (focus ((repeat' (first | exact trivial | refine And.intro rfl ?_)); done))) | (refine And.intro ?_ ?_; (focus (first | omega | (dsimp -iota only; omega) | (simp -iota; omega) | (simp -iota; done) | decide)))); conv => whnf)
            refine ⟨⟨i + 1, A ++ [⟨c.w, nm, q⟩], by omega, hAc⟩, Ent.mk' [some 0, some 1, some 2, some 6] (by kernel_rfl) (by repeat' first | exact trivial | refine And.intro (AVE.refl _) ?_ | refine And.intro (AVE.int (by first | rfl | omega | (dsimp only; omega) | (simp -iota; omega) | (simp -iota; done))) ?_ | refine And.intro (AVE.bool (by assumption)) ?_ | refine And.intro (AVE.len (by first | rfl | omega | (dsimp only; omega) | (simp -iota; omega) | (simp -iota; done))) ?_) ?_, ?_⟩
            · exact ⟨⟨_, rfl, ChE.refl _⟩, ⟨_, rfl, ChE.refl _⟩, ⟨_, rfl, ChE.refl _⟩, ⟨_, rfl, ChE.pushA (A := A) (p := ⟨c.w, nm, q⟩) rfl rfl⟩, trivial⟩
            · show l.length - (i + 1) < l.length - i
              omega
          · (conv => whnf); repeat ((first | (refine And.intro ?_ ?_; (focus ((repeat' (first | exact trivial | refine And.intro rfl ?_)); done))) | (refine And.intro ?_ ?_; (focus (first | omega | (dsimp -iota only; omega) | (simp -iota; omega) | (simp -iota; done) | decide)))); conv => whnf)
            refine ⟨⟨i + 1, A, by omega, hA⟩, Ent.mk' [some 0, some 1, some 2, some 3] (by kernel_rfl) (by repeat' first | exact trivial | refine And.intro (AVE.refl _) ?_ | refine And.intro (AVE.int (by first | rfl | omega | (dsimp only; omega) | (simp -iota; omega) | (simp -iota; done))) ?_ | refine And.intro (AVE.bool (by assumption)) ?_ | refine And.intro (AVE.len (by first | rfl | omega | (dsimp only; omega) | (simp -iota; omega) | (simp -iota; done))) ?_) (by repeat' (first | exact trivial | refine ⟨⟨_, rfl, ChE.refl _⟩, ?_⟩)), ?_⟩
            show l.length - (i + 1) < l.length - i
            omega
      · (conv => whnf); repeat ((first | (refine And.intro ?_ ?_; (focus ((repeat' (first | exact trivial | refine And.intro rfl ?_)); done))) | (refine And.intro ?_ ?_; (focus (first | omega | (dsimp -iota only; omega) | (simp -iota; omega) | (simp -iota; done) | decide)))); conv => whnf)
        refine ⟨⟨i + 1, A, by omega, hA⟩, Ent.mk' [some 0, some 1, some 2, some 3] (by kernel_rfl) (by repeat' first | exact trivial | refine And.intro (AVE.refl _) ?_ | refine And.intro (AVE.int (by first | rfl | omega | (dsimp only; omega) | (simp -iota; omega) | (simp -iota; done))) ?_ | refine And.intro (AVE.bool (by assumption)) ?_ | refine And.intro (AVE.len (by first | rfl | omega | (dsimp only; omega) | (simp -iota; omega) | (simp -iota; done))) ?_) (by repeat' (first | exact trivial | refine ⟨⟨_, rfl, ChE.refl _⟩, ?_⟩)), ?_⟩
        show l.length - (i + 1) < l.length - i
        omega
    · (conv => whnf); repeat ((first | (refine And.intro ?_ ?_; (focus ((repeat' (first | exact trivial | refine And.intro rfl ?_)); done))) | (refine And.intro ?_ ?_; (focus (first | omega | (dsimp -iota only; omega) | (simp -iota; omega) | (simp -iota; done) | decide)))); conv => whnf)
      refine AWP.loop (X := O2 A) (fun y => [(3, .ptr 0 0), (4, .ptr 1 0), (5, .mp 2), (6, .row 3 3 0 A.length), (68, AV.int .i64 A.length), (69, AV.int .i64 y.i)]) (fun y => ⟨4, [(0, .sem (Nest y.s.H)), (1, .sem (Nest y.r.H)), (2, .map none (smap sn (kd A))), (3, .rowc 28 3 A.length (aF A))]⟩) (fun y => A.length - y.i) (⟨0, S0, S0, by omega, ⟨ok0, rfl, rfl⟩, ⟨ok0, rfl, rfl⟩⟩) ?_ fun y => AWP.go (S := sch3) (cfgLOk _ _) (.of_eq (by kernel_rfl)) ?_
      · exact Ent.mk' [some 0, some 1, some 2, some 3] (by kernel_rfl) (by repeat' first | exact trivial | refine And.intro (AVE.refl _) ?_ | refine And.intro (AVE.int (by first | rfl | omega | (dsimp only; omega) | (simp -iota; omega) | (simp -iota; done))) ?_ | refine And.intro (AVE.bool (by assumption)) ?_ | refine And.intro (AVE.len (by first | rfl | omega | (dsimp only; omega) | (simp -iota; omega) | (simp -iota; done))) ?_) (by repeat' (first | exact trivial | refine ⟨⟨_, rfl, ChE.refl _⟩, ?_⟩))
      · obtain ⟨j, s, r, hj, hs, hr⟩ := y
        have hjx : ((j : Nat) : Int).toNat = j := by simp
        (conv => whnf); repeat ((first | (refine And.intro ?_ ?_; (focus ((repeat' (first | exact trivial | refine And.intro rfl ?_)); done))) | (refine And.intro ?_ ?_; (focus (first | omega | (dsimp -iota only; omega) | (simp -iota; omega) | (simp -iota; done) | decide)))); conv => whnf)
        refine branchB_of (fun h2 => ?_) (fun h2 => ?_) <;> (first | replace h2 := not_t h2 | replace h2 := not_f h2 | skip) <;> (first | replace h2 := of_decide_eq_true h2 | replace h2 := of_decide_eq_false h2 | skip) <;> (first | replace h2 := Classical.not_not.1 h2 | skip) <;> (try dsimp only at h2)
        · have hjl : j < A.length := by omega
          have hrx : ((A.length : Int) - 1 - (j : Int)).toNat = A.length - 1 - j := by omega
          obtain ⟨hs', hse⟩ := hs.step hA hjl
          have hjl2 : j < A.reverse.length := by simpa using hjl
          obtain ⟨hr', hre⟩ := hr.step hA.rev hjl2
          rw [rev_getD hjl] at hr' hre
          have hc1 := hA.q _ (getD_mem hjl)
          have hc2 := hA.q _ (getD_mem (A := A) (i := A.length - 1 - j) (by omega))
          (conv => whnf); repeat ((first | (refine And.intro ?_ ?_; (focus ((repeat' (first | exact trivial | refine And.intro rfl ?_)); done))) | (refine And.intro ?_ ?_; (focus (first | omega | (dsimp -iota only; omega) | (simp -iota; omega) | (simp -iota; done) | decide)))); conv => whnf)
          repeat' (refine And.intro ?_ ?_ <;> ((conv => whnf); repeat ((first | (refine And.intro ?_ ?_; (focus ((repeat' (first | exact trivial | refine And.intro rfl ?_)); done))) | (refine And.intro ?_ ?_; (focus (first | omega | (dsimp -iota only; omega) | (simp -iota; omega) | (simp -iota; done) | decide)))); conv => whnf)))
          all_goals
            generalize hc1e : A.getD (0 + ((j : Nat) : Int).toNat) default = c1
            generalize hc2e : A.getD (0 + ((A.length : Int) - 1 - (j : Int)).toNat) default = c2
            rw [Nat.zero_add, hjx] at hc1e
            rw [Nat.zero_add, hrx] at hc2e
            rw [hc1e] at hc1 hs' hse
            rw [hc2e] at hc2 hr' hre
            refine AFn.use [0] (add_ok s hs.hs c1.s c1.q (by omega)) (by kernel_rfl) rfl (by repeat' first | exact trivial | refine ⟨rfl, ?_⟩) fun _ => ?_
            rw [hse]
            (conv => whnf); repeat ((first | (refine And.intro ?_ ?_; (focus ((repeat' (first | exact trivial | refine And.intro rfl ?_)); done))) | (refine And.intro ?_ ?_; (focus (first | omega | (dsimp -iota only; omega) | (simp -iota; omega) | (simp -iota; done) | decide)))); conv => whnf)
            refine AFn.use [1] (add_ok r hr.hs c2.s c2.q (by omega)) (by kernel_rfl) rfl (by repeat' first | exact trivial | refine ⟨rfl, ?_⟩) fun _ => ?_
            rw [hre]
            (conv => whnf); repeat ((first | (refine And.intro ?_ ?_; (focus ((repeat' (first | exact trivial | refine And.intro rfl ?_)); done))) | (refine And.intro ?_ ?_; (focus (first | omega | (dsimp -iota only; omega) | (simp -iota; omega) | (simp -iota; done) | decide)))); conv => whnf)
            refine ⟨⟨j + 1, s.add c1.s c1.q, r.add c2.s c2.q, by omega, hs', hr'⟩, Ent.mk' [some 0, some 1, some 2, some 3] (by kernel_rfl) (by repeat' first | exact trivial | refine And.intro (AVE.refl _) ?_ | refine And.intro (AVE.int (by first | rfl | omega | (dsimp only; omega) | (simp -iota; omega) | (simp -iota; done))) ?_ | refine And.intro (AVE.bool (by assumption)) ?_ | refine And.intro (AVE.len (by first | rfl | omega | (dsimp only; omega) | (simp -iota; omega) | (simp -iota; done))) ?_) (by repeat' (first | exact trivial | refine ⟨⟨_, rfl, ChE.refl _⟩, ?_⟩)), ?_⟩
            show A.length - (j + 1) < A.length - j
            omega
        · have hjn : j = A.length := by omega
          subst hjn
          have hsl := hs.hl
          have hrl := hr.hl
          rw [List.take_length] at hsl
          rw [← List.length_reverse, List.take_length] at hrl
          have hT := tell_of hs.hs hsl
          obtain ⟨e1, e2⟩ := same_of hs.hs hr.hs hsl hrl (List.reverse_perm A)
          have c1 := list_ok s hs.hs
          have c2 := seqs_ok s hs.hs
          have c3 := list_ok r hr.hs
          have c4 := seqs_ok r hr.hs
          rw [e1] at c3
          rw [e2] at c4
          generalize s.list = L at *
          generalize s.seqs = Q at *
          have hLn := hT.ln
          have hQl := hT.ql
          have c5 := equal_ok L L (by omega) (by omega)
          have c6 := equalU_ok Q Q (by omega) (by omega)
          rw [decide_eq_true rfl] at c5 c6
          (conv => whnf); repeat ((first | (refine And.intro ?_ ?_; (focus ((repeat' (first | exact trivial | refine And.intro rfl ?_)); done))) | (refine And.intro ?_ ?_; (focus (first | omega | (dsimp -iota only; omega) | (simp -iota; omega) | (simp -iota; done) | decide)))); conv => whnf)
          refine AFn.use [0] (c1) (by kernel_rfl) rfl (by repeat' first | exact trivial | refine ⟨rfl, ?_⟩) fun _ => ?_
          (conv => whnf); repeat ((first | (refine And.intro ?_ ?_; (focus ((repeat' (first | exact trivial | refine And.intro rfl ?_)); done))) | (refine And.intro ?_ ?_; (focus (first | omega | (dsimp -iota only; omega) | (simp -iota; omega) | (simp -iota; done) | decide)))); conv => whnf)
          refine AFn.use [0] (c2) (by kernel_rfl) rfl (by repeat' first | exact trivial | refine ⟨rfl, ?_⟩) fun _ => ?_
          (conv => whnf); repeat ((first | (refine And.intro ?_ ?_; (focus ((repeat' (first | exact trivial | refine And.intro rfl ?_)); done))) | (refine And.intro ?_ ?_; (focus (first | omega | (dsimp -iota only; omega) | (simp -iota; omega) | (simp -iota; done) | decide)))); conv => whnf)
          refine AFn.use [1] (c3) (by kernel_rfl) rfl (by repeat' first | exact trivial | refine ⟨rfl, ?_⟩) fun _ => ?_
          (conv => whnf); repeat ((first | (refine And.intro ?_ ?_; (focus ((repeat' (first | exact trivial | refine And.intro rfl ?_)); done))) | (refine And.intro ?_ ?_; (focus (first | omega | (dsimp -iota only; omega) | (simp -iota; omega) | (simp -iota; done) | decide)))); conv => whnf)
          refine AFn.use [] (c5) (by kernel_rfl) rfl (by repeat' first | exact trivial | refine ⟨rfl, ?_⟩) fun _ => ?_
          (conv => whnf); repeat ((first | (refine And.intro ?_ ?_; (focus ((repeat' (first | exact trivial | refine And.intro rfl ?_)); done))) | (refine And.intro ?_ ?_; (focus (first | omega | (dsimp -iota only; omega) | (simp -iota; omega) | (simp -iota; done) | decide)))); conv => whnf)
          refine AFn.use [1] (c4) (by kernel_rfl) rfl (by repeat' first | exact trivial | refine ⟨rfl, ?_⟩) fun _ => ?_
          (conv => whnf); repeat ((first | (refine And.intro ?_ ?_; (focus ((repeat' (first | exact trivial | refine And.intro rfl ?_)); done))) | (refine And.intro ?_ ?_; (focus (first | omega | (dsimp -iota only; omega) | (simp -iota; omega) | (simp -iota; done) | decide)))); conv => whnf)
          refine AFn.use [] (c6) (by kernel_rfl) rfl (by repeat' first | exact trivial | refine ⟨rfl, ?_⟩) fun _ => ?_
          (conv => whnf); repeat ((first | (refine And.intro ?_ ?_; (focus ((repeat' (first | exact trivial | refine And.intro rfl ?_)); done))) | (refine And.intro ?_ ?_; (focus (first | omega | (dsimp -iota only; omega) | (simp -iota; omega) | (simp -iota; done) | decide)))); conv => whnf)
          refine branchB_of (fun h3 => ?_) (fun h3 => ?_) <;> (first | replace h3 := not_t h3 | replace h3 := not_f h3 | skip) <;> (first | replace h3 := of_decide_eq_true h3 | replace h3 := of_decide_eq_false h3 | skip) <;> (first | replace h3 := Classical.not_not.1 h3 | skip) <;> (try dsimp only at h3)
          · omega
          · (conv => whnf); repeat ((first | (refine And.intro ?_ ?_; (focus ((repeat' (first | exact trivial | refine And.intro rfl ?_)); done))) | (refine And.intro ?_ ?_; (focus (first | omega | (dsimp -iota only; omega) | (simp -iota; omega) | (simp -iota; done) | decide)))); conv => whnf)
            refine AWP.loop (X := O4 L) (fun z => [(5, .mp 0), (16, .iv (.sl 2 L.length (nqF L))), (17, .iv (.sl 1 Q.length (uF Q.toArray))), (18, .mp 1), (133, .iv (.sl 2 L.length (nqF L))), (134, AV.int .i64 L.length), (135, AV.int .i64 z.k)]) (fun z => ⟨2, [(0, .map none (smap sn (kd A))), (1, .map (some .u64) (pm z.P))]⟩) (fun z => L.length - z.k) (⟨0, [], by omega, by simp, by simp⟩) ?_ fun z => AWP.go (S := sch3) (cfgLOk _ _) (.of_eq (by kernel_rfl)) ?_
            · exact Ent.mk' [some 2, some 4] (by kernel_rfl) (by repeat' first | exact trivial | refine And.intro (AVE.refl _) ?_ | refine And.intro (AVE.int (by first | rfl | omega | (dsimp only; omega) | (simp -iota; omega) | (simp -iota; done))) ?_ | refine And.intro (AVE.bool (by assumption)) ?_ | refine And.intro (AVE.len (by first | rfl | omega | (dsimp only; omega) | (simp -iota; omega) | (simp -iota; done))) ?_) (by repeat' (first | exact trivial | refine ⟨⟨_, rfl, ChE.refl _⟩, ?_⟩))
            · obtain ⟨k, P, hk, hPn, hPm⟩ := z
              (conv => whnf); repeat ((first | (refine And.intro ?_ ?_; (focus ((repeat' (first | exact trivial | refine And.intro rfl ?_)); done))) | (refine And.intro ?_ ?_; (focus (first | omega | (dsimp -iota only; omega) | (simp -iota; omega) | (simp -iota; done) | decide)))); conv => whnf)
              refine branchB_of (fun h4 => ?_) (fun h4 => ?_) <;> (first | replace h4 := not_t h4 | replace h4 := not_f h4 | skip) <;> (first | replace h4 := of_decide_eq_true h4 | replace h4 := of_decide_eq_false h4 | skip) <;> (first | replace h4 := Classical.not_not.1 h4 | skip) <;> (try dsimp only at h4)
              · have hkx : ((k : Nat) : Int).toNat = k := by simp
                have hkx1 : ((k : Int) - 1).toNat = k - 1 := by omega
                (conv => whnf); repeat ((first | (refine And.intro ?_ ?_; (focus ((repeat' (first | exact trivial | refine And.intro rfl ?_)); done))) | (refine And.intro ?_ ?_; (focus (first | omega | (dsimp -iota only; omega) | (simp -iota; omega) | (simp -iota; done) | decide)))); conv => whnf)
                rw [mput_pm]
                have hnm := hT.lm k (by omega)
                have hmem2 : ∀ n, n ∈ gput P (L.getD k ([], 0)).2 ↔ ∃ p ∈ L.take (k + 1), p.2 = n := fun n => by
                  rw [mem_gput, hPm n, List.take_succ_eq_append_getElem (show k < L.length by omega)]
                  simp only [List.mem_append, List.mem_singleton]
                  have e : L.getD k ([], 0) = L[k]'(by omega) := by simp [List.getD, show k < L.length by omega]
                  rw [e]
                  constructor
                  · rintro (⟨p, h1, h2⟩ | rfl)
                    · exact ⟨p, .inl h1, h2⟩
                    · exact ⟨_, .inr rfl, rfl⟩
                  · rintro ⟨p, h1 | rfl, h2⟩
                    · exact .inl ⟨p, h1, h2⟩
                    · exact .inr h2.symm
                have hnd2 := nodup_gput (g := (L.getD k ([], 0)).2) hPn
                refine branchB_of (fun h5 => ?_) (fun h5 => ?_) <;> (first | replace h5 := not_t h5 | replace h5 := not_f h5 | skip) <;> (first | replace h5 := of_decide_eq_true h5 | replace h5 := of_decide_eq_false h5 | skip) <;> (first | replace h5 := Classical.not_not.1 h5 | skip) <;> (try dsimp only at h5)
                · have hlt := hT.ls k (by omega) (by omega)
                  have hbl : Op.bytesLess (L.getD (k - 1) ([], 0)).1 (L.getD k ([], 0)).1 = true := by rw [Go.Proofs.bytesLess_eq, decide_eq_true_eq]; exact hlt
                  (conv => whnf); repeat ((first | (refine And.intro ?_ ?_; (focus ((repeat' (first | exact trivial | refine And.intro rfl ?_)); done))) | (refine And.intro ?_ ?_; (focus (first | omega | (dsimp -iota only; omega) | (simp -iota; omega) | (simp -iota; done) | decide)))); conv => whnf)
                  rw [hkx1, hkx, hbl]
                  (conv => whnf); repeat ((first | (refine And.intro ?_ ?_; (focus ((repeat' (first | exact trivial | refine And.intro rfl ?_)); done))) | (refine And.intro ?_ ?_; (focus (first | omega | (dsimp -iota only; omega) | (simp -iota; omega) | (simp -iota; done) | decide)))); conv => whnf)
                  rw [mfind_smap]
                  refine ⟨fun y hy => ?_, fun hy => ?_⟩
                  · obtain ⟨z, hz, hz2⟩ := Option.map_eq_some_iff.1 hy
                    obtain ⟨p, hp, rfl⟩ := Option.map_eq_some_iff.1 hz
                    subst hz2
                    (conv => whnf); repeat ((first | (refine And.intro ?_ ?_; (focus ((repeat' (first | exact trivial | refine And.intro rfl ?_)); done))) | (refine And.intro ?_ ?_; (focus (first | omega | (dsimp -iota only; omega) | (simp -iota; omega) | (simp -iota; done) | decide)))); conv => whnf)
                    refine ⟨⟨k + 1, gput P (L.getD k ([], 0)).2, by omega, hnd2, hmem2⟩, Ent.mk' [some 0, some 1] (by kernel_rfl) (by repeat' first | exact trivial | refine And.intro (AVE.refl _) ?_ | refine And.intro (AVE.int (by first | rfl | omega | (dsimp only; omega) | (simp -iota; omega) | (simp -iota; done))) ?_ | refine And.intro (AVE.bool (by assumption)) ?_ | refine And.intro (AVE.len (by first | rfl | omega | (dsimp only; omega) | (simp -iota; omega) | (simp -iota; done))) ?_) (by repeat' (first | exact trivial | refine ⟨⟨_, rfl, ChE.refl _⟩, ?_⟩)), ?_⟩
                    show L.length - (k + 1) < L.length - k
                    omega
                  · have hy := Option.map_eq_none_iff.1 (Option.map_eq_none_iff.1 hy)
                    rw [afind_none, kd_keys] at hy
                    exact absurd hnm hy
                · (conv => whnf); repeat ((first | (refine And.intro ?_ ?_; (focus ((repeat' (first | exact trivial | refine And.intro rfl ?_)); done))) | (refine And.intro ?_ ?_; (focus (first | omega | (dsimp -iota only; omega) | (simp -iota; omega) | (simp -iota; done) | decide)))); conv => whnf)
                  rw [mfind_smap]
                  refine ⟨fun y hy => ?_, fun hy => ?_⟩
                  · obtain ⟨z, hz, hz2⟩ := Option.map_eq_some_iff.1 hy
                    obtain ⟨p, hp, rfl⟩ := Option.map_eq_some_iff.1 hz
                    subst hz2
                    (conv => whnf); repeat ((first | (refine And.intro ?_ ?_; (focus ((repeat' (first | exact trivial | refine And.intro rfl ?_)); done))) | (refine And.intro ?_ ?_; (focus (first | omega | (dsimp -iota only; omega) | (simp -iota; omega) | (simp -iota; done) | decide)))); conv => whnf)
                    refine ⟨⟨k + 1, gput P (L.getD k ([], 0)).2, by omega, hnd2, hmem2⟩, Ent.mk' [some 0, some 1] (by kernel_rfl) (by repeat' first | exact trivial | refine And.intro (AVE.refl _) ?_ | refine And.intro (AVE.int (by first | rfl | omega | (dsimp only; omega) | (simp -iota; omega) | (simp -iota; done))) ?_ | refine And.intro (AVE.bool (by assumption)) ?_ | refine And.intro (AVE.len (by first | rfl | omega | (dsimp only; omega) | (simp -iota; omega) | (simp -iota; done))) ?_) (by repeat' (first | exact trivial | refine ⟨⟨_, rfl, ChE.refl _⟩, ?_⟩)), ?_⟩
                    show L.length - (k + 1) < L.length - k
                    omega
                  · have hy := Option.map_eq_none_iff.1 (Option.map_eq_none_iff.1 hy)
                    rw [afind_none, kd_keys] at hy
                    exact absurd hnm hy
              · have hkL : k = L.length := by omega
                subst hkL
                rw [List.take_length] at hPm
                have hPQ : ∀ n, n ∈ P ↔ n ∈ Q := fun n => by rw [hPm n, hT.qm n]
                have hPl : P.length = Q.length := Nat.le_antisymm (nodup_len hPn fun x hx => (hPQ x).1 hx) (nodup_len hT.qd fun x hx => (hPQ x).2 hx)
                (conv => whnf); repeat ((first | (refine And.intro ?_ ?_; (focus ((repeat' (first | exact trivial | refine And.intro rfl ?_)); done))) | (refine And.intro ?_ ?_; (focus (first | omega | (dsimp -iota only; omega) | (simp -iota; omega) | (simp -iota; done) | decide)))); conv => whnf)
                refine AWP.loop (X := { u : Nat // u ≤ Q.length }) (fun u => [(17, .iv (.sl 1 Q.length (uF Q.toArray))), (18, .mp 0), (164, .iv (.sl 1 Q.length (uF Q.toArray))), (165, AV.int .i64 Q.length), (166, AV.int .i64 u.1)]) (fun u => ⟨1, [(0, .map (some .u64) (pm P))]⟩) (fun u => Q.length - u.1) (⟨0, by omega⟩) ?_ fun u => AWP.go (S := sch3) (cfgLOk _ _) (.of_eq (by kernel_rfl)) ?_
                · exact Ent.mk' [some 1] (by kernel_rfl) (by repeat' first | exact trivial | refine And.intro (AVE.refl _) ?_ | refine And.intro (AVE.int (by first | rfl | omega | (dsimp only; omega) | (simp -iota; omega) | (simp -iota; done))) ?_ | refine And.intro (AVE.bool (by assumption)) ?_ | refine And.intro (AVE.len (by first | rfl | omega | (dsimp only; omega) | (simp -iota; omega) | (simp -iota; done))) ?_) (by repeat' (first | exact trivial | refine ⟨⟨_, rfl, ChE.refl _⟩, ?_⟩))
                · obtain ⟨u, hu⟩ := u
                  have hux : ((u : Nat) : Int).toNat = u := by simp
                  have hux1 : ((u : Int) - 1).toNat = u - 1 := by omega
                  (conv => whnf); repeat ((first | (refine And.intro ?_ ?_; (focus ((repeat' (first | exact trivial | refine And.intro rfl ?_)); done))) | (refine And.intro ?_ ?_; (focus (first | omega | (dsimp -iota only; omega) | (simp -iota; omega) | (simp -iota; done) | decide)))); conv => whnf)
                  refine branchB_of (fun h6 => ?_) (fun h6 => ?_) <;> (first | replace h6 := not_t h6 | replace h6 := not_f h6 | skip) <;> (first | replace h6 := of_decide_eq_true h6 | replace h6 := of_decide_eq_false h6 | skip) <;> (first | replace h6 := Classical.not_not.1 h6 | skip) <;> (try dsimp only at h6)
                  · have hin : Q.getD u 0 ∈ P := (hPQ _).2 (by
                      simp only [List.getD, List.getElem?_eq_getElem (show u < Q.length by omega), Option.getD_some]
                      exact List.getElem_mem _)
                    (conv => whnf); repeat ((first | (refine And.intro ?_ ?_; (focus ((repeat' (first | exact trivial | refine And.intro rfl ?_)); done))) | (refine And.intro ?_ ?_; (focus (first | omega | (dsimp -iota only; omega) | (simp -iota; omega) | (simp -iota; done) | decide)))); conv => whnf)
                    rw [hux, bang_getD, mfind_pm, if_pos hin]
                    refine ⟨fun y hy => ?_, fun hy => by cases hy⟩
                    injection hy with hy
                    subst hy
                    (conv => whnf); repeat ((first | (refine And.intro ?_ ?_; (focus ((repeat' (first | exact trivial | refine And.intro rfl ?_)); done))) | (refine And.intro ?_ ?_; (focus (first | omega | (dsimp -iota only; omega) | (simp -iota; omega) | (simp -iota; done) | decide)))); conv => whnf)
                    refine branchB_of (fun h7 => ?_) (fun h7 => ?_) <;> (first | replace h7 := not_t h7 | replace h7 := not_f h7 | skip) <;> (first | replace h7 := of_decide_eq_true h7 | replace h7 := of_decide_eq_false h7 | skip) <;> (first | replace h7 := Classical.not_not.1 h7 | skip) <;> (try dsimp only at h7)
                    · have hlt := hT.qs u (by omega) (by omega)
                      (conv => whnf); repeat ((first | (refine And.intro ?_ ?_; (focus ((repeat' (first | exact trivial | refine And.intro rfl ?_)); done))) | (refine And.intro ?_ ?_; (focus (first | omega | (dsimp -iota only; omega) | (simp -iota; omega) | (simp -iota; done) | decide)))); conv => whnf)
                      refine branchB_of (fun h8 => ?_) (fun h8 => ?_) <;> (first | replace h8 := not_t h8 | replace h8 := not_f h8 | skip) <;> (first | replace h8 := of_decide_eq_true h8 | replace h8 := of_decide_eq_false h8 | skip) <;> (first | replace h8 := Classical.not_not.1 h8 | skip) <;> (try dsimp only at h8)
                      · rw [hux1, bang_getD] at h8
                        omega
                      · (conv => whnf); repeat ((first | (refine And.intro ?_ ?_; (focus ((repeat' (first | exact trivial | refine And.intro rfl ?_)); done))) | (refine And.intro ?_ ?_; (focus (first | omega | (dsimp -iota only; omega) | (simp -iota; omega) | (simp -iota; done) | decide)))); conv => whnf)
                        refine ⟨⟨u + 1, by omega⟩, Ent.mk' [some 0] (by kernel_rfl) (by repeat' first | exact trivial | refine And.intro (AVE.refl _) ?_ | refine And.intro (AVE.int (by first | rfl | omega | (dsimp only; omega) | (simp -iota; omega) | (simp -iota; done))) ?_ | refine And.intro (AVE.bool (by assumption)) ?_ | refine And.intro (AVE.len (by first | rfl | omega | (dsimp only; omega) | (simp -iota; omega) | (simp -iota; done))) ?_) (by repeat' (first | exact trivial | refine ⟨⟨_, rfl, ChE.refl _⟩, ?_⟩)), ?_⟩
                        show Q.length - (u + 1) < Q.length - u
                        omega
                    · (conv => whnf); repeat ((first | (refine And.intro ?_ ?_; (focus ((repeat' (first | exact trivial | refine And.intro rfl ?_)); done))) | (refine And.intro ?_ ?_; (focus (first | omega | (dsimp -iota only; omega) | (simp -iota; omega) | (simp -iota; done) | decide)))); conv => whnf)
                      refine ⟨⟨u + 1, by omega⟩, Ent.mk' [some 0] (by kernel_rfl) (by repeat' first | exact trivial | refine And.intro (AVE.refl _) ?_ | refine And.intro (AVE.int (by first | rfl | omega | (dsimp only; omega) | (simp -iota; omega) | (simp -iota; done))) ?_ | refine And.intro (AVE.bool (by assumption)) ?_ | refine And.intro (AVE.len (by first | rfl | omega | (dsimp only; omega) | (simp -iota; omega) | (simp -iota; done))) ?_) (by repeat' (first | exact trivial | refine ⟨⟨_, rfl, ChE.refl _⟩, ?_⟩)), ?_⟩
                      show Q.length - (u + 1) < Q.length - u
                      omega
                  · have hpl := pm_length P
                    (conv => whnf); repeat ((first | (refine And.intro ?_ ?_; (focus ((repeat' (first | exact trivial | refine And.intro rfl ?_)); done))) | (refine And.intro ?_ ?_; (focus (first | omega | (dsimp -iota only; omega) | (simp -iota; omega) | (simp -iota; done) | decide)))); conv => whnf)
                    refine branchB_of (fun h9 => ?_) (fun h9 => ?_) <;> (first | replace h9 := not_t h9 | replace h9 := not_f h9 | skip) <;> (first | replace h9 := of_decide_eq_true h9 | replace h9 := of_decide_eq_false h9 | skip) <;> (first | replace h9 := Classical.not_not.1 h9 | skip) <;> (try dsimp only at h9)
                    · (conv => whnf); repeat ((first | (refine And.intro ?_ ?_; (focus ((repeat' (first | exact trivial | refine And.intro rfl ?_)); done))) | (refine And.intro ?_ ?_; (focus (first | omega | (dsimp -iota only; omega) | (simp -iota; omega) | (simp -iota; done) | decide)))); conv => whnf)
                      refine AFn.use [] (wakes_ok) (by kernel_rfl) rfl (by repeat' first | exact trivial | refine ⟨rfl, ?_⟩) fun _ => ?_
                      (conv => whnf); repeat ((first | (refine And.intro ?_ ?_; (focus ((repeat' (first | exact trivial | refine And.intro rfl ?_)); done))) | (refine And.intro ?_ ?_; (focus (first | omega | (dsimp -iota only; omega) | (simp -iota; omega) | (simp -iota; done) | decide)))); conv => whnf)
                      refine ⟨_, _, Ent.mk' (e' := [(0, AV.bool true)]) (H' := ⟨0, []⟩) [] (by kernel_rfl) ?_ ?_, (), rfl, rfl⟩
                      · exact ⟨AVE.refl _, trivial⟩
                      · trivial
                    · omega
end Go.Proofs.Ytoofmkkcaoojiaa.Ax

namespace Go.Proofs.Ytoofmkkcaoojiaa.Ax
open Go.RowKit
set_option maxRecDepth 100000
noncomputable def cfgP (N b : Nat) : Cfg := { P := Go.Proofs.Try.prog, T := tt, wr := false, N := N, pure := [], base := b, cuts := [2] }
theorem cfgPOk (N b : Nat) : (cfgP N b).Ok := ⟨ttOk, ttBytes, by kernel_rfl⟩
section
variable (s : SN)
theorem rget_ok (hs : s.Ok) (x : List UInt8) : AFn Go.Proofs.Try.prog 20 [.ptr 0 0, .str x] (one s.R) (fun _ : Unit => .tup [AV.int .u64 (s.findP x).1, AV.int .u64 (s.findP x).2, AV.int .i64 (s.findE x)]) (fun _ => one s.R) := AFn.shut (rget_in s hs x) rfl rfl (fun _ => ⟨by kernel_rfl, by kernel_rfl⟩) (fun _ => (by repeat' first | exact trivial | refine ⟨rfl, ?_⟩)) (fun _ => rfl)
theorem rlives_ok (hs : s.Ok) (k : Nat) : AFn Go.Proofs.Try.prog 21 [.ptr 0 0, AV.int .u64 k] (one s.R) (fun _ : Unit => .tup [.agg [.str (s.livesN k), AV.int .u64 (s.livesQ k)], AV.bool (s.livesB k)]) (fun _ => one s.R) := AFn.shut (rlives_in s hs k) rfl rfl (fun _ => ⟨by kernel_rfl, by kernel_rfl⟩) (fun _ => (by repeat' first | exact trivial | refine ⟨rfl, ?_⟩)) (fun _ => rfl)
theorem rlist_ok (hs : s.Ok) : AFn Go.Proofs.Try.prog 22 [.ptr 0 0] (one s.R) (fun _ : Unit => .iv (.sl 2 s.list.length (nqF s.list))) (fun _ => one s.R) := AFn.shut (rlist_in s hs) rfl rfl (fun _ => ⟨by kernel_rfl, by kernel_rfl⟩) (fun _ => (by repeat' first | exact trivial | refine ⟨rfl, ?_⟩)) (fun _ => rfl)
theorem rseqs_ok (hs : s.Ok) : AFn Go.Proofs.Try.prog 23 [.ptr 0 0] (one s.R) (fun _ : Unit => .iv (.sl 1 s.seqs.length (uF s.seqs.toArray))) (fun _ => one s.R) := AFn.shut (rseqs_in s hs) rfl rfl (fun _ => ⟨by kernel_rfl, by kernel_rfl⟩) (fun _ => (by repeat' first | exact trivial | refine ⟨rfl, ?_⟩)) (fun _ => rfl)
theorem add_all (hs : s.Ok) (x : List UInt8) (q : Nat) (hn : s.n < 1000) : (s.add x q).Ok ∧ (s.add x q).n ≤ s.n + 1 := by
  by_cases h : s.addE x q = 0
  · refine ⟨add_Ok s hs h hn, ?_⟩
    rw [add_l s h]
    exact Nat.le_refl _
  · rw [add_same s h]
    exact ⟨hs, by omega⟩
theorem drop_n (x : List UInt8) : (s.drop x).n = s.n := by
  unfold SN.drop
  split <;> rfl
end
structure PZ (l : List Act) where
  i : Nat
  s : SN
  hi : i ≤ 80
  hil : i ≤ l.length
  hs : s.Ok
  hn : s.n ≤ i
structure PY (i : Nat) where
  s : SN
  hs : s.Ok
  hn : s.n ≤ i + 1
set_option maxHeartbeats 1000000 in
theorem play_law (l : List Act) (hq : ∀ c ∈ l, c.q ≤ 18446744073709551615) (mk : Nat) (hmk : mk ≤ 255) : Law Go.Proofs.Try.prog 5 [.iv (.sl 3 l.length fun i => actI (l.getD i default)), AV.int .u8 mk] := by
  refine ACall.fin ?_
  refine ACall.walkF (C := cfgP 183 0) (cfgPOk _ _) sch5 (fn := Go.Proofs.Try.f5) (by kernel_rfl) (by kernel_rfl) rfl (by kernel_rfl) (by kernel_rfl) rfl rfl fun hlen hheap => ?_
  obtain ⟨hl1, _⟩ := hlen
  simp only [lenF] at hl1
  (conv => whnf); repeat ((first | (refine And.intro ?_ ?_; (focus ((repeat' (first | exact trivial | refine And.intro rfl ?_)); done))) | (refine And.intro ?_ ?_; (focus (first | omega | (dsimp -iota only; omega) | (simp -iota; omega) | (simp -iota; done) | decide)))); conv => whnf)
  refine AFn.use [] (new_ok) (by kernel_rfl) rfl (by repeat' first | exact trivial | refine ⟨rfl, ?_⟩) fun _ => ?_
  (conv => whnf); repeat ((first | (refine And.intro ?_ ?_; (focus ((repeat' (first | exact trivial | refine And.intro rfl ?_)); done))) | (refine And.intro ?_ ?_; (focus (first | omega | (dsimp -iota only; omega) | (simp -iota; omega) | (simp -iota; done) | decide)))); conv => whnf)
  refine AWP.merge (Y := Unit) (fun u => []) (fun u => ⟨0, []⟩) 0 (fun u => ?_) ?_
  · (conv => whnf); repeat ((first | (refine And.intro ?_ ?_; (focus ((repeat' (first | exact trivial | refine And.intro rfl ?_)); done))) | (refine And.intro ?_ ?_; (focus (first | omega | (dsimp -iota only; omega) | (simp -iota; omega) | (simp -iota; done) | decide)))); conv => whnf)
    refine AFn.use [] (wakes_ok) (by kernel_rfl) rfl (by repeat' first | exact trivial | refine ⟨rfl, ?_⟩) fun _ => ?_
    (conv => whnf); repeat ((first | (refine And.intro ?_ ?_; (focus ((repeat' (first | exact trivial | refine And.intro rfl ?_)); done))) | (refine And.intro ?_ ?_; (focus (first | omega | (dsimp -iota only; omega) | (simp -iota; omega) | (simp -iota; done) | decide)))); conv => whnf)
    exact ⟨_, _, Ent.mk' (e' := [(0, AV.bool true)]) (H' := ⟨0, []⟩) [] (by kernel_rfl) ⟨AVE.of_eq rfl, trivial⟩ trivial, (), rfl, rfl⟩
  refine AWP.loop (X := PZ l) (fun x => [(1, AV.int .u8 mk), (5, .ptr 0 0), (6, .ptr 1 0), (28, .iv (.sl 3 l.length fun i => actI (l.getD i default))), (29, AV.int .i64 l.length), (30, AV.int .i64 x.i)]) (fun x => ⟨2, [(0, .sem (Nest x.s.H)), (1, .sem (Nest x.s.R))]⟩) (fun x => 80 - x.i) (⟨0, S0, by omega, by omega, ok0, by decide⟩) ?_ fun x => AWP.go (S := sch5) (cfgPOk _ _) (.of_eq (by kernel_rfl)) ?_
  · refine (Ent.mk' (e' := [(1, AV.int .u8 mk), (5, .ptr 0 0), (6, .ptr 1 0), (28, .iv (.sl 3 l.length fun i => actI (l.getD i default))), (29, AV.int .i64 l.length), (30, AV.int .i64 0)]) (H' := ⟨3, [(0, .sem (Nest S0.H)), (1, .cells 53 [.row 2 3 0 0, .int .u64 0]), (2, .rowc 77 3 0 (oF []))]⟩) [some 0, some 1, none] (by kernel_rfl) ?_ ?_).trans ((HEnt.close [1, 2] 1 S0.R (by kernel_rfl) (by repeat' first | exact trivial | refine ⟨rfl, ?_⟩)).ent.trans (Ent.mk' [some 0, some 1] (by kernel_rfl) ?_ ?_))
    · exact ⟨AVE.refl _, AVE.refl _, AVE.refl _, AVE.refl _, AVE.refl _, AVE.refl _, trivial⟩
    · exact ⟨⟨_, rfl, ChE.refl _⟩, ⟨_, rfl, ChE.cells ⟨AVE.nil _ _, AVE.refl _, rfl⟩⟩, trivial, trivial⟩
    · exact ⟨AVE.refl _, AVE.refl _, AVE.refl _, AVE.refl _, AVE.refl _, AVE.refl _, trivial⟩
    · (repeat' first | exact trivial | refine ⟨⟨_, rfl, ChE.refl _⟩, ?_⟩)
  · obtain ⟨i, s, hi, hil, hs, hn⟩ := x
    have hix : ((i : Nat) : Int).toNat = i := by simp
    (conv => whnf); repeat ((first | (refine And.intro ?_ ?_; (focus ((repeat' (first | exact trivial | refine And.intro rfl ?_)); done))) | (refine And.intro ?_ ?_; (focus (first | omega | (dsimp -iota only; omega) | (simp -iota; omega) | (simp -iota; done) | decide)))); conv => whnf)
    refine branchB_of (fun h0 => ?_) (fun h0 => ?_) <;> (first | replace h0 := not_t h0 | replace h0 := not_f h0 | skip) <;> (first | replace h0 := of_decide_eq_true h0 | replace h0 := of_decide_eq_false h0 | skip) <;> (first | replace h0 := Classical.not_not.1 h0 | skip) <;> (try dsimp only at h0)
    rotate_left
    · (conv => whnf); repeat ((first | (refine And.intro ?_ ?_; (focus ((repeat' (first | exact trivial | refine And.intro rfl ?_)); done))) | (refine And.intro ?_ ?_; (focus (first | omega | (dsimp -iota only; omega) | (simp -iota; omega) | (simp -iota; done) | decide)))); conv => whnf)
      exact ⟨(), Ent.mk' [] (by kernel_rfl) (by repeat' first | exact trivial | refine And.intro (AVE.refl _) ?_ | refine And.intro (AVE.int (by first | rfl | omega | (dsimp only; omega) | (simp -iota; omega) | (simp -iota; done))) ?_ | refine And.intro (AVE.bool (by assumption)) ?_ | refine And.intro (AVE.len (by first | rfl | omega | (dsimp only; omega) | (simp -iota; omega) | (simp -iota; done))) ?_) (by repeat' (first | exact trivial | refine ⟨⟨_, rfl, ChE.refl _⟩, ?_⟩))⟩
    (conv => whnf); repeat ((first | (refine And.intro ?_ ?_; (focus ((repeat' (first | exact trivial | refine And.intro rfl ?_)); done))) | (refine And.intro ?_ ?_; (focus (first | omega | (dsimp -iota only; omega) | (simp -iota; omega) | (simp -iota; done) | decide)))); conv => whnf)
    refine branchB_of (fun h => ?_) (fun h => ?_) <;> (first | replace h := not_t h | replace h := not_f h | skip) <;> (first | replace h := of_decide_eq_true h | replace h := of_decide_eq_false h | skip) <;> (first | replace h := Classical.not_not.1 h | skip) <;> (try dsimp only at h)
    · (conv => whnf); repeat ((first | (refine And.intro ?_ ?_; (focus ((repeat' (first | exact trivial | refine And.intro rfl ?_)); done))) | (refine And.intro ?_ ?_; (focus (first | omega | (dsimp -iota only; omega) | (simp -iota; omega) | (simp -iota; done) | decide)))); conv => whnf)
      exact ⟨(), Ent.mk' [] (by kernel_rfl) (by repeat' first | exact trivial | refine And.intro (AVE.refl _) ?_ | refine And.intro (AVE.int (by first | rfl | omega | (dsimp only; omega) | (simp -iota; omega) | (simp -iota; done))) ?_ | refine And.intro (AVE.bool (by assumption)) ?_ | refine And.intro (AVE.len (by first | rfl | omega | (dsimp only; omega) | (simp -iota; omega) | (simp -iota; done))) ?_) (by repeat' (first | exact trivial | refine ⟨⟨_, rfl, ChE.refl _⟩, ?_⟩))⟩
    (conv => whnf); repeat ((first | (refine And.intro ?_ ?_; (focus ((repeat' (first | exact trivial | refine And.intro rfl ?_)); done))) | (refine And.intro ?_ ?_; (focus (first | omega | (dsimp -iota only; omega) | (simp -iota; omega) | (simp -iota; done) | decide)))); conv => whnf)
    have hcq : (l.getD ((i : Nat) : Int).toNat default).q ≤ 18446744073709551615 := by
      have hlt : i < l.length := by omega
      rw [hix]
      simp only [List.getD, List.getElem?_eq_getElem hlt, Option.getD_some]
      exact hq _ (List.getElem_mem hlt)
    generalize l.getD ((i : Nat) : Int).toNat default = c at *
    generalize hnm : ((c.s.drop (0 : Int).toNat).take ((min (c.s.length : Int) 40).toNat - (0 : Int).toNat)) = nm
    refine AWP.meet (Y := PY i) (fun y => [(1, AV.int .u8 mk), (5, .ptr 0 0), (6, .ptr 1 0), (8, .ptr 2 0), (9, AV.bool true), (28, .iv (.sl 3 l.length fun i => actI (l.getD i default))), (29, AV.int .i64 l.length), (30, AV.int .i64 i)]) (fun y => ⟨3, [(0, .sem (Nest y.s.H)), (1, .sem (Nest y.s.R)), (2, .cells 28 [AV.int .i64 c.w, .str nm, AV.int .u64 c.q])]⟩) (fun y => ?_) (AWP.block' (AWP.go (S := sch5) (cfgPOk _ _) (.of_eq (by kernel_rfl)) ?_))
    rotate_left
    · (conv => whnf); repeat ((first | (refine And.intro ?_ ?_; (focus ((repeat' (first | exact trivial | refine And.intro rfl ?_)); done))) | (refine And.intro ?_ ?_; (focus (first | omega | (dsimp -iota only; omega) | (simp -iota; omega) | (simp -iota; done) | decide)))); conv => whnf)
      have hde : decide (s.addE nm c.q = s.addE nm c.q) = true := decide_eq_true rfl
      have hdd : decide (s.findE nm = s.findE nm) = true := decide_eq_true rfl
      obtain ⟨ha1, ha2⟩ := add_all s hs nm c.q (by omega)
      have hd1 := drop_Ok s hs nm
      have hd2 := drop_n s nm
      refine branchB_of (fun g0 => ?_) (fun g0 => ?_) <;> (first | replace g0 := not_t g0 | replace g0 := not_f g0 | skip) <;> (first | replace g0 := of_decide_eq_true g0 | replace g0 := of_decide_eq_false g0 | skip) <;> (first | replace g0 := Classical.not_not.1 g0 | skip) <;> (try dsimp only at g0)
      · (conv => whnf); repeat ((first | (refine And.intro ?_ ?_; (focus ((repeat' (first | exact trivial | refine And.intro rfl ?_)); done))) | (refine And.intro ?_ ?_; (focus (first | omega | (dsimp -iota only; omega) | (simp -iota; omega) | (simp -iota; done) | decide)))); conv => whnf)
        refine AFn.use [0] (add_ok s hs nm c.q hcq) (by kernel_rfl) rfl (by repeat' first | exact trivial | refine ⟨rfl, ?_⟩) fun _ => ?_
        (conv => whnf); repeat ((first | (refine And.intro ?_ ?_; (focus ((repeat' (first | exact trivial | refine And.intro rfl ?_)); done))) | (refine And.intro ?_ ?_; (focus (first | omega | (dsimp -iota only; omega) | (simp -iota; omega) | (simp -iota; done) | decide)))); conv => whnf)
        refine AFn.use [1] (radd_ok s hs nm c.q hcq) (by kernel_rfl) rfl (by repeat' first | exact trivial | refine ⟨rfl, ?_⟩) fun _ => ?_
        (conv => whnf); repeat ((first | (refine And.intro ?_ ?_; (focus ((repeat' (first | exact trivial | refine And.intro rfl ?_)); done))) | (refine And.intro ?_ ?_; (focus (first | omega | (dsimp -iota only; omega) | (simp -iota; omega) | (simp -iota; done) | decide)))); conv => whnf)
        refine branchB_of (fun ga => ?_) (fun ga => ?_) <;> (first | replace ga := not_t ga | replace ga := not_f ga | skip) <;> (first | replace ga := of_decide_eq_true ga | replace ga := of_decide_eq_false ga | skip) <;> (first | replace ga := Classical.not_not.1 ga | skip) <;> (try dsimp only at ga)
        · (conv => whnf); repeat ((first | (refine And.intro ?_ ?_; (focus ((repeat' (first | exact trivial | refine And.intro rfl ?_)); done))) | (refine And.intro ?_ ?_; (focus (first | omega | (dsimp -iota only; omega) | (simp -iota; omega) | (simp -iota; done) | decide)))); conv => whnf)
          exact ⟨⟨s.add nm c.q, ha1, by omega⟩, Ent.mk' [some 0, some 1, some 2] (by kernel_rfl) (by repeat' first | exact trivial | refine And.intro (AVE.refl _) ?_ | refine And.intro (AVE.int (by first | rfl | omega | (dsimp only; omega) | (simp -iota; omega) | (simp -iota; done))) ?_ | refine And.intro (AVE.bool (by assumption)) ?_ | refine And.intro (AVE.len (by first | rfl | omega | (dsimp only; omega) | (simp -iota; omega) | (simp -iota; done))) ?_) (by repeat' (first | exact trivial | refine ⟨⟨_, rfl, ChE.refl _⟩, ?_⟩))⟩
        · exact absurd rfl ga
      · (conv => whnf); repeat ((first | (refine And.intro ?_ ?_; (focus ((repeat' (first | exact trivial | refine And.intro rfl ?_)); done))) | (refine And.intro ?_ ?_; (focus (first | omega | (dsimp -iota only; omega) | (simp -iota; omega) | (simp -iota; done) | decide)))); conv => whnf)
        refine branchB_of (fun g1 => ?_) (fun g1 => ?_) <;> (first | replace g1 := not_t g1 | replace g1 := not_f g1 | skip) <;> (first | replace g1 := of_decide_eq_true g1 | replace g1 := of_decide_eq_false g1 | skip) <;> (first | replace g1 := Classical.not_not.1 g1 | skip) <;> (try dsimp only at g1)
        · (conv => whnf); repeat ((first | (refine And.intro ?_ ?_; (focus ((repeat' (first | exact trivial | refine And.intro rfl ?_)); done))) | (refine And.intro ?_ ?_; (focus (first | omega | (dsimp -iota only; omega) | (simp -iota; omega) | (simp -iota; done) | decide)))); conv => whnf)
          refine AFn.use [0] (add_ok s hs nm c.q hcq) (by kernel_rfl) rfl (by repeat' first | exact trivial | refine ⟨rfl, ?_⟩) fun _ => ?_
          (conv => whnf); repeat ((first | (refine And.intro ?_ ?_; (focus ((repeat' (first | exact trivial | refine And.intro rfl ?_)); done))) | (refine And.intro ?_ ?_; (focus (first | omega | (dsimp -iota only; omega) | (simp -iota; omega) | (simp -iota; done) | decide)))); conv => whnf)
          refine AFn.use [1] (radd_ok s hs nm c.q hcq) (by kernel_rfl) rfl (by repeat' first | exact trivial | refine ⟨rfl, ?_⟩) fun _ => ?_
          (conv => whnf); repeat ((first | (refine And.intro ?_ ?_; (focus ((repeat' (first | exact trivial | refine And.intro rfl ?_)); done))) | (refine And.intro ?_ ?_; (focus (first | omega | (dsimp -iota only; omega) | (simp -iota; omega) | (simp -iota; done) | decide)))); conv => whnf)
          refine branchB_of (fun ga => ?_) (fun ga => ?_) <;> (first | replace ga := not_t ga | replace ga := not_f ga | skip) <;> (first | replace ga := of_decide_eq_true ga | replace ga := of_decide_eq_false ga | skip) <;> (first | replace ga := Classical.not_not.1 ga | skip) <;> (try dsimp only at ga)
          · (conv => whnf); repeat ((first | (refine And.intro ?_ ?_; (focus ((repeat' (first | exact trivial | refine And.intro rfl ?_)); done))) | (refine And.intro ?_ ?_; (focus (first | omega | (dsimp -iota only; omega) | (simp -iota; omega) | (simp -iota; done) | decide)))); conv => whnf)
            exact ⟨⟨s.add nm c.q, ha1, by omega⟩, Ent.mk' [some 0, some 1, some 2] (by kernel_rfl) (by repeat' first | exact trivial | refine And.intro (AVE.refl _) ?_ | refine And.intro (AVE.int (by first | rfl | omega | (dsimp only; omega) | (simp -iota; omega) | (simp -iota; done))) ?_ | refine And.intro (AVE.bool (by assumption)) ?_ | refine And.intro (AVE.len (by first | rfl | omega | (dsimp only; omega) | (simp -iota; omega) | (simp -iota; done))) ?_) (by repeat' (first | exact trivial | refine ⟨⟨_, rfl, ChE.refl _⟩, ?_⟩))⟩
          · exact absurd rfl ga
        · (conv => whnf); repeat ((first | (refine And.intro ?_ ?_; (focus ((repeat' (first | exact trivial | refine And.intro rfl ?_)); done))) | (refine And.intro ?_ ?_; (focus (first | omega | (dsimp -iota only; omega) | (simp -iota; omega) | (simp -iota; done) | decide)))); conv => whnf)
          refine branchB_of (fun g2 => ?_) (fun g2 => ?_) <;> (first | replace g2 := not_t g2 | replace g2 := not_f g2 | skip) <;> (first | replace g2 := of_decide_eq_true g2 | replace g2 := of_decide_eq_false g2 | skip) <;> (first | replace g2 := Classical.not_not.1 g2 | skip) <;> (try dsimp only at g2)
          · (conv => whnf); repeat ((first | (refine And.intro ?_ ?_; (focus ((repeat' (first | exact trivial | refine And.intro rfl ?_)); done))) | (refine And.intro ?_ ?_; (focus (first | omega | (dsimp -iota only; omega) | (simp -iota; omega) | (simp -iota; done) | decide)))); conv => whnf)
            repeat' (refine And.intro ?_ ?_ <;> ((conv => whnf); repeat ((first | (refine And.intro ?_ ?_; (focus ((repeat' (first | exact trivial | refine And.intro rfl ?_)); done))) | (refine And.intro ?_ ?_; (focus (first | omega | (dsimp -iota only; omega) | (simp -iota; omega) | (simp -iota; done) | decide)))); conv => whnf)))
            all_goals
              refine AFn.use [0] (drop_ok s nm) (by kernel_rfl) rfl (by repeat' first | exact trivial | refine ⟨rfl, ?_⟩) fun _ => ?_
              (conv => whnf); repeat ((first | (refine And.intro ?_ ?_; (focus ((repeat' (first | exact trivial | refine And.intro rfl ?_)); done))) | (refine And.intro ?_ ?_; (focus (first | omega | (dsimp -iota only; omega) | (simp -iota; omega) | (simp -iota; done) | decide)))); conv => whnf)
              repeat' (refine And.intro ?_ ?_ <;> ((conv => whnf); repeat ((first | (refine And.intro ?_ ?_; (focus ((repeat' (first | exact trivial | refine And.intro rfl ?_)); done))) | (refine And.intro ?_ ?_; (focus (first | omega | (dsimp -iota only; omega) | (simp -iota; omega) | (simp -iota; done) | decide)))); conv => whnf)))
              all_goals
                refine AFn.use [1] (rdrop_ok s hs nm) (by kernel_rfl) rfl (by repeat' first | exact trivial | refine ⟨rfl, ?_⟩) fun _ => ?_
                (conv => whnf); repeat ((first | (refine And.intro ?_ ?_; (focus ((repeat' (first | exact trivial | refine And.intro rfl ?_)); done))) | (refine And.intro ?_ ?_; (focus (first | omega | (dsimp -iota only; omega) | (simp -iota; omega) | (simp -iota; done) | decide)))); conv => whnf)
                exact ⟨⟨s.drop nm, hd1, by omega⟩, Ent.mk' [some 0, some 1, some 2] (by kernel_rfl) (by repeat' first | exact trivial | refine And.intro (AVE.refl _) ?_ | refine And.intro (AVE.int (by first | rfl | omega | (dsimp only; omega) | (simp -iota; omega) | (simp -iota; done))) ?_ | refine And.intro (AVE.bool (by assumption)) ?_ | refine And.intro (AVE.len (by first | rfl | omega | (dsimp only; omega) | (simp -iota; omega) | (simp -iota; done))) ?_) (by repeat' (first | exact trivial | refine ⟨⟨_, rfl, ChE.refl _⟩, ?_⟩))⟩
          · (conv => whnf); repeat ((first | (refine And.intro ?_ ?_; (focus ((repeat' (first | exact trivial | refine And.intro rfl ?_)); done))) | (refine And.intro ?_ ?_; (focus (first | omega | (dsimp -iota only; omega) | (simp -iota; omega) | (simp -iota; done) | decide)))); conv => whnf)
            refine branchB_of (fun g3 => ?_) (fun g3 => ?_) <;> (first | replace g3 := not_t g3 | replace g3 := not_f g3 | skip) <;> (first | replace g3 := of_decide_eq_true g3 | replace g3 := of_decide_eq_false g3 | skip) <;> (first | replace g3 := Classical.not_not.1 g3 | skip) <;> (try dsimp only at g3)
            · (conv => whnf); repeat ((first | (refine And.intro ?_ ?_; (focus ((repeat' (first | exact trivial | refine And.intro rfl ?_)); done))) | (refine And.intro ?_ ?_; (focus (first | omega | (dsimp -iota only; omega) | (simp -iota; omega) | (simp -iota; done) | decide)))); conv => whnf)
              refine AFn.use [0] (copy_ok s) (by kernel_rfl) rfl (by repeat' first | exact trivial | refine ⟨rfl, ?_⟩) fun _ => ?_
              (conv => whnf); repeat ((first | (refine And.intro ?_ ?_; (focus ((repeat' (first | exact trivial | refine And.intro rfl ?_)); done))) | (refine And.intro ?_ ?_; (focus (first | omega | (dsimp -iota only; omega) | (simp -iota; omega) | (simp -iota; done) | decide)))); conv => whnf)
              refine AFn.use [0] (add_ok s hs [110,101,118,101,114,32,116,111,108,100] 5 (by omega)) (by kernel_rfl) rfl (by repeat' first | exact trivial | refine ⟨rfl, ?_⟩) fun _ => ?_
              (conv => whnf); repeat ((first | (refine And.intro ?_ ?_; (focus ((repeat' (first | exact trivial | refine And.intro rfl ?_)); done))) | (refine And.intro ?_ ?_; (focus (first | omega | (dsimp -iota only; omega) | (simp -iota; omega) | (simp -iota; done) | decide)))); conv => whnf)
              refine AFn.use [0] (drop_ok (s.add [110,101,118,101,114,32,116,111,108,100] 5) nm) (by kernel_rfl) rfl (by repeat' first | exact trivial | refine ⟨rfl, ?_⟩) fun _ => ?_
              (conv => whnf); repeat ((first | (refine And.intro ?_ ?_; (focus ((repeat' (first | exact trivial | refine And.intro rfl ?_)); done))) | (refine And.intro ?_ ?_; (focus (first | omega | (dsimp -iota only; omega) | (simp -iota; omega) | (simp -iota; done) | decide)))); conv => whnf)
              exact ⟨⟨s, hs, by omega⟩, Ent.mk' [some 3, some 1, some 2] (by kernel_rfl) (by repeat' first | exact trivial | refine And.intro (AVE.refl _) ?_ | refine And.intro (AVE.int (by first | rfl | omega | (dsimp only; omega) | (simp -iota; omega) | (simp -iota; done))) ?_ | refine And.intro (AVE.bool (by assumption)) ?_ | refine And.intro (AVE.len (by first | rfl | omega | (dsimp only; omega) | (simp -iota; omega) | (simp -iota; done))) ?_) (by repeat' (first | exact trivial | refine ⟨⟨_, rfl, ChE.refl _⟩, ?_⟩))⟩
            · (conv => whnf); repeat ((first | (refine And.intro ?_ ?_; (focus ((repeat' (first | exact trivial | refine And.intro rfl ?_)); done))) | (refine And.intro ?_ ?_; (focus (first | omega | (dsimp -iota only; omega) | (simp -iota; omega) | (simp -iota; done) | decide)))); conv => whnf)
              exact ⟨⟨s, hs, by omega⟩, Ent.mk' [some 0, some 1, some 2] (by kernel_rfl) (by repeat' first | exact trivial | refine And.intro (AVE.refl _) ?_ | refine And.intro (AVE.int (by first | rfl | omega | (dsimp only; omega) | (simp -iota; omega) | (simp -iota; done))) ?_ | refine And.intro (AVE.bool (by assumption)) ?_ | refine And.intro (AVE.len (by first | rfl | omega | (dsimp only; omega) | (simp -iota; omega) | (simp -iota; done))) ?_) (by repeat' (first | exact trivial | refine ⟨⟨_, rfl, ChE.refl _⟩, ?_⟩))⟩
    · obtain ⟨s2, hs2, hn2⟩ := y
      have hLl : s2.list.length ≤ 16 := by
        rw [SN.list, listS_length, SN.nqs, List.length_map]
        exact hs2.len
      have hQl := seqs_le hs2
      have c1 := list_ok s2 hs2
      have c2 := seqs_ok s2 hs2
      have c3 := rlist_ok s2 hs2
      have c4 := rseqs_ok s2 hs2
      have c7 := lives_ok s2 hs2 mk
      have c8 := rlives_ok s2 hs2 mk
      have c9 := get_ok s2 nm
      have c10 := rget_ok s2 hs2 nm
      have c11 := len_ok s2
      generalize s2.list = L at *
      generalize s2.seqs = Q at *
      generalize s2.livesN mk = vN at *
      generalize s2.livesQ mk = vQ at *
      generalize s2.livesB mk = vB at *
      generalize s2.findP nm = fP at *
      generalize s2.findE nm = fE at *
      have c5 := equal_ok L L (by omega) (by omega)
      have c6 := equalU_ok Q Q (by omega) (by omega)
      rw [decide_eq_true rfl] at c5 c6
      (conv => whnf); repeat ((first | (refine And.intro ?_ ?_; (focus ((repeat' (first | exact trivial | refine And.intro rfl ?_)); done))) | (refine And.intro ?_ ?_; (focus (first | omega | (dsimp -iota only; omega) | (simp -iota; omega) | (simp -iota; done) | decide)))); conv => whnf)
      refine AFn.use [0] (c9) (by kernel_rfl) rfl (by repeat' first | exact trivial | refine ⟨rfl, ?_⟩) fun _ => ?_
      (conv => whnf); repeat ((first | (refine And.intro ?_ ?_; (focus ((repeat' (first | exact trivial | refine And.intro rfl ?_)); done))) | (refine And.intro ?_ ?_; (focus (first | omega | (dsimp -iota only; omega) | (simp -iota; omega) | (simp -iota; done) | decide)))); conv => whnf)
      refine AFn.use [1] (c10) (by kernel_rfl) rfl (by repeat' first | exact trivial | refine ⟨rfl, ?_⟩) fun _ => ?_
      (conv => whnf); repeat ((first | (refine And.intro ?_ ?_; (focus ((repeat' (first | exact trivial | refine And.intro rfl ?_)); done))) | (refine And.intro ?_ ?_; (focus (first | omega | (dsimp -iota only; omega) | (simp -iota; omega) | (simp -iota; done) | decide)))); conv => whnf)
      refine AFn.use [0] (c7) (by kernel_rfl) rfl (by repeat' first | exact trivial | refine ⟨rfl, ?_⟩) fun _ => ?_
      (conv => whnf); repeat ((first | (refine And.intro ?_ ?_; (focus ((repeat' (first | exact trivial | refine And.intro rfl ?_)); done))) | (refine And.intro ?_ ?_; (focus (first | omega | (dsimp -iota only; omega) | (simp -iota; omega) | (simp -iota; done) | decide)))); conv => whnf)
      refine AFn.use [1] (c8) (by kernel_rfl) rfl (by repeat' first | exact trivial | refine ⟨rfl, ?_⟩) fun _ => ?_
      (conv => whnf); repeat ((first | (refine And.intro ?_ ?_; (focus ((repeat' (first | exact trivial | refine And.intro rfl ?_)); done))) | (refine And.intro ?_ ?_; (focus (first | omega | (dsimp -iota only; omega) | (simp -iota; omega) | (simp -iota; done) | decide)))); conv => whnf)
      refine branchB_of (fun h1 => ?_) (fun h1 => ?_) <;> (first | replace h1 := not_t h1 | replace h1 := not_f h1 | skip) <;> (first | replace h1 := of_decide_eq_true h1 | replace h1 := of_decide_eq_false h1 | skip) <;> (first | replace h1 := Classical.not_not.1 h1 | skip) <;> (try dsimp only at h1)
      · exact absurd rfl h1
      (conv => whnf); repeat ((first | (refine And.intro ?_ ?_; (focus ((repeat' (first | exact trivial | refine And.intro rfl ?_)); done))) | (refine And.intro ?_ ?_; (focus (first | omega | (dsimp -iota only; omega) | (simp -iota; omega) | (simp -iota; done) | decide)))); conv => whnf)
      refine branchB_of (fun h2 => ?_) (fun h2 => ?_) <;> (first | replace h2 := not_t h2 | replace h2 := not_f h2 | skip) <;> (first | replace h2 := of_decide_eq_true h2 | replace h2 := of_decide_eq_false h2 | skip) <;> (first | replace h2 := Classical.not_not.1 h2 | skip) <;> (try dsimp only at h2)
      · exact absurd rfl h2
      (conv => whnf); repeat ((first | (refine And.intro ?_ ?_; (focus ((repeat' (first | exact trivial | refine And.intro rfl ?_)); done))) | (refine And.intro ?_ ?_; (focus (first | omega | (dsimp -iota only; omega) | (simp -iota; omega) | (simp -iota; done) | decide)))); conv => whnf)
      refine And.intro ?_ ?_ <;> ((conv => whnf); repeat ((first | (refine And.intro ?_ ?_; (focus ((repeat' (first | exact trivial | refine And.intro rfl ?_)); done))) | (refine And.intro ?_ ?_; (focus (first | omega | (dsimp -iota only; omega) | (simp -iota; omega) | (simp -iota; done) | decide)))); conv => whnf))
      all_goals
        refine branchB_of (fun h3 => ?_) (fun h3 => ?_) <;> (first | replace h3 := not_t h3 | replace h3 := not_f h3 | skip) <;> (first | replace h3 := of_decide_eq_true h3 | replace h3 := of_decide_eq_false h3 | skip) <;> (first | replace h3 := Classical.not_not.1 h3 | skip) <;> (try dsimp only at h3)
        · exact absurd rfl h3
        (conv => whnf); repeat ((first | (refine And.intro ?_ ?_; (focus ((repeat' (first | exact trivial | refine And.intro rfl ?_)); done))) | (refine And.intro ?_ ?_; (focus (first | omega | (dsimp -iota only; omega) | (simp -iota; omega) | (simp -iota; done) | decide)))); conv => whnf)
        refine branchB_of (fun h4 => ?_) (fun h4 => ?_) <;> (first | replace h4 := not_t h4 | replace h4 := not_f h4 | skip) <;> (first | replace h4 := of_decide_eq_true h4 | replace h4 := of_decide_eq_false h4 | skip) <;> (first | replace h4 := Classical.not_not.1 h4 | skip) <;> (try dsimp only at h4)
        · simp at h4
        (conv => whnf); repeat ((first | (refine And.intro ?_ ?_; (focus ((repeat' (first | exact trivial | refine And.intro rfl ?_)); done))) | (refine And.intro ?_ ?_; (focus (first | omega | (dsimp -iota only; omega) | (simp -iota; omega) | (simp -iota; done) | decide)))); conv => whnf)
        refine branchB_of (fun h5 => ?_) (fun h5 => ?_) <;> (first | replace h5 := not_t h5 | replace h5 := not_f h5 | skip) <;> (first | replace h5 := of_decide_eq_true h5 | replace h5 := of_decide_eq_false h5 | skip) <;> (first | replace h5 := Classical.not_not.1 h5 | skip) <;> (try dsimp only at h5)
        · simp at h5
        (conv => whnf); repeat ((first | (refine And.intro ?_ ?_; (focus ((repeat' (first | exact trivial | refine And.intro rfl ?_)); done))) | (refine And.intro ?_ ?_; (focus (first | omega | (dsimp -iota only; omega) | (simp -iota; omega) | (simp -iota; done) | decide)))); conv => whnf)
        refine AFn.use [0] (c1) (by kernel_rfl) rfl (by repeat' first | exact trivial | refine ⟨rfl, ?_⟩) fun _ => ?_
        (conv => whnf); repeat ((first | (refine And.intro ?_ ?_; (focus ((repeat' (first | exact trivial | refine And.intro rfl ?_)); done))) | (refine And.intro ?_ ?_; (focus (first | omega | (dsimp -iota only; omega) | (simp -iota; omega) | (simp -iota; done) | decide)))); conv => whnf)
        refine AFn.use [1] (c3) (by kernel_rfl) rfl (by repeat' first | exact trivial | refine ⟨rfl, ?_⟩) fun _ => ?_
        (conv => whnf); repeat ((first | (refine And.intro ?_ ?_; (focus ((repeat' (first | exact trivial | refine And.intro rfl ?_)); done))) | (refine And.intro ?_ ?_; (focus (first | omega | (dsimp -iota only; omega) | (simp -iota; omega) | (simp -iota; done) | decide)))); conv => whnf)
        refine AFn.use [] (c5) (by kernel_rfl) rfl (by repeat' first | exact trivial | refine ⟨rfl, ?_⟩) fun _ => ?_
        (conv => whnf); repeat ((first | (refine And.intro ?_ ?_; (focus ((repeat' (first | exact trivial | refine And.intro rfl ?_)); done))) | (refine And.intro ?_ ?_; (focus (first | omega | (dsimp -iota only; omega) | (simp -iota; omega) | (simp -iota; done) | decide)))); conv => whnf)
        refine AFn.use [0] (c2) (by kernel_rfl) rfl (by repeat' first | exact trivial | refine ⟨rfl, ?_⟩) fun _ => ?_
        (conv => whnf); repeat ((first | (refine And.intro ?_ ?_; (focus ((repeat' (first | exact trivial | refine And.intro rfl ?_)); done))) | (refine And.intro ?_ ?_; (focus (first | omega | (dsimp -iota only; omega) | (simp -iota; omega) | (simp -iota; done) | decide)))); conv => whnf)
        refine AFn.use [1] (c4) (by kernel_rfl) rfl (by repeat' first | exact trivial | refine ⟨rfl, ?_⟩) fun _ => ?_
        (conv => whnf); repeat ((first | (refine And.intro ?_ ?_; (focus ((repeat' (first | exact trivial | refine And.intro rfl ?_)); done))) | (refine And.intro ?_ ?_; (focus (first | omega | (dsimp -iota only; omega) | (simp -iota; omega) | (simp -iota; done) | decide)))); conv => whnf)
        refine ACall.hent (HEnt.open 1 s2.R rfl rfl) ?_
        refine AFn.use [] (c6) (by kernel_rfl) rfl (by repeat' first | exact trivial | refine ⟨rfl, ?_⟩) fun _ => ?_
        refine ⟨_, HEnt.refl _, ?_⟩
        (conv => whnf); repeat ((first | (refine And.intro ?_ ?_; (focus ((repeat' (first | exact trivial | refine And.intro rfl ?_)); done))) | (refine And.intro ?_ ?_; (focus (first | omega | (dsimp -iota only; omega) | (simp -iota; omega) | (simp -iota; done) | decide)))); conv => whnf)
        refine And.intro ?_ ?_ <;> ((conv => whnf); repeat ((first | (refine And.intro ?_ ?_; (focus ((repeat' (first | exact trivial | refine And.intro rfl ?_)); done))) | (refine And.intro ?_ ?_; (focus (first | omega | (dsimp -iota only; omega) | (simp -iota; omega) | (simp -iota; done) | decide)))); conv => whnf))
        all_goals
          refine AFn.use [0] (c11) (by kernel_rfl) rfl (by repeat' first | exact trivial | refine ⟨rfl, ?_⟩) fun _ => ?_
          (conv => whnf); repeat ((first | (refine And.intro ?_ ?_; (focus ((repeat' (first | exact trivial | refine And.intro rfl ?_)); done))) | (refine And.intro ?_ ?_; (focus (first | omega | (dsimp -iota only; omega) | (simp -iota; omega) | (simp -iota; done) | decide)))); conv => whnf)
          refine branchB_of (fun h6 => ?_) (fun h6 => ?_) <;> (first | replace h6 := not_t h6 | replace h6 := not_f h6 | skip) <;> (first | replace h6 := of_decide_eq_true h6 | replace h6 := of_decide_eq_false h6 | skip) <;> (first | replace h6 := Classical.not_not.1 h6 | skip) <;> (try dsimp only at h6)
          · exact absurd rfl h6
          (conv => whnf); repeat ((first | (refine And.intro ?_ ?_; (focus ((repeat' (first | exact trivial | refine And.intro rfl ?_)); done))) | (refine And.intro ?_ ?_; (focus (first | omega | (dsimp -iota only; omega) | (simp -iota; omega) | (simp -iota; done) | decide)))); conv => whnf)
          refine ⟨⟨i + 1, s2, by omega, by omega, hs2, by omega⟩, Ent.trans (HEnt.ent (HEnt.close [1, 5] 1 s2.R ?_ ?_)) (Ent.mk' [some 0, some 1] ?_ ?_ ?_), ?_⟩
          · kernel_rfl
          · repeat' first | exact trivial | refine ⟨rfl, ?_⟩
          · kernel_rfl
          · exact ⟨AVE.refl _, AVE.refl _, AVE.refl _, AVE.refl _, AVE.refl _, AVE.int (by simp), trivial⟩
          · (repeat' first | exact trivial | refine ⟨⟨_, rfl, ChE.refl _⟩, ?_⟩)
          · show 80 - (i + 1) < 80 - i
            omega
end Go.Proofs.Ytoofmkkcaoojiaa.Ax

namespace Go.Proofs.Ytoofmkkcaoojiaa.Ax
open Go.ChangeShapes Go.WideShapes Go.RowKit
theorem sh_acts {ι : Imm} {x : IV} {v : Value} (h : (AT.sl [.int .i64, .str, .int .u64]).Sh x) (hr : IV.R ι x v) : ∃ l : List Act, (∀ c ∈ l, c.q ≤ 18446744073709551615) ∧ IV.R ι (.sl 3 l.length fun i => actI (l.getD i default)) v := by
  simp only [AT.Sh, AT.Shs] at h
  obtain ⟨n, f, rfl, hn, hf⟩ := h
  obtain ⟨l, h1, h2, h3⟩ := rows_of (f := f) (n := n) actI (fun c => c.q ≤ 18446744073709551615) (fun i hi => by
    obtain ⟨y, ys, e, ⟨z, rfl, hz⟩, _, _, rfl, ⟨s, rfl, _⟩, _, _, rfl, ⟨u, rfl, hu⟩, rfl⟩ := hf i hi
    have hb := bounds_u64 hu
    exact ⟨⟨z, s, u.toNat⟩, by rw [e]; show _ = [IV.v (.int .i64 z), .str s, .v (.int .u64 (u.toNat : Int))]; rw [Int.toNat_of_nonneg (by omega)], by show u.toNat ≤ _; omega⟩)
  exact ⟨l, h2, by rw [h1]; exact R_rows hr h3⟩
theorem sh_u8 {ι : Imm} {x : IV} {v : Value} (h : (AT.int .u8).Sh x) (hr : IV.R ι x v) : ∃ k : Nat, k ≤ 255 ∧ IV.R ι (.v (.int .u8 (k : Nat))) v := by
  simp only [AT.Sh] at h
  obtain ⟨z, rfl, hz⟩ := h
  have hb := bounds_u8 hz
  exact ⟨z.toNat, by omega, by rw [Int.toNat_of_nonneg hb.1]; exact hr⟩
end Go.Proofs.Ytoofmkkcaoojiaa.Ax
