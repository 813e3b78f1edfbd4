/-
  Chapter 26: ModelViews, the walk.
-/
import Derived.Test.YtaoambbfjdijjaaMv
namespace Go.Proofs.Ytaoambbfjdijjaa.Ax
open Go.RowKit
set_option maxRecDepth 100000
/-- The law's own: where a block's ways meet. -/
noncomputable def cfgV (N b : Nat) : Cfg := { P := Go.Proofs.Try.prog, T := tt, wr := false, N := N, pure := [14, 15, 56, 59, 62, 64, 86, 102], base := b, frz := fun op => match op with | .box .. => true | .convert .. => true | _ => false, cuts := [2] }
theorem cfgVOk (N b : Nat) : (cfgV N b).Ok := ⟨ttOk, ttBytes, by kernel_rfl⟩
def vrow (ws : List W) (s : Nat) : List IV := [.sl 2 (viewL (ws.take s)).length (viewF (viewL (ws.take s)))]
theorem few_x (c : CL) : AFn Go.Proofs.Try.prog 13 [.agg (callC c)] ⟨0, []⟩ (fun o : { d : CL // d = c.few } => .agg (callC o.1)) (fun _ => ⟨0, []⟩) := (few_ok c).say fun _ => ⟨⟨c.few, rfl⟩, AVE.refl _, rfl⟩
/-- A model, known by another name. -/
theorem does_x (m : MS) (hm : m.Fits) (c : CL) (hn : c.n ≤ 18446744073709551615) : AFn Go.Proofs.Try.prog 16 [.ptr 0 0, .agg (callC c)] (one m.H) (fun o : { d : MS // d = m.does c } => .int .i64 (m.doesE c)) (fun o => one o.1.H) := (does_ok m hm c hn).say fun _ => ⟨⟨m.does c, rfl⟩, AVE.refl _, rfl⟩
theorem view_x (m : MS) (hm : m.Fits) (s : Nat) (hs : s ≤ 18446744073709551615) : AFn Go.Proofs.Try.prog 17 [.ptr 0 0, AV.int .u64 s] (one m.H) (fun o : { L : BL // L = viewL (m.ws.take s) } => .iv (.sl 2 o.1.length (viewF o.1))) (fun _ => one m.H) := (view_ok m hm s hs).say fun _ => ⟨⟨_, rfl⟩, AVE.refl _, rfl⟩
theorem viewF_push (A : BL) (p : List UInt8 × List UInt8) {j : Nat} (h : j < A.length) : viewF A j = viewF (A ++ [p]) j := by
  unfold viewF
  rw [List.getD_eq_getElem?_getD, List.getD_eq_getElem?_getD, List.getElem?_append_left h]
theorem viewF_last (A : BL) (p : List UInt8 × List UInt8) : viewF (A ++ [p]) A.length = [.bs p.1, .bs p.2] := by
  simp [viewF]
theorem ChE.pushV {e : Nat} {A B : BL} {p : List UInt8 × List UInt8} {g : Nat → List IV} (hB : B = A ++ [p]) (hg : g 0 = [.bs p.1, .bs p.2]) : ChE (.rowc e 2 (A.length + 1) fun j => if j < A.length then viewF A j else g (j - A.length)) (.rowc e 2 B.length (viewF B)) := by
  subst hB
  refine ChE.row (by simp) fun j hj => ?_
  by_cases h : j < A.length
  · simp only [if_pos h]; exact viewF_push A p h
  · have : j = A.length := by simp at hj; omega
    subst this
    simp only [if_neg h, Nat.sub_self]
    rw [hg, viewF_last]
theorem vrow_take {ws ws' : List W} {n j : Nat} (h : ws'.take n = ws.take n) (hj : j ≤ n) : vrow ws j = vrow ws' j := by
  have : ws.take j = ws'.take j := by
    have h1 := congrArg (List.take j) h
    rw [List.take_take, List.take_take, Nat.min_eq_left hj] at h1
    exact h1.symm
  unfold vrow
  rw [this]
theorem list_y (m : MS) (hm : m.Fits) (S : List (List UInt8 × Nat)) (hS : S = m.snaps) : AFn Go.Proofs.Try.prog 19 [.ptr 0 0] (one m.H) (fun _ : Unit => .iv (.sl 2 S.length (snapF S))) (fun _ => one m.H) := by subst hS; exact list_ok m hm
def nev : List UInt8 := [110, 101, 118, 101, 114]
theorem gat_of {m : MS} {s k v : List UInt8} {q : Nat} (h1 : m.snapV s = q) (h2 : m.snapE s = 0) (h : m.at q k = some v) : m.gat s k = some v := by
  have hk : okK k = true := by
    cases hk : okK k with
    | true => rfl
    | false => simp [MS.at, hk] at h
  simp [MS.gat, hk, h2, h1, h]
theorem gatE_of {m : MS} {s k v : List UInt8} {q : Nat} (h1 : m.snapV s = q) (h2 : m.snapE s = 0) (h : m.at q k = some v) : m.gatE s k = 0 := by
  have hk : okK k = true := by
    cases hk : okK k with
    | true => rfl
    | false => simp [MS.at, hk] at h
  have : m.atE q k = 0 := atE_zero.2 (by rw [h]; rfl)
  simp [MS.gatE, hk, h2, h1, this]
theorem gat_nev (m : MS) (_ : m.Fits) {s : List UInt8} {q : Nat} (h1 : m.snapV s = q) (h2 : m.snapE s = 0) : (m.gat s nev = none → m.gatE s nev = 6) ∧ ∀ v, m.gat s nev = some v → m.gatE s nev = 0 ∧ m.atE q nev = 0 ∧ m.atV q nev = v := by
  have hk : okK nev = true := rfl
  have e1 : m.gat s nev = m.at q nev := by simp [MS.gat, hk, h2, h1]
  have e2 : m.gatE s nev = m.atE q nev := by simp [MS.gatE, hk, h2, h1]
  rw [e1, e2]
  refine ⟨fun h => by simp [MS.atE, hk, h], fun v h => ?_⟩
  have : m.atE q nev = 0 := atE_zero.2 (by rw [h]; rfl)
  exact ⟨this, this, by simp [MS.atV, h]⟩
structure VX (l : List CL) where
  i : Nat
  m : MS
  hi : i ≤ 40
  hl : i ≤ l.length
  hm : m.Fits
  hn : m.ws.length ≤ i
  hk : ∀ p ∈ m.sn, okN p.1 = true
set_option maxHeartbeats 400000 in
theorem views_law (l : List CL) (hl : ∀ c ∈ l, c.ok) : Law Go.Proofs.Try.prog 3 [.iv (.sl 5 l.length fun i => callI (l.getD i default))] := by
  refine ACall.fin ?_
  refine ACall.walkF (C := cfgV 309 0) (cfgVOk _ _) sch3 (fn := Go.Proofs.Try.f3) (by kernel_rfl) (by kernel_rfl) rfl (by kernel_rfl) (by kernel_rfl) rfl rfl fun hlen hheap => ?_
  obtain ⟨hl1, _⟩ := hlen
  simp only [lenF] at hl1
  (conv => whnf); repeat ((first | (refine And.intro ?_ ?_; (focus ((repeat' (first | exact trivial | refine And.intro rfl ?_)); done))) | (refine And.intro ?_ ?_; (focus (first | omega | (dsimp -iota only; omega) | (simp -iota; omega) | (simp -iota; done) | decide)))); conv => whnf)
  refine AFn.use [] (new_ok) (by kernel_rfl) rfl (by repeat' first | exact trivial | refine ⟨rfl, ?_⟩) fun _ => ?_
  (conv => whnf); repeat ((first | (refine And.intro ?_ ?_; (focus ((repeat' (first | exact trivial | refine And.intro rfl ?_)); done))) | (refine And.intro ?_ ?_; (focus (first | omega | (dsimp -iota only; omega) | (simp -iota; omega) | (simp -iota; done) | decide)))); conv => whnf)
  refine AWP.merge (Y := Unit) (fun u => []) (fun u => ⟨0, []⟩) 0 (fun u => ?_) ?_
  · (conv => whnf); repeat ((first | (refine And.intro ?_ ?_; (focus ((repeat' (first | exact trivial | refine And.intro rfl ?_)); done))) | (refine And.intro ?_ ?_; (focus (first | omega | (dsimp -iota only; omega) | (simp -iota; omega) | (simp -iota; done) | decide)))); conv => whnf)
    refine AFn.use [] (knows_ok) (by kernel_rfl) rfl (by repeat' first | exact trivial | refine ⟨rfl, ?_⟩) fun _ => ?_
    (conv => whnf); repeat ((first | (refine And.intro ?_ ?_; (focus ((repeat' (first | exact trivial | refine And.intro rfl ?_)); done))) | (refine And.intro ?_ ?_; (focus (first | omega | (dsimp -iota only; omega) | (simp -iota; omega) | (simp -iota; done) | decide)))); conv => whnf)
    exact ⟨_, _, Ent.mk' (e' := [(0, AV.bool true)]) (H' := ⟨0, []⟩) [] (by kernel_rfl) ⟨AVE.of_eq rfl, trivial⟩ trivial, (), rfl, rfl⟩
  refine AWP.loop (X := VX l) (fun x => [(0, .iv (.sl 5 l.length fun i => callI (l.getD i default))), (3, .ptr 0 0), (4, .row 1 1 0 (x.m.ws.length + 1)), (5, AV.int .i64 x.i)]) (fun x => ⟨2, [(0, .sem (Nest x.m.H)), (1, .rowc 34 1 (x.m.ws.length + 1) (vrow x.m.ws))]⟩) (fun x => 40 - x.i) (⟨0, fresh0, by omega, by omega, fresh_fits, by decide, by decide⟩) ?_ fun x => AWP.go (S := sch3) (cfgVOk _ _) (.of_eq (by kernel_rfl)) ?_
  · refine Ent.mk' [some 0, some 1] (by kernel_rfl) ?_ ?_
    · exact ⟨AVE.refl _, AVE.refl _, AVE.refl _, AVE.refl _, trivial⟩
    · refine ⟨⟨_, rfl, ChE.refl _⟩, ⟨_, rfl, ChE.rowE (Nat.le_refl _) fun j hj => ?_⟩, trivial⟩
      have hj0 : j = 0 := by have : j < 0 + 1 := hj; omega
      subst hj0
      have e : viewL (List.take 0 fresh0.ws) = [] := by simp [viewL, vfold, sortS, fresh0]
      unfold vrow
      rw [e]
      exact ⟨IVE.nilSl _ _, rfl⟩
  · obtain ⟨i, m, hi, hil, hm, hn, hk⟩ := x
    have hix : ((i : Nat) : Int).toNat = i := by simp
    (conv => whnf); repeat ((first | (refine And.intro ?_ ?_; (focus ((repeat' (first | exact trivial | refine And.intro rfl ?_)); done))) | (refine And.intro ?_ ?_; (focus (first | omega | (dsimp -iota only; omega) | (simp -iota; omega) | (simp -iota; done) | decide)))); conv => whnf)
    refine branchB_of (fun h0 => ?_) (fun h0 => ?_) <;> (first | replace h0 := not_t h0 | replace h0 := not_f h0 | skip) <;> (first | replace h0 := of_decide_eq_true h0 | replace h0 := of_decide_eq_false h0 | skip) <;> (first | replace h0 := Classical.not_not.1 h0 | skip) <;> (try dsimp only at h0)
    rotate_left
    · (conv => whnf); repeat ((first | (refine And.intro ?_ ?_; (focus ((repeat' (first | exact trivial | refine And.intro rfl ?_)); done))) | (refine And.intro ?_ ?_; (focus (first | omega | (dsimp -iota only; omega) | (simp -iota; omega) | (simp -iota; done) | decide)))); conv => whnf)
      exact ⟨(), Ent.mk' [] (by kernel_rfl) (by repeat' first | exact trivial | refine And.intro (AVE.refl _) ?_ | refine And.intro (AVE.int (by first | rfl | omega | (dsimp only; omega) | (simp -iota; omega) | (simp -iota; done))) ?_ | refine And.intro (AVE.bool (by assumption)) ?_ | refine And.intro (AVE.len (by first | rfl | omega | (dsimp only; omega) | (simp -iota; omega) | (simp -iota; done))) ?_) (by repeat' (first | exact trivial | refine ⟨⟨_, rfl, ChE.refl _⟩, ?_⟩))⟩
    (conv => whnf); repeat ((first | (refine And.intro ?_ ?_; (focus ((repeat' (first | exact trivial | refine And.intro rfl ?_)); done))) | (refine And.intro ?_ ?_; (focus (first | omega | (dsimp -iota only; omega) | (simp -iota; omega) | (simp -iota; done) | decide)))); conv => whnf)
    refine branchB_of (fun h => ?_) (fun h => ?_) <;> (first | replace h := not_t h | replace h := not_f h | skip) <;> (first | replace h := of_decide_eq_true h | replace h := of_decide_eq_false h | skip) <;> (first | replace h := Classical.not_not.1 h | skip) <;> (try dsimp only at h)
    rotate_left
    · (conv => whnf); repeat ((first | (refine And.intro ?_ ?_; (focus ((repeat' (first | exact trivial | refine And.intro rfl ?_)); done))) | (refine And.intro ?_ ?_; (focus (first | omega | (dsimp -iota only; omega) | (simp -iota; omega) | (simp -iota; done) | decide)))); conv => whnf)
      exact ⟨(), Ent.mk' [] (by kernel_rfl) (by repeat' first | exact trivial | refine And.intro (AVE.refl _) ?_ | refine And.intro (AVE.int (by first | rfl | omega | (dsimp only; omega) | (simp -iota; omega) | (simp -iota; done))) ?_ | refine And.intro (AVE.bool (by assumption)) ?_ | refine And.intro (AVE.len (by first | rfl | omega | (dsimp only; omega) | (simp -iota; omega) | (simp -iota; done))) ?_) (by repeat' (first | exact trivial | refine ⟨⟨_, rfl, ChE.refl _⟩, ?_⟩))⟩
    (conv => whnf); repeat ((first | (refine And.intro ?_ ?_; (focus ((repeat' (first | exact trivial | refine And.intro rfl ?_)); done))) | (refine And.intro ?_ ?_; (focus (first | omega | (dsimp -iota only; omega) | (simp -iota; omega) | (simp -iota; done) | decide)))); conv => whnf)
    have hlt : i < l.length := by omega
    have hcok : (l.getD i default).ok := by simp only [List.getD, List.getElem?_eq_getElem hlt, Option.getD_some]; exact hl _ (List.getElem_mem hlt)
    refine AFn.use [] (few_x (l.getD i default)) (by kernel_rfl) rfl (by repeat' first | exact trivial | refine ⟨rfl, ?_⟩) fun o => ?_
    obtain ⟨c, hc⟩ := o
    have hxok : c.n ≤ 18446744073709551615 := by rw [hc]; exact hcok
    (conv => whnf); repeat ((first | (refine And.intro ?_ ?_; (focus ((repeat' (first | exact trivial | refine And.intro rfl ?_)); done))) | (refine And.intro ?_ ?_; (focus (first | omega | (dsimp -iota only; omega) | (simp -iota; omega) | (simp -iota; done) | decide)))); conv => whnf)
    refine AFn.use [0] (seq_ok m hm.n) (by kernel_rfl) rfl (by repeat' first | exact trivial | refine ⟨rfl, ?_⟩) fun _ => ?_
    (conv => whnf); repeat ((first | (refine And.intro ?_ ?_; (focus ((repeat' (first | exact trivial | refine And.intro rfl ?_)); done))) | (refine And.intro ?_ ?_; (focus (first | omega | (dsimp -iota only; omega) | (simp -iota; omega) | (simp -iota; done) | decide)))); conv => whnf)
    refine AFn.use [0] (mark_ok m) (by kernel_rfl) rfl (by repeat' first | exact trivial | refine ⟨rfl, ?_⟩) fun _ => ?_
    (conv => whnf); repeat ((first | (refine And.intro ?_ ?_; (focus ((repeat' (first | exact trivial | refine And.intro rfl ?_)); done))) | (refine And.intro ?_ ?_; (focus (first | omega | (dsimp -iota only; omega) | (simp -iota; omega) | (simp -iota; done) | decide)))); conv => whnf)
    refine AFn.use [0] (does_x m hm c hxok) (by kernel_rfl) rfl (by repeat' first | exact trivial | refine ⟨rfl, ?_⟩) fun o => ?_
    obtain ⟨m', hd⟩ := o
    (conv => whnf); repeat ((first | (refine And.intro ?_ ?_; (focus ((repeat' (first | exact trivial | refine And.intro rfl ?_)); done))) | (refine And.intro ?_ ?_; (focus (first | omega | (dsimp -iota only; omega) | (simp -iota; omega) | (simp -iota; done) | decide)))); conv => whnf)
    have hm' : m'.Fits := hd ▸ does_fits hm (by omega) c
    have hk' : ∀ p ∈ m'.sn, okN p.1 = true := hd ▸ does_okN hk c
    have hmark : m.mark ≤ m'.mark := hd ▸ does_mark hm c
    have hlen' : m'.ws.length ≤ m.ws.length + 1 := hd ▸ does_len m c
    refine AFn.use [0] (seq_ok m' hm'.n) (by kernel_rfl) rfl (by repeat' first | exact trivial | refine ⟨rfl, ?_⟩) fun _ => ?_
    (conv => whnf); repeat ((first | (refine And.intro ?_ ?_; (focus ((repeat' (first | exact trivial | refine And.intro rfl ?_)); done))) | (refine And.intro ?_ ?_; (focus (first | omega | (dsimp -iota only; omega) | (simp -iota; omega) | (simp -iota; done) | decide)))); conv => whnf)
    refine AFn.use [0] (view_x m' hm' m'.ws.length (by have := hm'.n; omega)) (by kernel_rfl) rfl (by repeat' first | exact trivial | refine ⟨rfl, ?_⟩) fun o => ?_
    obtain ⟨Ln, hLn⟩ := o
    (conv => whnf); repeat ((first | (refine And.intro ?_ ?_; (focus ((repeat' (first | exact trivial | refine And.intro rfl ?_)); done))) | (refine And.intro ?_ ?_; (focus (first | omega | (dsimp -iota only; omega) | (simp -iota; omega) | (simp -iota; done) | decide)))); conv => whnf)
    refine AWP.meet (Y := Unit) (fun u => [(0, .iv (.sl 5 l.length fun i => callI (l.getD i default))), (3, .ptr 0 0), (4, .row 1 1 0 (m'.ws.length + 1)), (5, AV.int .i64 i), (8, AV.int .u64 m.mark)]) (fun u => ⟨2, [(0, .sem (Nest m'.H)), (1, .rowc 34 1 (m'.ws.length + 1) (vrow m'.ws))]⟩) (fun u => ?_) (AWP.block' (AWP.go (S := sch3) (cfgVOk _ _) (.of_eq (by kernel_rfl)) ?_))
    rotate_left
    · have hn0 := hm.n
      have hn1 := hm'.n
      (conv => whnf); repeat ((first | (refine And.intro ?_ ?_; (focus ((repeat' (first | exact trivial | refine And.intro rfl ?_)); done))) | (refine And.intro ?_ ?_; (focus (first | omega | (dsimp -iota only; omega) | (simp -iota; omega) | (simp -iota; done) | decide)))); conv => whnf)
      refine AFn.use [0] (seq_ok m' hm'.n) (by kernel_rfl) rfl (by repeat' first | exact trivial | refine ⟨rfl, ?_⟩) fun _ => ?_
      (conv => whnf); repeat ((first | (refine And.intro ?_ ?_; (focus ((repeat' (first | exact trivial | refine And.intro rfl ?_)); done))) | (refine And.intro ?_ ?_; (focus (first | omega | (dsimp -iota only; omega) | (simp -iota; omega) | (simp -iota; done) | decide)))); conv => whnf)
      refine branchB_of (fun gA => ?_) (fun gA => ?_) <;> (first | replace gA := not_t gA | replace gA := not_f gA | skip) <;> (first | replace gA := of_decide_eq_true gA | replace gA := of_decide_eq_false gA | skip) <;> (first | replace gA := Classical.not_not.1 gA | skip) <;> (try dsimp only at gA)
      · (conv => whnf); repeat ((first | (refine And.intro ?_ ?_; (focus ((repeat' (first | exact trivial | refine And.intro rfl ?_)); done))) | (refine And.intro ?_ ?_; (focus (first | omega | (dsimp -iota only; omega) | (simp -iota; omega) | (simp -iota; done) | decide)))); conv => whnf)
        have hmore := does_more (m := m) (c := c) (by rw [← hd]; omega)
        obtain ⟨w, hw, hE, hw0, hw3, hwk, hwv, hwg⟩ := hmore
        rw [← hd] at hw
        have hlw : m'.ws.length = m.ws.length + 1 := by rw [hw]; simp
        refine AFn.use [0] (seq_ok m' hm'.n) (by kernel_rfl) rfl (by repeat' first | exact trivial | refine ⟨rfl, ?_⟩) fun _ => ?_
        (conv => whnf); repeat ((first | (refine And.intro ?_ ?_; (focus ((repeat' (first | exact trivial | refine And.intro rfl ?_)); done))) | (refine And.intro ?_ ?_; (focus (first | omega | (dsimp -iota only; omega) | (simp -iota; omega) | (simp -iota; done) | decide)))); conv => whnf)
        refine branchB_of (fun h => ?_) (fun h => ?_) <;> (first | replace h := not_t h | replace h := not_f h | skip) <;> (first | replace h := of_decide_eq_true h | replace h := of_decide_eq_false h | skip) <;> (first | replace h := Classical.not_not.1 h | skip) <;> (try dsimp only at h) <;> first | (exfalso; first | omega | contradiction | exact h rfl) | skip
        (conv => whnf); repeat ((first | (refine And.intro ?_ ?_; (focus ((repeat' (first | exact trivial | refine And.intro rfl ?_)); done))) | (refine And.intro ?_ ?_; (focus (first | omega | (dsimp -iota only; omega) | (simp -iota; omega) | (simp -iota; done) | decide)))); conv => whnf)
        refine branchB_of (fun h => ?_) (fun h => ?_) <;> (first | replace h := not_t h | replace h := not_f h | skip) <;> (first | replace h := of_decide_eq_true h | replace h := of_decide_eq_false h | skip) <;> (first | replace h := Classical.not_not.1 h | skip) <;> (try dsimp only at h) <;> first | (exfalso; first | omega | contradiction | exact h rfl) | skip
        (conv => whnf); repeat ((first | (refine And.intro ?_ ?_; (focus ((repeat' (first | exact trivial | refine And.intro rfl ?_)); done))) | (refine And.intro ?_ ?_; (focus (first | omega | (dsimp -iota only; omega) | (simp -iota; omega) | (simp -iota; done) | decide)))); conv => whnf)
        refine branchB_of (fun h => ?_) (fun h => ?_) <;> (first | replace h := not_t h | replace h := not_f h | skip) <;> (first | replace h := of_decide_eq_true h | replace h := of_decide_eq_false h | skip) <;> (first | replace h := Classical.not_not.1 h | skip) <;> (try dsimp only at h) <;> first | (exfalso; first | omega | contradiction | exact h rfl) | skip
        (conv => whnf); repeat ((first | (refine And.intro ?_ ?_; (focus ((repeat' (first | exact trivial | refine And.intro rfl ?_)); done))) | (refine And.intro ?_ ?_; (focus (first | omega | (dsimp -iota only; omega) | (simp -iota; omega) | (simp -iota; done) | decide)))); conv => whnf)
        refine branchB_of (fun h => ?_) (fun h => ?_) <;> (first | replace h := not_t h | replace h := not_f h | skip) <;> (first | replace h := of_decide_eq_true h | replace h := of_decide_eq_false h | skip) <;> (first | replace h := Classical.not_not.1 h | skip) <;> (try dsimp only at h) <;> first | (exfalso; first | omega | contradiction | exact h rfl) | skip
        (conv => whnf); repeat ((first | (refine And.intro ?_ ?_; (focus ((repeat' (first | exact trivial | refine And.intro rfl ?_)); done))) | (refine And.intro ?_ ?_; (focus (first | omega | (dsimp -iota only; omega) | (simp -iota; omega) | (simp -iota; done) | decide)))); conv => whnf)
        have hLl : (viewL (m.ws.take m.ws.length)).length ≤ 1000 := viewL_len m hm _
        have hLl' : Ln.length ≤ 1000 := hLn ▸ viewL_len m' hm' _
        obtain ⟨Ll, hLl0⟩ : ∃ Ll, Ll = viewL (m.ws.take m.ws.length) := ⟨_, rfl⟩
        rw [← hLl0] at hLl
        have hLn2 : Ln = viewL (m.ws ++ [w]) := by rw [hLn, List.take_length, hw]
        have hLl2 : Ll = viewL m.ws := by rw [hLl0, List.take_length]
        obtain ⟨An, hAn⟩ : ∃ An, An = but c.k Ln := ⟨_, rfl⟩
        obtain ⟨Bn, hBn⟩ : ∃ Bn, Bn = but c.k Ll := ⟨_, rfl⟩
        have hAB : An = Bn := by rw [hAn, hBn, hLn2, hLl2, ← hwk]; exact view_other _ _
        have hth : there c.k c.v (decide (c.what < 3)) Ln = decide (c.what < 3) := by rw [hLn2, ← hwk]; exact there_view _ _ _ _ hwv hwg
        have hbl : Ln.length ≤ An.length + 1 := by rw [hAn]; exact but_len (hLn2 ▸ viewL_nodup _)
        have hAl : An.length ≤ Ln.length := by rw [hAn]; exact but_le _ _
        have hix1 : 0 + ((((m.ws.length + 1 : Nat) : Int) - 1).toNat) = m.ws.length := by omega
        refine AWP.loop (X := { x : Nat // x ≤ Ln.length }) (fun x => [(0, .iv (.sl 5 l.length fun i => callI (l.getD i default))), (3, .ptr 0 0), (4, .row 1 1 0 (m'.ws.length + 1)), (5, AV.int .i64 i), (6, .ptr 2 0), (8, AV.int .u64 m.mark), (10, .iv (.sl 2 Ln.length (viewF Ln))), (11, .iv (.sl 2 Ll.length (viewF Ll))), (12, .row 3 2 0 (but c.k (Ln.take x.1)).length), (13, .nilSl), (14, AV.bool (there c.k c.v (decide (c.what < 3)) (Ln.take x.1))), (94, .iv (.sl 2 Ln.length (viewF Ln))), (95, AV.int .i64 Ln.length), (96, AV.int .i64 x.1)]) (fun x => ⟨4, [(0, .sem (Nest m'.H)), (1, .rowc 34 1 (m'.ws.length + 1) (vrow m'.ws)), (2, .cells 29 (callC c)), (3, .rowc 37 2 (but c.k (Ln.take x.1)).length (viewF (but c.k (Ln.take x.1))))]⟩) (fun x => Ln.length - x.1) (⟨0, by omega⟩) ?_ fun x => AWP.go (S := sch3) (cfgVOk _ _) (.of_eq (by kernel_rfl)) ?_
        · refine Ent.mk' [some 0, some 4, some 2, none] (by kernel_rfl) ?_ ?_
          · exact ⟨AVE.refl _, AVE.refl _, AVE.len (by dsimp only; omega), AVE.refl _, AVE.refl _, AVE.refl _, AVE.refl _, AVE.of_eq (by show AV.iv (.sl 2 (viewL (m.ws.take (0 + ((((m.ws.length + 1 : Nat) : Int) - 1).toNat)))).length (viewF (viewL (m.ws.take (0 + ((((m.ws.length + 1 : Nat) : Int) - 1).toNat)))))) = AV.iv (.sl 2 Ll.length (viewF Ll)); rw [hix1, ← hLl0]), AVE.nil _ _, AVE.refl _, AVE.bool (by simp [there]), AVE.refl _, AVE.refl _, AVE.refl _, trivial⟩
          · refine ⟨⟨_, rfl, ChE.refl _⟩, ⟨_, rfl, ⟨fun ρ ι hv w h => (ChE.row (n := m.ws.length + 1 + 1) (n' := m'.ws.length + 1) (f := vrow m'.ws) (f' := vrow m'.ws) (by omega) fun _ _ => rfl).run ρ ι hv w ((ChE.push (i := m.ws.length + 1) (f' := vrow m'.ws) (fun j hj => vrow_take (n := m.ws.length) (by rw [hw]; simp) (by omega)) ?_).run ρ ι hv w h)⟩⟩, ⟨_, rfl, ChE.refl _⟩, trivial, trivial⟩
            show IVEs [.sl 2 Ln.length (viewF Ln)] (vrow m'.ws (m.ws.length + 1))
            unfold vrow
            rw [← hlw, ← hLn]
            exact IVEs.refl _
        · obtain ⟨x, hx⟩ := x
          have hxx : ((x : Nat) : Int).toNat = x := by simp
          have hbx := but_le c.k (Ln.take x)
          have hbt : (Ln.take x).length ≤ Ln.length := by simp; omega
          (conv => whnf); repeat ((first | (refine And.intro ?_ ?_; (focus ((repeat' (first | exact trivial | refine And.intro rfl ?_)); done))) | (refine And.intro ?_ ?_; (focus (first | omega | (dsimp -iota only; omega) | (simp -iota; omega) | (simp -iota; done) | decide)))); conv => whnf)
          refine branchB_of (fun g0 => ?_) (fun g0 => ?_) <;> (first | replace g0 := not_t g0 | replace g0 := not_f g0 | skip) <;> (first | replace g0 := of_decide_eq_true g0 | replace g0 := of_decide_eq_false g0 | skip) <;> (first | replace g0 := Classical.not_not.1 g0 | skip) <;> (try dsimp only at g0)
          · have hxl : x < Ln.length := by omega
            have hb1 := but_take (k := c.k) hxl
            have ht1 := there_take (ck := c.k) (cv := c.v) (b3 := decide (c.what < 3)) hxl
            (conv => whnf); repeat ((first | (refine And.intro ?_ ?_; (focus ((repeat' (first | exact trivial | refine And.intro rfl ?_)); done))) | (refine And.intro ?_ ?_; (focus (first | omega | (dsimp -iota only; omega) | (simp -iota; omega) | (simp -iota; done) | decide)))); conv => whnf)
            refine branchB_of (fun g1 => ?_) (fun g1 => ?_) <;> (first | replace g1 := not_t g1 | replace g1 := not_f g1 | skip) <;> (first | replace g1 := of_decide_eq_true g1 | replace g1 := of_decide_eq_false g1 | skip) <;> (first | replace g1 := Classical.not_not.1 g1 | skip) <;> (try dsimp only at g1)
            · have hb2 : but c.k (Ln.take (x + 1)) = but c.k (Ln.take x) := by rw [hb1, if_pos (by rw [hxx] at g1; exact g1)]; simp
              have hb3 : (but c.k (Ln.take (x + 1))).length = (but c.k (Ln.take x)).length := by rw [hb2]
              rw [if_pos (by rw [hxx] at g1; exact g1)] at ht1
              (conv => whnf); repeat ((first | (refine And.intro ?_ ?_; (focus ((repeat' (first | exact trivial | refine And.intro rfl ?_)); done))) | (refine And.intro ?_ ?_; (focus (first | omega | (dsimp -iota only; omega) | (simp -iota; omega) | (simp -iota; done) | decide)))); conv => whnf)
              refine branchB_of (fun g2 => ?_) (fun g2 => ?_) <;> (first | replace g2 := not_t g2 | replace g2 := not_f g2 | skip) <;> (first | replace g2 := of_decide_eq_true g2 | replace g2 := of_decide_eq_false g2 | skip) <;> (first | replace g2 := Classical.not_not.1 g2 | skip) <;> (try dsimp only at g2)
              · have e14 : decide ((Ln.getD ((x : Nat) : Int).toNat ([], [])).2 = c.v) = there c.k c.v (decide (c.what < 3)) (Ln.take (x + 1)) := by rw [ht1, hxx]; simp [g2]
                (conv => whnf); repeat ((first | (refine And.intro ?_ ?_; (focus ((repeat' (first | exact trivial | refine And.intro rfl ?_)); done))) | (refine And.intro ?_ ?_; (focus (first | omega | (dsimp -iota only; omega) | (simp -iota; omega) | (simp -iota; done) | decide)))); conv => whnf)
                refine ⟨⟨x + 1, by omega⟩, Ent.mk' [some 0, some 1, some 2, some 3] (by kernel_rfl) (by repeat' first | exact trivial | refine And.intro (AVE.refl _) ?_ | refine And.intro (AVE.int (by first | rfl | omega | (dsimp only; omega) | (simp -iota; omega) | (simp -iota; done))) ?_ | refine And.intro (AVE.bool (by assumption)) ?_ | refine And.intro (AVE.len (by first | rfl | omega | (dsimp only; omega) | (simp -iota; omega) | (simp -iota; done))) ?_) ?_, ?_⟩
                · exact ⟨⟨_, rfl, ChE.refl _⟩, ⟨_, rfl, ChE.refl _⟩, ⟨_, rfl, ChE.refl _⟩, ⟨_, rfl, ChE.of_eq (by show Chunk.rowc 37 2 _ _ = Chunk.rowc 37 2 _ _; rw [hb2])⟩, trivial⟩
                · show Ln.length - (x + 1) < Ln.length - x
                  omega
              · have e14 : false = there c.k c.v (decide (c.what < 3)) (Ln.take (x + 1)) := by rw [ht1]; simp [g2]
                (conv => whnf); repeat ((first | (refine And.intro ?_ ?_; (focus ((repeat' (first | exact trivial | refine And.intro rfl ?_)); done))) | (refine And.intro ?_ ?_; (focus (first | omega | (dsimp -iota only; omega) | (simp -iota; omega) | (simp -iota; done) | decide)))); conv => whnf)
                refine ⟨⟨x + 1, by omega⟩, Ent.mk' [some 0, some 1, some 2, some 3] (by kernel_rfl) (by repeat' first | exact trivial | refine And.intro (AVE.refl _) ?_ | refine And.intro (AVE.int (by first | rfl | omega | (dsimp only; omega) | (simp -iota; omega) | (simp -iota; done))) ?_ | refine And.intro (AVE.bool (by assumption)) ?_ | refine And.intro (AVE.len (by first | rfl | omega | (dsimp only; omega) | (simp -iota; omega) | (simp -iota; done))) ?_) ?_, ?_⟩
                · exact ⟨⟨_, rfl, ChE.refl _⟩, ⟨_, rfl, ChE.refl _⟩, ⟨_, rfl, ChE.refl _⟩, ⟨_, rfl, ChE.of_eq (by show Chunk.rowc 37 2 _ _ = Chunk.rowc 37 2 _ _; rw [hb2])⟩, trivial⟩
                · show Ln.length - (x + 1) < Ln.length - x
                  omega
            · rw [if_neg (by rw [hxx] at g1; exact g1)] at ht1 hb1
              have e14 : there c.k c.v (decide (c.what < 3)) (Ln.take x) = there c.k c.v (decide (c.what < 3)) (Ln.take (x + 1)) := ht1.symm
              have hb3 : (but c.k (Ln.take (x + 1))).length = (but c.k (Ln.take x)).length + 1 := by rw [hb1]; simp
              (conv => whnf); repeat ((first | (refine And.intro ?_ ?_; (focus ((repeat' (first | exact trivial | refine And.intro rfl ?_)); done))) | (refine And.intro ?_ ?_; (focus (first | omega | (dsimp -iota only; omega) | (simp -iota; omega) | (simp -iota; done) | decide)))); conv => whnf)
              refine ⟨⟨x + 1, by omega⟩, Ent.mk' [some 0, some 1, some 2, some 6] (by kernel_rfl) (by repeat' first | exact trivial | refine And.intro (AVE.refl _) ?_ | refine And.intro (AVE.int (by first | rfl | omega | (dsimp only; omega) | (simp -iota; omega) | (simp -iota; done))) ?_ | refine And.intro (AVE.bool (by assumption)) ?_ | refine And.intro (AVE.len (by first | rfl | omega | (dsimp only; omega) | (simp -iota; omega) | (simp -iota; done))) ?_) ?_, ?_⟩
              · exact ⟨⟨_, rfl, ChE.refl _⟩, ⟨_, rfl, ChE.refl _⟩, ⟨_, rfl, ChE.refl _⟩, ⟨_, rfl, ChE.pushV hb1 (by show [IV.bs (Ln.getD ((x : Nat) : Int).toNat ([], [])).1, IV.bs (Ln.getD ((x : Nat) : Int).toNat ([], [])).2] = _; rw [hxx])⟩, trivial⟩
              · show Ln.length - (x + 1) < Ln.length - x
                omega
          · have hxl : x = Ln.length := by omega
            subst hxl
            (conv => whnf); repeat ((first | (refine And.intro ?_ ?_; (focus ((repeat' (first | exact trivial | refine And.intro rfl ?_)); done))) | (refine And.intro ?_ ?_; (focus (first | omega | (dsimp -iota only; omega) | (simp -iota; omega) | (simp -iota; done) | decide)))); conv => whnf)
            refine AWP.merge (Y := Unit) (fun u => [(0, .iv (.sl 5 l.length fun i => callI (l.getD i default))), (3, .ptr 0 0), (4, .row 1 1 0 (m'.ws.length + 1)), (5, AV.int .i64 i), (6, .ptr 2 0), (8, AV.int .u64 m.mark), (10, .iv (.sl 2 Ln.length (viewF Ln))), (12, .iv (.sl 2 An.length (viewF An))), (13, .iv (.sl 2 Bn.length (viewF Bn))), (14, AV.bool (decide (c.what < 3)))]) (fun u => ⟨3, [(0, .sem (Nest m'.H)), (1, .rowc 34 1 (m'.ws.length + 1) (vrow m'.ws)), (2, .cells 29 (callC c))]⟩) 5 (fun u => ?_) ?_
            · (conv => whnf); repeat ((first | (refine And.intro ?_ ?_; (focus ((repeat' (first | exact trivial | refine And.intro rfl ?_)); done))) | (refine And.intro ?_ ?_; (focus (first | omega | (dsimp -iota only; omega) | (simp -iota; omega) | (simp -iota; done) | decide)))); conv => whnf)
              refine AFn.use [] (same_ok An Bn) (by kernel_rfl) rfl (by repeat' first | exact trivial | refine ⟨rfl, ?_⟩) fun _ => ?_
              (conv => whnf); repeat ((first | (refine And.intro ?_ ?_; (focus ((repeat' (first | exact trivial | refine And.intro rfl ?_)); done))) | (refine And.intro ?_ ?_; (focus (first | omega | (dsimp -iota only; omega) | (simp -iota; omega) | (simp -iota; done) | decide)))); conv => whnf)
              refine branchB_of (fun g1 => ?_) (fun g1 => ?_) <;> (first | replace g1 := not_t g1 | replace g1 := not_f g1 | skip) <;> (first | replace g1 := of_decide_eq_true g1 | replace g1 := of_decide_eq_false g1 | skip) <;> (first | replace g1 := Classical.not_not.1 g1 | skip) <;> (try dsimp only at g1)
              · exact absurd hAB g1
              (conv => whnf); repeat ((first | (refine And.intro ?_ ?_; (focus ((repeat' (first | exact trivial | refine And.intro rfl ?_)); done))) | (refine And.intro ?_ ?_; (focus (first | omega | (dsimp -iota only; omega) | (simp -iota; omega) | (simp -iota; done) | decide)))); conv => whnf)
              refine branchB_of (fun g2 => ?_) (fun g2 => ?_) <;> (first | replace g2 := not_t g2 | replace g2 := not_f g2 | skip) <;> (first | replace g2 := of_decide_eq_true g2 | replace g2 := of_decide_eq_false g2 | skip) <;> (first | replace g2 := Classical.not_not.1 g2 | skip) <;> (try dsimp only at g2)
              · exact absurd rfl g2
              (conv => whnf); repeat ((first | (refine And.intro ?_ ?_; (focus ((repeat' (first | exact trivial | refine And.intro rfl ?_)); done))) | (refine And.intro ?_ ?_; (focus (first | omega | (dsimp -iota only; omega) | (simp -iota; omega) | (simp -iota; done) | decide)))); conv => whnf)
              refine branchB_of (fun h => ?_) (fun h => ?_) <;> (first | replace h := not_t h | replace h := not_f h | skip) <;> (first | replace h := of_decide_eq_true h | replace h := of_decide_eq_false h | skip) <;> (first | replace h := Classical.not_not.1 h | skip) <;> (try dsimp only at h) <;> first | (exfalso; first | omega | contradiction | exact h rfl) | skip
              (conv => whnf); repeat ((first | (refine And.intro ?_ ?_; (focus ((repeat' (first | exact trivial | refine And.intro rfl ?_)); done))) | (refine And.intro ?_ ?_; (focus (first | omega | (dsimp -iota only; omega) | (simp -iota; omega) | (simp -iota; done) | decide)))); conv => whnf)
              exact ⟨(), Ent.mk' [some 0, some 1] (by kernel_rfl) (by repeat' first | exact trivial | refine And.intro (AVE.refl _) ?_ | refine And.intro (AVE.int (by first | rfl | omega | (dsimp only; omega) | (simp -iota; omega) | (simp -iota; done))) ?_ | refine And.intro (AVE.bool (by assumption)) ?_ | refine And.intro (AVE.len (by first | rfl | omega | (dsimp only; omega) | (simp -iota; omega) | (simp -iota; done))) ?_) (by repeat' (first | exact trivial | refine ⟨⟨_, rfl, ChE.refl _⟩, ?_⟩))⟩
            · refine AWP.loop (X := { x : Nat // x ≤ Ll.length }) (fun x => [(0, .iv (.sl 5 l.length fun i => callI (l.getD i default))), (3, .ptr 0 0), (4, .row 1 1 0 (m'.ws.length + 1)), (5, AV.int .i64 i), (6, .ptr 2 0), (8, AV.int .u64 m.mark), (10, .iv (.sl 2 Ln.length (viewF Ln))), (12, .iv (.sl 2 An.length (viewF An))), (13, .row 3 2 0 (but c.k (Ll.take x.1)).length), (14, AV.bool (decide (c.what < 3))), (124, .iv (.sl 2 Ll.length (viewF Ll))), (125, AV.int .i64 Ll.length), (126, AV.int .i64 x.1)]) (fun x => ⟨4, [(0, .sem (Nest m'.H)), (1, .rowc 34 1 (m'.ws.length + 1) (vrow m'.ws)), (2, .cells 29 (callC c)), (3, .rowc 37 2 (but c.k (Ll.take x.1)).length (viewF (but c.k (Ll.take x.1))))]⟩) (fun x => Ll.length - x.1) (⟨0, by omega⟩) ?_ fun x => AWP.go (S := sch3) (cfgVOk _ _) (.of_eq (by kernel_rfl)) ?_
              · refine (Ent.freeze 3 _ rfl rfl (e' := [(0, .iv (.sl 5 l.length fun i => callI (l.getD i default))), (3, .ptr 0 0), (4, .row 1 1 0 (m'.ws.length + 1)), (5, AV.int .i64 i), (6, .ptr 2 0), (8, AV.int .u64 m.mark), (10, .iv (.sl 2 Ln.length (viewF Ln))), (12, .iv (.sl 2 (but c.k (Ln.take Ln.length)).length (viewF (but c.k (Ln.take Ln.length))))), (13, .nilSl), (14, AV.bool (there c.k c.v (decide (c.what < 3)) (Ln.take Ln.length))), (124, .iv (.sl 2 Ll.length (viewF Ll))), (125, AV.int .i64 Ll.length), (126, AV.int .i64 (0 : Nat))]) ⟨AVF.same _ _ _, AVF.same _ _ _, AVF.same _ _ _, AVF.same _ _ _, AVF.same _ _ _, AVF.same _ _ _, AVF.same _ _ _, AVF.sl (Nat.le_refl _), AVF.same _ _ _, AVF.same _ _ _, AVF.same _ _ _, AVF.same _ _ _, AVF.same _ _ _, trivial⟩).trans (Ent.mk' [some 0, some 1, some 2, none] (by kernel_rfl) ?_ ?_)
                · exact ⟨AVE.refl _, AVE.refl _, AVE.refl _, AVE.refl _, AVE.refl _, AVE.refl _, AVE.refl _, AVE.of_eq (by rw [List.take_length, ← hAn]; rfl), AVE.nil _ _, AVE.bool (by rw [List.take_length]; exact hth), AVE.refl _, AVE.refl _, AVE.refl _, trivial⟩
                · exact ⟨⟨_, rfl, ChE.refl _⟩, ⟨_, rfl, ChE.refl _⟩, ⟨_, rfl, ChE.refl _⟩, trivial, trivial⟩
              · obtain ⟨x, hx⟩ := x
                have hxx : ((x : Nat) : Int).toNat = x := by simp
                have hbx := but_le c.k (Ll.take x)
                have hbt : (Ll.take x).length ≤ Ll.length := by simp; omega
                (conv => whnf); repeat ((first | (refine And.intro ?_ ?_; (focus ((repeat' (first | exact trivial | refine And.intro rfl ?_)); done))) | (refine And.intro ?_ ?_; (focus (first | omega | (dsimp -iota only; omega) | (simp -iota; omega) | (simp -iota; done) | decide)))); conv => whnf)
                refine branchB_of (fun g0 => ?_) (fun g0 => ?_) <;> (first | replace g0 := not_t g0 | replace g0 := not_f g0 | skip) <;> (first | replace g0 := of_decide_eq_true g0 | replace g0 := of_decide_eq_false g0 | skip) <;> (first | replace g0 := Classical.not_not.1 g0 | skip) <;> (try dsimp only at g0)
                · have hxl : x < Ll.length := by omega
                  have hb1 := but_take (k := c.k) hxl
                  (conv => whnf); repeat ((first | (refine And.intro ?_ ?_; (focus ((repeat' (first | exact trivial | refine And.intro rfl ?_)); done))) | (refine And.intro ?_ ?_; (focus (first | omega | (dsimp -iota only; omega) | (simp -iota; omega) | (simp -iota; done) | decide)))); conv => whnf)
                  refine branchB_of (fun g1 => ?_) (fun g1 => ?_) <;> (first | replace g1 := not_t g1 | replace g1 := not_f g1 | skip) <;> (first | replace g1 := of_decide_eq_true g1 | replace g1 := of_decide_eq_false g1 | skip) <;> (first | replace g1 := Classical.not_not.1 g1 | skip) <;> (try dsimp only at g1)
                  · rw [if_neg (by rw [hxx] at g1; exact g1)] at hb1
                    have hb3 : (but c.k (Ll.take (x + 1))).length = (but c.k (Ll.take x)).length + 1 := by rw [hb1]; simp
                    (conv => whnf); repeat ((first | (refine And.intro ?_ ?_; (focus ((repeat' (first | exact trivial | refine And.intro rfl ?_)); done))) | (refine And.intro ?_ ?_; (focus (first | omega | (dsimp -iota only; omega) | (simp -iota; omega) | (simp -iota; done) | decide)))); conv => whnf)
                    refine ⟨⟨x + 1, by omega⟩, Ent.mk' [some 0, some 1, some 2, some 6] (by kernel_rfl) (by repeat' first | exact trivial | refine And.intro (AVE.refl _) ?_ | refine And.intro (AVE.int (by first | rfl | omega | (dsimp only; omega) | (simp -iota; omega) | (simp -iota; done))) ?_ | refine And.intro (AVE.bool (by assumption)) ?_ | refine And.intro (AVE.len (by first | rfl | omega | (dsimp only; omega) | (simp -iota; omega) | (simp -iota; done))) ?_) ?_, ?_⟩
                    · exact ⟨⟨_, rfl, ChE.refl _⟩, ⟨_, rfl, ChE.refl _⟩, ⟨_, rfl, ChE.refl _⟩, ⟨_, rfl, ChE.pushV hb1 (by show [IV.bs (Ll.getD ((x : Nat) : Int).toNat ([], [])).1, IV.bs (Ll.getD ((x : Nat) : Int).toNat ([], [])).2] = _; rw [hxx])⟩, trivial⟩
                    · show Ll.length - (x + 1) < Ll.length - x
                      omega
                  · have hb2 : but c.k (Ll.take (x + 1)) = but c.k (Ll.take x) := by rw [hb1, if_pos (by rw [hxx] at g1; exact g1)]; simp
                    have hb3 : (but c.k (Ll.take (x + 1))).length = (but c.k (Ll.take x)).length := by rw [hb2]
                    (conv => whnf); repeat ((first | (refine And.intro ?_ ?_; (focus ((repeat' (first | exact trivial | refine And.intro rfl ?_)); done))) | (refine And.intro ?_ ?_; (focus (first | omega | (dsimp -iota only; omega) | (simp -iota; omega) | (simp -iota; done) | decide)))); conv => whnf)
                    refine ⟨⟨x + 1, by omega⟩, Ent.mk' [some 0, some 1, some 2, some 3] (by kernel_rfl) (by repeat' first | exact trivial | refine And.intro (AVE.refl _) ?_ | refine And.intro (AVE.int (by first | rfl | omega | (dsimp only; omega) | (simp -iota; omega) | (simp -iota; done))) ?_ | refine And.intro (AVE.bool (by assumption)) ?_ | refine And.intro (AVE.len (by first | rfl | omega | (dsimp only; omega) | (simp -iota; omega) | (simp -iota; done))) ?_) ?_, ?_⟩
                    · exact ⟨⟨_, rfl, ChE.refl _⟩, ⟨_, rfl, ChE.refl _⟩, ⟨_, rfl, ChE.refl _⟩, ⟨_, rfl, ChE.of_eq (by show Chunk.rowc 37 2 _ _ = Chunk.rowc 37 2 _ _; rw [hb2])⟩, trivial⟩
                    · show Ll.length - (x + 1) < Ll.length - x
                      omega
                · have hxl : x = Ll.length := by omega
                  subst hxl
                  (conv => whnf); repeat ((first | (refine And.intro ?_ ?_; (focus ((repeat' (first | exact trivial | refine And.intro rfl ?_)); done))) | (refine And.intro ?_ ?_; (focus (first | omega | (dsimp -iota only; omega) | (simp -iota; omega) | (simp -iota; done) | decide)))); conv => whnf)
                  refine ⟨(), (Ent.freeze 3 _ rfl rfl (e' := [(0, .iv (.sl 5 l.length fun i => callI (l.getD i default))), (3, .ptr 0 0), (4, .row 1 1 0 (m'.ws.length + 1)), (5, AV.int .i64 i), (6, .ptr 2 0), (8, AV.int .u64 m.mark), (10, .iv (.sl 2 Ln.length (viewF Ln))), (12, .iv (.sl 2 An.length (viewF An))), (13, .iv (.sl 2 (but c.k (Ll.take Ll.length)).length (viewF (but c.k (Ll.take Ll.length))))), (14, AV.bool (decide (c.what < 3)))]) ⟨AVF.same _ _ _, AVF.same _ _ _, AVF.same _ _ _, AVF.same _ _ _, AVF.same _ _ _, AVF.same _ _ _, AVF.same _ _ _, AVF.same _ _ _, AVF.sl (Nat.le_refl _), AVF.same _ _ _, trivial⟩).trans (Ent.mk' [some 0, some 1, some 2] (by kernel_rfl) ?_ ?_)⟩
                  · exact ⟨AVE.refl _, AVE.refl _, AVE.refl _, AVE.refl _, AVE.refl _, AVE.refl _, AVE.refl _, AVE.refl _, AVE.of_eq (by rw [List.take_length, ← hBn]; rfl), AVE.refl _, trivial⟩
                  · exact ⟨⟨_, rfl, ChE.refl _⟩, ⟨_, rfl, ChE.refl _⟩, ⟨_, rfl, ChE.refl _⟩, trivial⟩
      · (conv => whnf); repeat ((first | (refine And.intro ?_ ?_; (focus ((repeat' (first | exact trivial | refine And.intro rfl ?_)); done))) | (refine And.intro ?_ ?_; (focus (first | omega | (dsimp -iota only; omega) | (simp -iota; omega) | (simp -iota; done) | decide)))); conv => whnf)
        refine AFn.use [0] (seq_ok m' hm'.n) (by kernel_rfl) rfl (by repeat' first | exact trivial | refine ⟨rfl, ?_⟩) fun _ => ?_
        (conv => whnf); repeat ((first | (refine And.intro ?_ ?_; (focus ((repeat' (first | exact trivial | refine And.intro rfl ?_)); done))) | (refine And.intro ?_ ?_; (focus (first | omega | (dsimp -iota only; omega) | (simp -iota; omega) | (simp -iota; done) | decide)))); conv => whnf)
        refine branchB_of (fun gB => ?_) (fun gB => ?_) <;> (first | replace gB := not_t gB | replace gB := not_f gB | skip) <;> (first | replace gB := of_decide_eq_true gB | replace gB := of_decide_eq_false gB | skip) <;> (first | replace gB := Classical.not_not.1 gB | skip) <;> (try dsimp only at gB)
        · (conv => whnf); repeat ((first | (refine And.intro ?_ ?_; (focus ((repeat' (first | exact trivial | refine And.intro rfl ?_)); done))) | (refine And.intro ?_ ?_; (focus (first | omega | (dsimp -iota only; omega) | (simp -iota; omega) | (simp -iota; done) | decide)))); conv => whnf)
          have hless := does_less (m := m) (c := c) (by rw [← hd]; omega)
          rw [← hd] at hless
          obtain ⟨hc7, hcn, hcm⟩ := hless
          have hcut := does_not_more (m := m) (c := c) (by rw [← hd]; omega)
          rw [← hd] at hcut
          refine branchB_of (fun h => ?_) (fun h => ?_) <;> (first | replace h := not_t h | replace h := not_f h | skip) <;> (first | replace h := of_decide_eq_true h | replace h := of_decide_eq_false h | skip) <;> (first | replace h := Classical.not_not.1 h | skip) <;> (try dsimp only at h) <;> first | (exfalso; first | omega | contradiction | exact h rfl) | skip
          (conv => whnf); repeat ((first | (refine And.intro ?_ ?_; (focus ((repeat' (first | exact trivial | refine And.intro rfl ?_)); done))) | (refine And.intro ?_ ?_; (focus (first | omega | (dsimp -iota only; omega) | (simp -iota; omega) | (simp -iota; done) | decide)))); conv => whnf)
          refine AFn.use [0] (seq_ok m' hm'.n) (by kernel_rfl) rfl (by repeat' first | exact trivial | refine ⟨rfl, ?_⟩) fun _ => ?_
          (conv => whnf); repeat ((first | (refine And.intro ?_ ?_; (focus ((repeat' (first | exact trivial | refine And.intro rfl ?_)); done))) | (refine And.intro ?_ ?_; (focus (first | omega | (dsimp -iota only; omega) | (simp -iota; omega) | (simp -iota; done) | decide)))); conv => whnf)
          refine branchB_of (fun h => ?_) (fun h => ?_) <;> (first | replace h := not_t h | replace h := not_f h | skip) <;> (first | replace h := of_decide_eq_true h | replace h := of_decide_eq_false h | skip) <;> (first | replace h := Classical.not_not.1 h | skip) <;> (try dsimp only at h) <;> first | (exfalso; first | omega | contradiction | exact h rfl) | skip
          (conv => whnf); repeat ((first | (refine And.intro ?_ ?_; (focus ((repeat' (first | exact trivial | refine And.intro rfl ?_)); done))) | (refine And.intro ?_ ?_; (focus (first | omega | (dsimp -iota only; omega) | (simp -iota; omega) | (simp -iota; done) | decide)))); conv => whnf)
          refine branchB_of (fun h => ?_) (fun h => ?_) <;> (first | replace h := not_t h | replace h := not_f h | skip) <;> (first | replace h := of_decide_eq_true h | replace h := of_decide_eq_false h | skip) <;> (first | replace h := Classical.not_not.1 h | skip) <;> (try dsimp only at h) <;> first | (exfalso; first | omega | contradiction | exact h rfl) | skip
          (conv => whnf); repeat ((first | (refine And.intro ?_ ?_; (focus ((repeat' (first | exact trivial | refine And.intro rfl ?_)); done))) | (refine And.intro ?_ ?_; (focus (first | omega | (dsimp -iota only; omega) | (simp -iota; omega) | (simp -iota; done) | decide)))); conv => whnf)
          refine AFn.use [0] (seq_ok m' hm'.n) (by kernel_rfl) rfl (by repeat' first | exact trivial | refine ⟨rfl, ?_⟩) fun _ => ?_
          (conv => whnf); repeat ((first | (refine And.intro ?_ ?_; (focus ((repeat' (first | exact trivial | refine And.intro rfl ?_)); done))) | (refine And.intro ?_ ?_; (focus (first | omega | (dsimp -iota only; omega) | (simp -iota; omega) | (simp -iota; done) | decide)))); conv => whnf)
          refine ⟨(), Ent.mk' [some 0, some 1] (by kernel_rfl) ?_ ?_⟩
          · exact ⟨AVE.refl _, AVE.refl _, AVE.len (by first | omega | (simp; done) | (simp; omega) | (dsimp only; omega)), AVE.refl _, AVE.refl _, trivial⟩
          · exact ⟨⟨_, rfl, ChE.refl _⟩, ⟨_, rfl, ChE.rowE (by dsimp only; omega) fun j hj => by dsimp only; rw [vrow_take (ws := m.ws) (ws' := m'.ws) (n := m'.ws.length) (by rw [List.take_length]; exact hcut) (by omega)]; exact IVEs.refl _⟩, trivial⟩
        · (conv => whnf); repeat ((first | (refine And.intro ?_ ?_; (focus ((repeat' (first | exact trivial | refine And.intro rfl ?_)); done))) | (refine And.intro ?_ ?_; (focus (first | omega | (dsimp -iota only; omega) | (simp -iota; omega) | (simp -iota; done) | decide)))); conv => whnf)
          have hcut := does_not_more (m := m) (c := c) (by rw [← hd]; omega)
          rw [← hd] at hcut
          have hle : m'.ws.length = m.ws.length := by omega
          refine ⟨(), Ent.mk' [some 0, some 1] (by kernel_rfl) ?_ ?_⟩
          · exact ⟨AVE.refl _, AVE.refl _, AVE.len (by dsimp only; omega), AVE.refl _, AVE.refl _, trivial⟩
          · exact ⟨⟨_, rfl, ChE.refl _⟩, ⟨_, rfl, ChE.rowE (by dsimp only; omega) fun j hj => by dsimp only; rw [vrow_take (ws := m.ws) (ws' := m'.ws) (n := m'.ws.length) (by rw [List.take_length]; exact hcut) (by omega)]; exact IVEs.refl _⟩, trivial⟩
    · (conv => whnf); repeat ((first | (refine And.intro ?_ ?_; (focus ((repeat' (first | exact trivial | refine And.intro rfl ?_)); done))) | (refine And.intro ?_ ?_; (focus (first | omega | (dsimp -iota only; omega) | (simp -iota; omega) | (simp -iota; done) | decide)))); conv => whnf)
      refine AWP.loop (X := { s : Nat // s ≤ m'.ws.length + 1 }) (fun s => [(0, .iv (.sl 5 l.length fun i => callI (l.getD i default))), (3, .ptr 0 0), (4, .row 1 1 0 (m'.ws.length + 1)), (5, AV.int .i64 i), (8, AV.int .u64 m.mark), (19, AV.int .i64 s.1)]) (fun s => ⟨2, [(0, .sem (Nest m'.H)), (1, .rowc 34 1 (m'.ws.length + 1) (vrow m'.ws))]⟩) (fun s => m'.ws.length + 1 - s.1) (⟨0, by omega⟩) ?_ fun s => AWP.go (S := sch3) (cfgVOk _ _) (.of_eq (by kernel_rfl)) ?_
      · exact Ent.mk' [some 0, some 1] (by kernel_rfl) (by repeat' first | exact trivial | refine And.intro (AVE.refl _) ?_ | refine And.intro (AVE.int (by first | rfl | omega | (dsimp only; omega) | (simp -iota; omega) | (simp -iota; done))) ?_ | refine And.intro (AVE.bool (by assumption)) ?_ | refine And.intro (AVE.len (by first | rfl | omega | (dsimp only; omega) | (simp -iota; omega) | (simp -iota; done))) ?_) (by repeat' (first | exact trivial | refine ⟨⟨_, rfl, ChE.refl _⟩, ?_⟩))
      · obtain ⟨s, hs⟩ := s
        have hn1 := hm'.n
        have hsx : 0 + ((s : Nat) : Int).toNat = s := by simp
        (conv => whnf); repeat ((first | (refine And.intro ?_ ?_; (focus ((repeat' (first | exact trivial | refine And.intro rfl ?_)); done))) | (refine And.intro ?_ ?_; (focus (first | omega | (dsimp -iota only; omega) | (simp -iota; omega) | (simp -iota; done) | decide)))); conv => whnf)
        refine branchB_of (fun f0 => ?_) (fun f0 => ?_) <;> (first | replace f0 := not_t f0 | replace f0 := not_f f0 | skip) <;> (first | replace f0 := of_decide_eq_true f0 | replace f0 := of_decide_eq_false f0 | skip) <;> (first | replace f0 := Classical.not_not.1 f0 | skip) <;> (try dsimp only at f0)
        · (conv => whnf); repeat ((first | (refine And.intro ?_ ?_; (focus ((repeat' (first | exact trivial | refine And.intro rfl ?_)); done))) | (refine And.intro ?_ ?_; (focus (first | omega | (dsimp -iota only; omega) | (simp -iota; omega) | (simp -iota; done) | decide)))); conv => whnf)
          refine And.intro ?_ ?_
          focus
            (conv => whnf); repeat ((first | (refine And.intro ?_ ?_; (focus ((repeat' (first | exact trivial | refine And.intro rfl ?_)); done))) | (refine And.intro ?_ ?_; (focus (first | omega | (dsimp -iota only; omega) | (simp -iota; omega) | (simp -iota; done) | decide)))); conv => whnf)
            refine And.intro ?_ ?_
          all_goals
            (conv => whnf); repeat ((first | (refine And.intro ?_ ?_; (focus ((repeat' (first | exact trivial | refine And.intro rfl ?_)); done))) | (refine And.intro ?_ ?_; (focus (first | omega | (dsimp -iota only; omega) | (simp -iota; omega) | (simp -iota; done) | decide)))); conv => whnf)
            refine AFn.use [0] (view_x m' hm' s (by omega)) (by kernel_rfl) rfl (by repeat' first | exact trivial | refine ⟨rfl, ?_⟩) fun o => ?_
            have hL := o.2
            (conv => whnf); repeat ((first | (refine And.intro ?_ ?_; (focus ((repeat' (first | exact trivial | refine And.intro rfl ?_)); done))) | (refine And.intro ?_ ?_; (focus (first | omega | (dsimp -iota only; omega) | (simp -iota; omega) | (simp -iota; done) | decide)))); conv => whnf)
            refine AFn.use [] (same_ok _ _) (by kernel_rfl) rfl (by repeat' first | exact trivial | refine ⟨rfl, ?_⟩) fun _ => ?_
            (conv => whnf); repeat ((first | (refine And.intro ?_ ?_; (focus ((repeat' (first | exact trivial | refine And.intro rfl ?_)); done))) | (refine And.intro ?_ ?_; (focus (first | omega | (dsimp -iota only; omega) | (simp -iota; omega) | (simp -iota; done) | decide)))); conv => whnf)
            refine branchB_of (fun f1 => ?_) (fun f1 => ?_) <;> (first | replace f1 := not_t f1 | replace f1 := not_f f1 | skip) <;> (first | replace f1 := of_decide_eq_true f1 | replace f1 := of_decide_eq_false f1 | skip) <;> (first | replace f1 := Classical.not_not.1 f1 | skip) <;> (try dsimp only at f1)
            · exact absurd (by rw [hL]; simp) f1
            (conv => whnf); repeat ((first | (refine And.intro ?_ ?_; (focus ((repeat' (first | exact trivial | refine And.intro rfl ?_)); done))) | (refine And.intro ?_ ?_; (focus (first | omega | (dsimp -iota only; omega) | (simp -iota; omega) | (simp -iota; done) | decide)))); conv => whnf)
            refine ⟨⟨s + 1, by omega⟩, Ent.mk' [some 0, some 1] (by kernel_rfl) (by repeat' first | exact trivial | refine And.intro (AVE.refl _) ?_ | refine And.intro (AVE.int (by first | rfl | omega | (dsimp only; omega) | (simp -iota; omega) | (simp -iota; done))) ?_ | refine And.intro (AVE.bool (by assumption)) ?_ | refine And.intro (AVE.len (by first | rfl | omega | (dsimp only; omega) | (simp -iota; omega) | (simp -iota; done))) ?_) (by repeat' (first | exact trivial | refine ⟨⟨_, rfl, ChE.refl _⟩, ?_⟩)), ?_⟩
            show m'.ws.length + 1 - (s + 1) < m'.ws.length + 1 - s
            omega
        · (conv => whnf); repeat ((first | (refine And.intro ?_ ?_; (focus ((repeat' (first | exact trivial | refine And.intro rfl ?_)); done))) | (refine And.intro ?_ ?_; (focus (first | omega | (dsimp -iota only; omega) | (simp -iota; omega) | (simp -iota; done) | decide)))); conv => whnf)
          refine AFn.use [0] (mark_ok m') (by kernel_rfl) rfl (by repeat' first | exact trivial | refine ⟨rfl, ?_⟩) fun _ => ?_
          (conv => whnf); repeat ((first | (refine And.intro ?_ ?_; (focus ((repeat' (first | exact trivial | refine And.intro rfl ?_)); done))) | (refine And.intro ?_ ?_; (focus (first | omega | (dsimp -iota only; omega) | (simp -iota; omega) | (simp -iota; done) | decide)))); conv => whnf)
          refine AFn.use [0] (seq_ok m' hn1) (by kernel_rfl) rfl (by repeat' first | exact trivial | refine ⟨rfl, ?_⟩) fun _ => ?_
          (conv => whnf); repeat ((first | (refine And.intro ?_ ?_; (focus ((repeat' (first | exact trivial | refine And.intro rfl ?_)); done))) | (refine And.intro ?_ ?_; (focus (first | omega | (dsimp -iota only; omega) | (simp -iota; omega) | (simp -iota; done) | decide)))); conv => whnf)
          have hmk := hm'.mark
          refine branchB_of (fun h => ?_) (fun h => ?_) <;> (first | replace h := not_t h | replace h := not_f h | skip) <;> (first | replace h := of_decide_eq_true h | replace h := of_decide_eq_false h | skip) <;> (first | replace h := Classical.not_not.1 h | skip) <;> (try dsimp only at h) <;> first | (exfalso; first | omega | contradiction | exact h rfl) | skip
          (conv => whnf); repeat ((first | (refine And.intro ?_ ?_; (focus ((repeat' (first | exact trivial | refine And.intro rfl ?_)); done))) | (refine And.intro ?_ ?_; (focus (first | omega | (dsimp -iota only; omega) | (simp -iota; omega) | (simp -iota; done) | decide)))); conv => whnf)
          refine AFn.use [0] (mark_ok m') (by kernel_rfl) rfl (by repeat' first | exact trivial | refine ⟨rfl, ?_⟩) fun _ => ?_
          (conv => whnf); repeat ((first | (refine And.intro ?_ ?_; (focus ((repeat' (first | exact trivial | refine And.intro rfl ?_)); done))) | (refine And.intro ?_ ?_; (focus (first | omega | (dsimp -iota only; omega) | (simp -iota; omega) | (simp -iota; done) | decide)))); conv => whnf)
          refine branchB_of (fun h => ?_) (fun h => ?_) <;> (first | replace h := not_t h | replace h := not_f h | skip) <;> (first | replace h := of_decide_eq_true h | replace h := of_decide_eq_false h | skip) <;> (first | replace h := Classical.not_not.1 h | skip) <;> (try dsimp only at h) <;> first | (exfalso; first | omega | contradiction | exact h rfl) | skip
          (conv => whnf); repeat ((first | (refine And.intro ?_ ?_; (focus ((repeat' (first | exact trivial | refine And.intro rfl ?_)); done))) | (refine And.intro ?_ ?_; (focus (first | omega | (dsimp -iota only; omega) | (simp -iota; omega) | (simp -iota; done) | decide)))); conv => whnf)
          obtain ⟨S, hS⟩ : ∃ S, S = m'.snaps := ⟨_, rfl⟩
          refine AFn.use [0] (list_y m' hm' S hS) (by kernel_rfl) rfl (by repeat' first | exact trivial | refine ⟨rfl, ?_⟩) fun _ => ?_
          have hSl : S.length ≤ 16 := hS ▸ snaps_len m' hm'
          have hSm : ∀ j, j < S.length → S.getD j ([], 0) ∈ m'.snaps := fun j hj => by rw [← hS]; simp only [List.getD, List.getElem?_eq_getElem hj, Option.getD_some]; exact List.getElem_mem hj
          have hSr : ∀ j, j + 1 < S.length → Op.bytesLess (S.getD j ([], 0)).1 (S.getD (j + 1) ([], 0)).1 = true := fun j hj => by rw [hS] at hj ⊢; exact snaps_rise hm' hj
          (conv => whnf); repeat ((first | (refine And.intro ?_ ?_; (focus ((repeat' (first | exact trivial | refine And.intro rfl ?_)); done))) | (refine And.intro ?_ ?_; (focus (first | omega | (dsimp -iota only; omega) | (simp -iota; omega) | (simp -iota; done) | decide)))); conv => whnf)
          refine AWP.loop (X := { k : Nat // k ≤ S.length }) (fun k => [(0, .iv (.sl 5 l.length fun i => callI (l.getD i default))), (3, .ptr 0 0), (4, .row 1 1 0 (m'.ws.length + 1)), (5, AV.int .i64 i), (215, .iv (.sl 2 S.length (snapF S))), (216, AV.int .i64 S.length), (217, AV.int .i64 k.1)]) (fun k => ⟨2, [(0, .sem (Nest m'.H)), (1, .rowc 34 1 (m'.ws.length + 1) (vrow m'.ws))]⟩) (fun k => S.length - k.1) (⟨0, by omega⟩) ?_ fun k => AWP.go (S := sch3) (cfgVOk _ _) (.of_eq (by kernel_rfl)) ?_
          · exact Ent.mk' [some 0, some 1] (by kernel_rfl) (by repeat' first | exact trivial | refine And.intro (AVE.refl _) ?_ | refine And.intro (AVE.int (by first | rfl | omega | (dsimp only; omega) | (simp -iota; omega) | (simp -iota; done))) ?_ | refine And.intro (AVE.bool (by assumption)) ?_ | refine And.intro (AVE.len (by first | rfl | omega | (dsimp only; omega) | (simp -iota; omega) | (simp -iota; done))) ?_) (by repeat' (first | exact trivial | refine ⟨⟨_, rfl, ChE.refl _⟩, ?_⟩))
          · obtain ⟨k, hk0⟩ := k
            have hkx : ((k : Nat) : Int).toNat = k := by simp
            (conv => whnf); repeat ((first | (refine And.intro ?_ ?_; (focus ((repeat' (first | exact trivial | refine And.intro rfl ?_)); done))) | (refine And.intro ?_ ?_; (focus (first | omega | (dsimp -iota only; omega) | (simp -iota; omega) | (simp -iota; done) | decide)))); conv => whnf)
            refine branchB_of (fun f2 => ?_) (fun f2 => ?_) <;> (first | replace f2 := not_t f2 | replace f2 := not_f f2 | skip) <;> (first | replace f2 := of_decide_eq_true f2 | replace f2 := of_decide_eq_false f2 | skip) <;> (first | replace f2 := Classical.not_not.1 f2 | skip) <;> (try dsimp only at f2)
            · have hklt : k < S.length := by omega
              obtain ⟨p, hp⟩ : ∃ p, p = S.getD ((k : Nat) : Int).toNat ([], 0) := ⟨_, rfl⟩
              have hpm : p ∈ m'.snaps := by rw [hp, hkx]; exact hSm k hklt
              have hpa := snaps_at hm' hk' hpm
              obtain ⟨hpv, hpe, hpq⟩ := hpa
              have hpq' : (S.getD ((k : Nat) : Int).toNat ([], 0)).2 ≤ m'.mark := hp ▸ hpq
              have hrise : 0 < k → Op.bytesLess (S.getD (((k : Nat) : Int) - 1).toNat ([], 0)).1 (S.getD ((k : Nat) : Int).toNat ([], 0)).1 = true := fun h => by
                have e1 : (((k : Nat) : Int) - 1).toNat = k - 1 := by omega
                have e2 : k - 1 + 1 = k := by omega
                have := hSr (k - 1) (by omega)
                rw [e1, hkx]
                rwa [e2] at this
              obtain ⟨L, hL⟩ : ∃ L, L = viewL (m'.ws.take p.2) := ⟨_, rfl⟩
              have hLn : L.length ≤ 1000 := hL ▸ viewL_len m' hm' _
              have hvr : vrow m'.ws (0 + ((((S.getD ((k : Nat) : Int).toNat ([], 0)).2 : Nat) : Int)).toNat) = [.sl 2 L.length (viewF L)] := by
                have e : 0 + ((((S.getD ((k : Nat) : Int).toNat ([], 0)).2 : Nat) : Int)).toNat = p.2 := by rw [hp]; omega
                unfold vrow
                rw [e, ← hL]
              have hv1 : AVE (.iv (.sl 2 (viewL (m'.ws.take (0 + ((((S.getD ((k : Nat) : Int).toNat ([], 0)).2 : Nat) : Int)).toNat))).length (viewF (viewL (m'.ws.take (0 + ((((S.getD ((k : Nat) : Int).toNat ([], 0)).2 : Nat) : Int)).toNat)))))) (.iv (.sl 2 L.length (viewF L))) := by
                have h := hvr
                unfold vrow at h
                injection h with h
                rw [h]
                exact AVE.refl _
              have hv2 : AVE (AV.int .i64 ((viewL (m'.ws.take (0 + ((((S.getD ((k : Nat) : Int).toNat ([], 0)).2 : Nat) : Int)).toNat))).length : Nat)) (AV.int .i64 (L.length : Nat)) := by
                have h := hvr
                unfold vrow at h
                injection h with h
                injection h with _ h
                rw [h]
                exact AVE.refl _
              have hch : ChE (.cells 42 [.str (S.getD ((k : Nat) : Int).toNat ([], 0)).1, .int .u64 ((S.getD ((k : Nat) : Int).toNat ([], 0)).2 : Nat)]) (.cells 42 [.str p.1, .int .u64 p.2]) := by rw [hp]; exact ChE.refl _
              (conv => whnf); repeat ((first | (refine And.intro ?_ ?_; (focus ((repeat' (first | exact trivial | refine And.intro rfl ?_)); done))) | (refine And.intro ?_ ?_; (focus (first | omega | (dsimp -iota only; omega) | (simp -iota; omega) | (simp -iota; done) | decide)))); conv => whnf)
              apply AWP.ahead (C := cfgV 309 0) ([(0, .iv (.sl 5 l.length fun i => callI (l.getD i default))), (3, .ptr 0 0), (4, .row 1 1 0 (m'.ws.length + 1)), (5, AV.int .i64 i), (21, .ptr 2 0), (215, .iv (.sl 2 S.length (snapF S))), (216, AV.int .i64 S.length), (217, AV.int .i64 k), (247, .iv (.sl 2 L.length (viewF L))), (248, AV.int .i64 L.length), (249, AV.int .i64 (0 : Nat))]) (⟨3, [(0, .sem (Nest m'.H)), (1, .rowc 34 1 (m'.ws.length + 1) (vrow m'.ws)), (2, .cells 42 [.str p.1, .int .u64 p.2])]⟩)
              · intro key
                refine And.intro ?_ ?_
                all_goals
                  (conv => whnf); repeat ((first | (refine And.intro ?_ ?_; (focus ((repeat' (first | exact trivial | refine And.intro rfl ?_)); done))) | (refine And.intro ?_ ?_; (focus (first | omega | (dsimp -iota only; omega) | (simp -iota; omega) | (simp -iota; done) | decide)))); conv => whnf)
                  refine AFn.use [0] (mark_ok m') (by kernel_rfl) rfl (by repeat' first | exact trivial | refine ⟨rfl, ?_⟩) fun _ => ?_
                  (conv => whnf); repeat ((first | (refine And.intro ?_ ?_; (focus ((repeat' (first | exact trivial | refine And.intro rfl ?_)); done))) | (refine And.intro ?_ ?_; (focus (first | omega | (dsimp -iota only; omega) | (simp -iota; omega) | (simp -iota; done) | decide)))); conv => whnf)
                  refine branchB_of (fun h => ?_) (fun h => ?_) <;> (first | replace h := not_t h | replace h := not_f h | skip) <;> (first | replace h := of_decide_eq_true h | replace h := of_decide_eq_false h | skip) <;> (first | replace h := Classical.not_not.1 h | skip) <;> (try dsimp only at h) <;> first | (exfalso; first | omega | contradiction | exact h rfl) | skip
                  (conv => whnf); repeat ((first | (refine And.intro ?_ ?_; (focus ((repeat' (first | exact trivial | refine And.intro rfl ?_)); done))) | (refine And.intro ?_ ?_; (focus (first | omega | (dsimp -iota only; omega) | (simp -iota; omega) | (simp -iota; done) | decide)))); conv => whnf)
                  refine branchB_of (fun f3 => ?_) (fun f3 => ?_) <;> (first | replace f3 := not_t f3 | replace f3 := not_f f3 | skip) <;> (first | replace f3 := of_decide_eq_true f3 | replace f3 := of_decide_eq_false f3 | skip) <;> (first | replace f3 := Classical.not_not.1 f3 | skip) <;> (try dsimp only at f3)
                  focus
                    (conv => whnf); repeat ((first | (refine And.intro ?_ ?_; (focus ((repeat' (first | exact trivial | refine And.intro rfl ?_)); done))) | (refine And.intro ?_ ?_; (focus (first | omega | (dsimp -iota only; omega) | (simp -iota; omega) | (simp -iota; done) | decide)))); conv => whnf)
                    refine And.intro ?_ ?_
                    all_goals
                      (conv => whnf); repeat ((first | (refine And.intro ?_ ?_; (focus ((repeat' (first | exact trivial | refine And.intro rfl ?_)); done))) | (refine And.intro ?_ ?_; (focus (first | omega | (dsimp -iota only; omega) | (simp -iota; omega) | (simp -iota; done) | decide)))); conv => whnf)
                      refine AFn.use [0] (list_y m' hm' S hS) (by kernel_rfl) rfl (by repeat' first | exact trivial | refine ⟨rfl, ?_⟩) fun _ => ?_
                      (conv => whnf); repeat ((first | (refine And.intro ?_ ?_; (focus ((repeat' (first | exact trivial | refine And.intro rfl ?_)); done))) | (refine And.intro ?_ ?_; (focus (first | omega | (dsimp -iota only; omega) | (simp -iota; omega) | (simp -iota; done) | decide)))); conv => whnf)
                      refine branchB_of (fun f4 => ?_) (fun f4 => ?_) <;> (first | replace f4 := not_t f4 | replace f4 := not_f f4 | skip) <;> (first | replace f4 := of_decide_eq_true f4 | replace f4 := of_decide_eq_false f4 | skip) <;> (first | replace f4 := Classical.not_not.1 f4 | skip) <;> (try dsimp only at f4)
                      · rw [hrise (by omega)] at f4; cases f4
                      (conv => whnf); repeat ((first | (refine And.intro ?_ ?_; (focus ((repeat' (first | exact trivial | refine And.intro rfl ?_)); done))) | (refine And.intro ?_ ?_; (focus (first | omega | (dsimp -iota only; omega) | (simp -iota; omega) | (simp -iota; done) | decide)))); conv => whnf)
                      refine AWP.of_ent ?_ key
                      exact Ent.mk' [some 0, some 1, some 2] (by kernel_rfl) ⟨AVE.refl _, AVE.refl _, AVE.refl _, AVE.refl _, AVE.refl _, AVE.refl _, AVE.refl _, AVE.refl _, hv1, hv2, AVE.refl _, trivial⟩ ⟨⟨_, rfl, ChE.refl _⟩, ⟨_, rfl, ChE.refl _⟩, ⟨_, rfl, hch⟩, trivial⟩
                  (conv => whnf); repeat ((first | (refine And.intro ?_ ?_; (focus ((repeat' (first | exact trivial | refine And.intro rfl ?_)); done))) | (refine And.intro ?_ ?_; (focus (first | omega | (dsimp -iota only; omega) | (simp -iota; omega) | (simp -iota; done) | decide)))); conv => whnf)
                  refine And.intro ?_ ?_
                  all_goals
                    (conv => whnf); repeat ((first | (refine And.intro ?_ ?_; (focus ((repeat' (first | exact trivial | refine And.intro rfl ?_)); done))) | (refine And.intro ?_ ?_; (focus (first | omega | (dsimp -iota only; omega) | (simp -iota; omega) | (simp -iota; done) | decide)))); conv => whnf)
                    refine AWP.of_ent ?_ key
                    exact Ent.mk' [some 0, some 1, some 2] (by kernel_rfl) ⟨AVE.refl _, AVE.refl _, AVE.refl _, AVE.refl _, AVE.refl _, AVE.refl _, AVE.refl _, AVE.refl _, hv1, hv2, AVE.refl _, trivial⟩ ⟨⟨_, rfl, ChE.refl _⟩, ⟨_, rfl, ChE.refl _⟩, ⟨_, rfl, hch⟩, trivial⟩
              refine AWP.loop (X := { x : Nat // x ≤ L.length }) (fun x => [(0, .iv (.sl 5 l.length fun i => callI (l.getD i default))), (3, .ptr 0 0), (4, .row 1 1 0 (m'.ws.length + 1)), (5, AV.int .i64 i), (21, .ptr 2 0), (215, .iv (.sl 2 S.length (snapF S))), (216, AV.int .i64 S.length), (217, AV.int .i64 k), (247, .iv (.sl 2 L.length (viewF L))), (248, AV.int .i64 L.length), (249, AV.int .i64 x.1)]) (fun x => ⟨3, [(0, .sem (Nest m'.H)), (1, .rowc 34 1 (m'.ws.length + 1) (vrow m'.ws)), (2, .cells 42 [.str p.1, .int .u64 p.2])]⟩) (fun x => L.length - x.1) (⟨0, by omega⟩) ?_ fun x => AWP.go (S := sch3) (cfgVOk _ _) (.of_eq (by kernel_rfl)) ?_
              · exact Ent.mk' [some 0, some 1, some 2] (by kernel_rfl) (by repeat' first | exact trivial | refine And.intro (AVE.refl _) ?_ | refine And.intro (AVE.int (by first | rfl | omega | (dsimp only; omega) | (simp -iota; omega) | (simp -iota; done))) ?_ | refine And.intro (AVE.bool (by assumption)) ?_ | refine And.intro (AVE.len (by first | rfl | omega | (dsimp only; omega) | (simp -iota; omega) | (simp -iota; done))) ?_) (by repeat' (first | exact trivial | refine ⟨⟨_, rfl, ChE.refl _⟩, ?_⟩))
              · obtain ⟨x, hx⟩ := x
                have hxx : ((x : Nat) : Int).toNat = x := by simp
                (conv => whnf); repeat ((first | (refine And.intro ?_ ?_; (focus ((repeat' (first | exact trivial | refine And.intro rfl ?_)); done))) | (refine And.intro ?_ ?_; (focus (first | omega | (dsimp -iota only; omega) | (simp -iota; omega) | (simp -iota; done) | decide)))); conv => whnf)
                refine branchB_of (fun f5 => ?_) (fun f5 => ?_) <;> (first | replace f5 := not_t f5 | replace f5 := not_f f5 | skip) <;> (first | replace f5 := of_decide_eq_true f5 | replace f5 := of_decide_eq_false f5 | skip) <;> (first | replace f5 := Classical.not_not.1 f5 | skip) <;> (try dsimp only at f5)
                · have hxl : x < L.length := by omega
                  have hpr : m'.at p.2 (L.getD ((x : Nat) : Int).toNat ([], [])).1 = some (L.getD ((x : Nat) : Int).toNat ([], [])).2 := by
                    rw [hxx]
                    refine (at_view hm' p.2 _ _).2 ?_
                    rw [← hL]
                    simp only [List.getD, List.getElem?_eq_getElem hxl, Option.getD_some]
                    exact List.getElem_mem hxl
                  have hga : m'.gat p.1 (L.getD ((x : Nat) : Int).toNat ([], [])).1 = some (L.getD ((x : Nat) : Int).toNat ([], [])).2 := gat_of hpv hpe hpr
                  have hge : m'.gatE p.1 (L.getD ((x : Nat) : Int).toNat ([], [])).1 = 0 := gatE_of hpv hpe hpr
                  (conv => whnf); repeat ((first | (refine And.intro ?_ ?_; (focus ((repeat' (first | exact trivial | refine And.intro rfl ?_)); done))) | (refine And.intro ?_ ?_; (focus (first | omega | (dsimp -iota only; omega) | (simp -iota; omega) | (simp -iota; done) | decide)))); conv => whnf)
                  refine AFn.use [0] (gat_x m' hm' p.1 (L.getD ((x : Nat) : Int).toNat ([], [])).1) (by kernel_rfl) rfl (by repeat' first | exact trivial | refine ⟨rfl, ?_⟩) fun o => ?_
                  obtain ⟨o, ho⟩ := o
                  have ho' := ho.trans hga
                  subst ho'
                  (conv => whnf); repeat ((first | (refine And.intro ?_ ?_; (focus ((repeat' (first | exact trivial | refine And.intro rfl ?_)); done))) | (refine And.intro ?_ ?_; (focus (first | omega | (dsimp -iota only; omega) | (simp -iota; omega) | (simp -iota; done) | decide)))); conv => whnf)
                  refine branchB_of (fun f6 => ?_) (fun f6 => ?_) <;> (first | replace f6 := not_t f6 | replace f6 := not_f f6 | skip) <;> (first | replace f6 := of_decide_eq_true f6 | replace f6 := of_decide_eq_false f6 | skip) <;> (first | replace f6 := Classical.not_not.1 f6 | skip) <;> (try dsimp only at f6)
                  · exact absurd hge f6
                  (conv => whnf); repeat ((first | (refine And.intro ?_ ?_; (focus ((repeat' (first | exact trivial | refine And.intro rfl ?_)); done))) | (refine And.intro ?_ ?_; (focus (first | omega | (dsimp -iota only; omega) | (simp -iota; omega) | (simp -iota; done) | decide)))); conv => whnf)
                  refine branchB_of (fun f7 => ?_) (fun f7 => ?_) <;> (first | replace f7 := not_t f7 | replace f7 := not_f f7 | skip) <;> (first | replace f7 := of_decide_eq_true f7 | replace f7 := of_decide_eq_false f7 | skip) <;> (first | replace f7 := Classical.not_not.1 f7 | skip) <;> (try dsimp only at f7)
                  · exact absurd rfl f7
                  (conv => whnf); repeat ((first | (refine And.intro ?_ ?_; (focus ((repeat' (first | exact trivial | refine And.intro rfl ?_)); done))) | (refine And.intro ?_ ?_; (focus (first | omega | (dsimp -iota only; omega) | (simp -iota; omega) | (simp -iota; done) | decide)))); conv => whnf)
                  refine ⟨⟨x + 1, by omega⟩, Ent.mk' [some 0, some 1, some 2] (by kernel_rfl) (by repeat' first | exact trivial | refine And.intro (AVE.refl _) ?_ | refine And.intro (AVE.int (by first | rfl | omega | (dsimp only; omega) | (simp -iota; omega) | (simp -iota; done))) ?_ | refine And.intro (AVE.bool (by assumption)) ?_ | refine And.intro (AVE.len (by first | rfl | omega | (dsimp only; omega) | (simp -iota; omega) | (simp -iota; done))) ?_) (by repeat' (first | exact trivial | refine ⟨⟨_, rfl, ChE.refl _⟩, ?_⟩)), ?_⟩
                  show L.length - (x + 1) < L.length - x
                  omega
                · (conv => whnf); repeat ((first | (refine And.intro ?_ ?_; (focus ((repeat' (first | exact trivial | refine And.intro rfl ?_)); done))) | (refine And.intro ?_ ?_; (focus (first | omega | (dsimp -iota only; omega) | (simp -iota; omega) | (simp -iota; done) | decide)))); conv => whnf)
                  refine AFn.use [0] (gat_x m' hm' p.1 nev) (by kernel_rfl) rfl (by repeat' first | exact trivial | refine ⟨rfl, ?_⟩) fun o => ?_
                  obtain ⟨o, ho⟩ := o
                  have hgn := gat_nev m' hm' hpv hpe
                  have hqs : p.2 ≤ 18446744073709551615 := by omega
                  cases o with
                  | none =>
                    have hgE := hgn.1 ho.symm
                    (conv => whnf); repeat ((first | (refine And.intro ?_ ?_; (focus ((repeat' (first | exact trivial | refine And.intro rfl ?_)); done))) | (refine And.intro ?_ ?_; (focus (first | omega | (dsimp -iota only; omega) | (simp -iota; omega) | (simp -iota; done) | decide)))); conv => whnf)
                    refine branchB_of (fun f6 => ?_) (fun f6 => ?_) <;> (first | replace f6 := not_t f6 | replace f6 := not_f f6 | skip) <;> (first | replace f6 := of_decide_eq_true f6 | replace f6 := of_decide_eq_false f6 | skip) <;> (first | replace f6 := Classical.not_not.1 f6 | skip) <;> (try dsimp only at f6)
                    · exact absurd hgE f6
                    (conv => whnf); repeat ((first | (refine And.intro ?_ ?_; (focus ((repeat' (first | exact trivial | refine And.intro rfl ?_)); done))) | (refine And.intro ?_ ?_; (focus (first | omega | (dsimp -iota only; omega) | (simp -iota; omega) | (simp -iota; done) | decide)))); conv => whnf)
                    refine ⟨⟨k + 1, by omega⟩, Ent.mk' [some 0, some 1] (by kernel_rfl) (by repeat' first | exact trivial | refine And.intro (AVE.refl _) ?_ | refine And.intro (AVE.int (by first | rfl | omega | (dsimp only; omega) | (simp -iota; omega) | (simp -iota; done))) ?_ | refine And.intro (AVE.bool (by assumption)) ?_ | refine And.intro (AVE.len (by first | rfl | omega | (dsimp only; omega) | (simp -iota; omega) | (simp -iota; done))) ?_) (by repeat' (first | exact trivial | refine ⟨⟨_, rfl, ChE.refl _⟩, ?_⟩)), ?_⟩
                    show S.length - (k + 1) < S.length - k
                    omega
                  | some v =>
                    have hgE := hgn.2 v ho.symm
                    obtain ⟨hg1, hg2, hg3⟩ := hgE
                    (conv => whnf); repeat ((first | (refine And.intro ?_ ?_; (focus ((repeat' (first | exact trivial | refine And.intro rfl ?_)); done))) | (refine And.intro ?_ ?_; (focus (first | omega | (dsimp -iota only; omega) | (simp -iota; omega) | (simp -iota; done) | decide)))); conv => whnf)
                    refine branchB_of (fun f6 => ?_) (fun f6 => ?_) <;> (first | replace f6 := not_t f6 | replace f6 := not_f f6 | skip) <;> (first | replace f6 := of_decide_eq_true f6 | replace f6 := of_decide_eq_false f6 | skip) <;> (first | replace f6 := Classical.not_not.1 f6 | skip) <;> (try dsimp only at f6)
                    · (conv => whnf); repeat ((first | (refine And.intro ?_ ?_; (focus ((repeat' (first | exact trivial | refine And.intro rfl ?_)); done))) | (refine And.intro ?_ ?_; (focus (first | omega | (dsimp -iota only; omega) | (simp -iota; omega) | (simp -iota; done) | decide)))); conv => whnf)
                      refine AFn.use [0] (at_ok m' hm' p.2 nev hqs) (by kernel_rfl) rfl (by repeat' first | exact trivial | refine ⟨rfl, ?_⟩) fun _ => ?_
                      (conv => whnf); repeat ((first | (refine And.intro ?_ ?_; (focus ((repeat' (first | exact trivial | refine And.intro rfl ?_)); done))) | (refine And.intro ?_ ?_; (focus (first | omega | (dsimp -iota only; omega) | (simp -iota; omega) | (simp -iota; done) | decide)))); conv => whnf)
                      refine branchB_of (fun f7 => ?_) (fun f7 => ?_) <;> (first | replace f7 := not_t f7 | replace f7 := not_f f7 | skip) <;> (first | replace f7 := of_decide_eq_true f7 | replace f7 := of_decide_eq_false f7 | skip) <;> (first | replace f7 := Classical.not_not.1 f7 | skip) <;> (try dsimp only at f7)
                      · exact absurd (hg1.trans hg2.symm) f7
                      (conv => whnf); repeat ((first | (refine And.intro ?_ ?_; (focus ((repeat' (first | exact trivial | refine And.intro rfl ?_)); done))) | (refine And.intro ?_ ?_; (focus (first | omega | (dsimp -iota only; omega) | (simp -iota; omega) | (simp -iota; done) | decide)))); conv => whnf)
                      refine branchB_of (fun f8 => ?_) (fun f8 => ?_) <;> (first | replace f8 := not_t f8 | replace f8 := not_f f8 | skip) <;> (first | replace f8 := of_decide_eq_true f8 | replace f8 := of_decide_eq_false f8 | skip) <;> (first | replace f8 := Classical.not_not.1 f8 | skip) <;> (try dsimp only at f8)
                      · exact absurd hg3 f8
                      (conv => whnf); repeat ((first | (refine And.intro ?_ ?_; (focus ((repeat' (first | exact trivial | refine And.intro rfl ?_)); done))) | (refine And.intro ?_ ?_; (focus (first | omega | (dsimp -iota only; omega) | (simp -iota; omega) | (simp -iota; done) | decide)))); conv => whnf)
                      refine ⟨⟨k + 1, by omega⟩, Ent.mk' [some 0, some 1] (by kernel_rfl) (by repeat' first | exact trivial | refine And.intro (AVE.refl _) ?_ | refine And.intro (AVE.int (by first | rfl | omega | (dsimp only; omega) | (simp -iota; omega) | (simp -iota; done))) ?_ | refine And.intro (AVE.bool (by assumption)) ?_ | refine And.intro (AVE.len (by first | rfl | omega | (dsimp only; omega) | (simp -iota; omega) | (simp -iota; done))) ?_) (by repeat' (first | exact trivial | refine ⟨⟨_, rfl, ChE.refl _⟩, ?_⟩)), ?_⟩
                      show S.length - (k + 1) < S.length - k
                      omega
                    · exact absurd (f6.symm.trans hg1) (by decide)
            · (conv => whnf); repeat ((first | (refine And.intro ?_ ?_; (focus ((repeat' (first | exact trivial | refine And.intro rfl ?_)); done))) | (refine And.intro ?_ ?_; (focus (first | omega | (dsimp -iota only; omega) | (simp -iota; omega) | (simp -iota; done) | decide)))); conv => whnf)
              refine ⟨⟨i + 1, m', by omega, by omega, hm', by omega, hk'⟩, Ent.mk' [some 0, some 1] (by kernel_rfl) (by repeat' first | exact trivial | refine And.intro (AVE.refl _) ?_ | refine And.intro (AVE.int (by first | rfl | omega | (dsimp only; omega) | (simp -iota; omega) | (simp -iota; done))) ?_ | refine And.intro (AVE.bool (by assumption)) ?_ | refine And.intro (AVE.len (by first | rfl | omega | (dsimp only; omega) | (simp -iota; omega) | (simp -iota; done))) ?_) (by repeat' (first | exact trivial | refine ⟨⟨_, rfl, ChE.refl _⟩, ?_⟩)), ?_⟩
              show 40 - (i + 1) < 40 - i
              omega
end Go.Proofs.Ytaoambbfjdijjaa.Ax
