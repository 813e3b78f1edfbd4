/-
  Chapter 19: SnapsLive, the walk.
-/
import Derived.Test.YtoofmkkcaoojiaaSb
import Derived.Test.YtoofmkkcaoojiaaBxZc
namespace Go.Proofs.Ytoofmkkcaoojiaa.Ax
open Go.RowKit
set_option maxRecDepth 100000
structure Act where
  w : Int
  s : List UInt8
  q : Nat
instance : Inhabited Act := ⟨⟨0, [], 0⟩⟩
def actI (c : Act) : List IV := [.v (.int .i64 c.w), .str c.s, .v (.int .u64 c.q)]
/-- Rows of snapshots are compared. -/
theorem nq_ext {A B : List NQ} (h : A.length = B.length) (hj : ∀ j, j < A.length → A.getD j ([], 0) = B.getD j ([], 0)) : A = B := by
  refine List.ext_getElem h fun j h1 h2 => ?_
  have := hj j h1
  simpa [List.getD, h1, h2] using this
theorem equal_ok (A B : List NQ) (hA : A.length ≤ 1000) (hB : B.length ≤ 1000) : AFn Go.Proofs.Try.prog 10 [.iv (.sl 2 A.length (nqF A)), .iv (.sl 2 B.length (nqF B))] ⟨0, []⟩ (fun _ : Unit => AV.bool (decide (A = B))) (fun _ => ⟨0, []⟩) := by
  refine ACall.walk (C := cfg 26 0) (cfgOk _ _) sch10 (fn := Go.Proofs.Try.f10) (by kernel_rfl) (by kernel_rfl) rfl (by kernel_rfl) (by kernel_rfl) rfl rfl ?_
  (conv => whnf); repeat ((first | (refine And.intro ?_ ?_; (focus ((repeat' (first | exact trivial | refine And.intro rfl ?_)); done))) | (refine And.intro ?_ ?_; (focus (first | omega | (dsimp -iota only; omega) | (simp -iota; omega) | (simp -iota; done) | decide)))); conv => whnf)
  refine branchB_of (fun h => ?_) (fun h => ?_) <;> (first | replace h := not_t h | replace h := not_f h | skip) <;> (first | replace h := of_decide_eq_true h | replace h := of_decide_eq_false h | skip) <;> (first | replace h := Classical.not_not.1 h | skip) <;> (try dsimp only at h)
  · (conv => whnf); repeat ((first | (refine And.intro ?_ ?_; (focus ((repeat' (first | exact trivial | refine And.intro rfl ?_)); done))) | (refine And.intro ?_ ?_; (focus (first | omega | (dsimp -iota only; omega) | (simp -iota; omega) | (simp -iota; done) | decide)))); conv => whnf)
    refine ⟨(), ?_, rfl⟩
    congr 3
    exact (decide_eq_false fun e => by subst e; exact h rfl).symm
  · have hl : A.length = B.length := by omega
    (conv => whnf); repeat ((first | (refine And.intro ?_ ?_; (focus ((repeat' (first | exact trivial | refine And.intro rfl ?_)); done))) | (refine And.intro ?_ ?_; (focus (first | omega | (dsimp -iota only; omega) | (simp -iota; omega) | (simp -iota; done) | decide)))); conv => whnf)
    refine AWP.loop (X := { x : Nat // x ≤ A.length ∧ ∀ j, j < x → A.getD j ([], 0) = B.getD j ([], 0) }) (fun x => [(0, .iv (.sl 2 A.length (nqF A))), (1, .iv (.sl 2 B.length (nqF B))), (12, AV.int .i64 A.length), (13, AV.int .i64 x.1)]) (fun x => ⟨0, []⟩) (fun x => A.length - x.1) (⟨0, by omega, fun j hj => by omega⟩) ?_ fun x => AWP.go (S := sch10) (cfgOk _ _) (.of_eq (by kernel_rfl)) ?_
    · exact Ent.mk' [] (by kernel_rfl) (by repeat' first | exact trivial | refine And.intro (AVE.refl _) ?_ | refine And.intro (AVE.int (by first | rfl | omega | (dsimp only; omega) | (simp -iota; omega) | (simp -iota; done))) ?_ | refine And.intro (AVE.bool (by assumption)) ?_ | refine And.intro (AVE.len (by first | rfl | omega | (dsimp only; omega) | (simp -iota; omega) | (simp -iota; done))) ?_) (by repeat' (first | exact trivial | refine ⟨⟨_, rfl, ChE.refl _⟩, ?_⟩))
    · obtain ⟨x, hx, hj⟩ := x
      have hxx : ((x : Nat) : Int).toNat = x := by simp
      (conv => whnf); repeat ((first | (refine And.intro ?_ ?_; (focus ((repeat' (first | exact trivial | refine And.intro rfl ?_)); done))) | (refine And.intro ?_ ?_; (focus (first | omega | (dsimp -iota only; omega) | (simp -iota; omega) | (simp -iota; done) | decide)))); conv => whnf)
      refine branchB_of (fun g => ?_) (fun g => ?_) <;> (first | replace g := not_t g | replace g := not_f g | skip) <;> (first | replace g := of_decide_eq_true g | replace g := of_decide_eq_false g | skip) <;> (first | replace g := Classical.not_not.1 g | skip) <;> (try dsimp only at g)
      · (conv => whnf); repeat ((first | (refine And.intro ?_ ?_; (focus ((repeat' (first | exact trivial | refine And.intro rfl ?_)); done))) | (refine And.intro ?_ ?_; (focus (first | omega | (dsimp -iota only; omega) | (simp -iota; omega) | (simp -iota; done) | decide)))); conv => whnf)
        refine branchB_of (fun g2 => ?_) (fun g2 => ?_) <;> (first | replace g2 := not_t g2 | replace g2 := not_f g2 | skip) <;> (first | replace g2 := of_decide_eq_true g2 | replace g2 := of_decide_eq_false g2 | skip) <;> (first | replace g2 := Classical.not_not.1 g2 | skip) <;> (try dsimp only at g2)
        · have hne : A ≠ B := fun e => by
            subst e
            simp at g2
          (conv => whnf); repeat ((first | (refine And.intro ?_ ?_; (focus ((repeat' (first | exact trivial | refine And.intro rfl ?_)); done))) | (refine And.intro ?_ ?_; (focus (first | omega | (dsimp -iota only; omega) | (simp -iota; omega) | (simp -iota; done) | decide)))); conv => whnf)
          refine ⟨(), ?_, rfl⟩
          congr 3
          exact (decide_eq_false hne).symm
        · rw [hxx] at g2
          simp only [Bool.and_eq_true, decide_eq_true_eq, and_true] at g2
          (conv => whnf); repeat ((first | (refine And.intro ?_ ?_; (focus ((repeat' (first | exact trivial | refine And.intro rfl ?_)); done))) | (refine And.intro ?_ ?_; (focus (first | omega | (dsimp -iota only; omega) | (simp -iota; omega) | (simp -iota; done) | decide)))); conv => whnf)
          refine ⟨⟨x + 1, by omega, fun j hj' => ?_⟩, Ent.mk' [] (by kernel_rfl) (by repeat' first | exact trivial | refine And.intro (AVE.refl _) ?_ | refine And.intro (AVE.int (by first | rfl | omega | (dsimp only; omega) | (simp -iota; omega) | (simp -iota; done))) ?_ | refine And.intro (AVE.bool (by assumption)) ?_ | refine And.intro (AVE.len (by first | rfl | omega | (dsimp only; omega) | (simp -iota; omega) | (simp -iota; done))) ?_) (by repeat' (first | exact trivial | refine ⟨⟨_, rfl, ChE.refl _⟩, ?_⟩)), ?_⟩
          · by_cases e : j = x
            · subst e
              exact Prod.ext g2.1 (by have := g2.2; omega)
            · exact hj j (by omega)
          · show A.length - (x + 1) < A.length - x
            omega
      · (conv => whnf); repeat ((first | (refine And.intro ?_ ?_; (focus ((repeat' (first | exact trivial | refine And.intro rfl ?_)); done))) | (refine And.intro ?_ ?_; (focus (first | omega | (dsimp -iota only; omega) | (simp -iota; omega) | (simp -iota; done) | decide)))); conv => whnf)
        refine ⟨(), ?_, rfl⟩
        congr 3
        exact (decide_eq_true (nq_ext hl fun j hjl => hj j (by omega))).symm
def mk (p : Pin) : IV := .v (.int .u64 p.2)
def gm (G : List Nat) : List (MK × IV) := G.map fun g : Nat => (MK.i .u64 (g : Int), IV.v (.bool true))
def gput (G : List Nat) (g : Nat) : List Nat := if g ∈ G then G else G ++ [g]
theorem mput_gm : ∀ (G : List Nat) (g : Nat), mput (gm G) (.i .u64 g) (.v (.bool true)) = gm (gput G g)
  | [], g => by simp [gm, mput, gput]
  | a :: G, g => by
    have ih := mput_gm G g
    unfold gm at ih ⊢
    simp only [List.map_cons, mput, MK.i.injEq, true_and, Int.natCast_inj]
    by_cases h : a = g
    · subst h
      simp [gput]
    · have h2 : (gput (a :: G) g) = a :: gput G g := by
        unfold gput
        by_cases hg : g ∈ G
        · simp [hg]
        · simp [hg, Ne.symm h]
      rw [if_neg h, h2, ih]
      rfl
theorem mem_gput {G : List Nat} {g a : Nat} : a ∈ gput G g ↔ a ∈ G ∨ a = g := by
  unfold gput
  split
  · constructor
    · exact .inl
    · rintro (h | rfl)
      · exact h
      · assumption
  · simp
theorem mput_mk (l : List (List UInt8 × Pin)) (x : List UInt8) (q n : Nat) : mput (smap mk l) (.s x) (.v (.int .u64 (n : Nat))) = smap mk (aput l x (q, n)) := mput_smap mk x (q, n) l
noncomputable def cfgL (N b : Nat) : Cfg := { P := Go.Proofs.Try.prog, T := tt, wr := false, N := N, pure := [], base := b }
theorem cfgLOk (N b : Nat) : (cfgL N b).Ok := ⟨ttOk, ttBytes, by kernel_rfl⟩
def goneOk (s : SN) (G : List Nat) : Prop := ∀ g ∈ G, g ≤ s.n ∧ ∀ p ∈ s.l, p.2.2 ≠ g
structure LV (l : List Act) where
  i : Nat
  s : SN
  G : List Nat
  hi : i ≤ 80
  hil : i ≤ l.length
  hs : s.Ok
  hn : s.n ≤ i
  hG : goneOk s G
structure LM (i : Nat) where
  s : SN
  G : List Nat
  hs : s.Ok
  hn : s.n ≤ i + 1
  hG : goneOk s G
theorem gone_add {s : SN} {G : List Nat} {x : List UInt8} {q : Nat} (h : s.addE x q = 0) (hG : goneOk s G) : goneOk (s.add x q) G := by
  rw [add_l s h]
  intro g hg
  obtain ⟨h1, h2⟩ := hG g hg
  refine ⟨by simp only; omega, fun p hp => ?_⟩
  rcases List.mem_append.1 hp with hp | hp
  · exact h2 p hp
  · simp only [List.mem_singleton] at hp
    subst hp
    simp only
    omega
theorem gone_drop {s : SN} (hs : s.Ok) {G : List Nat} {x : List UInt8} {p : Pin} (h : afind s.l x = some p) (hG : goneOk s G) : goneOk (s.drop x) (gput G p.2) := by
  have e : s.drop x = ⟨adel s.l x, s.n⟩ := if_pos (findE_there s hs h)
  rw [e]
  have hm := afind_mem h
  intro g hg
  rcases mem_gput.1 hg with hg | rfl
  · obtain ⟨h1, h2⟩ := hG g hg
    exact ⟨h1, fun r hr => h2 r (List.mem_filter.1 hr).1⟩
  · refine ⟨hs.mark _ hm, fun r hr e2 => ?_⟩
    obtain ⟨hr1, hr2⟩ := List.mem_filter.1 hr
    have a1 := lives_some s hs hr1
    have a2 := lives_some s hs hm
    rw [e2] at a1
    simp only at a2
    rw [a2] at a1
    injection a1 with a1
    subst a1
    simp at hr2
theorem equal_self (A : List NQ) (hA : A.length ≤ 1000) : AFn Go.Proofs.Try.prog 10 [.iv (.sl 2 A.length (nqF A)), .iv (.sl 2 A.length (nqF A))] ⟨0, []⟩ (fun _ : Unit => AV.bool true) (fun _ => ⟨0, []⟩) := by
  have h := equal_ok A A hA hA
  rw [decide_eq_true rfl] at h
  exact h
/-- What is shown of a loop ahead once, at a family of states. -/
theorem AWP.aheadF {P : Prop} {C : Cfg} {b : Code} {q : Post} {Y : Type} (TE : Y → Env) (TH : Y → AH) (h : (∀ y, AWP C b (TE y) (TH y) q) → P) (k : ∀ y, AWP C b (TE y) (TH y) q) : P := h k
set_option maxHeartbeats 1000000 in
theorem live_law (l : List Act) (hq : ∀ c ∈ l, c.q ≤ 18446744073709551615) (hwakes : AFn Go.Proofs.Try.prog 12 [] ⟨0, []⟩ (fun _ : Unit => AV.bool true) (fun _ => ⟨0, []⟩)) : Law Go.Proofs.Try.prog 4 [.iv (.sl 3 l.length fun i => actI (l.getD i default))] := by
  refine ACall.fin ?_
  refine ACall.walkF (C := cfgL 164 0) (cfgLOk _ _) [] (fn := Go.Proofs.Try.f4) (by kernel_rfl) (by kernel_rfl) rfl (by kernel_rfl) (by kernel_rfl) rfl rfl fun hlen hheap => ?_
  obtain ⟨hl1, _⟩ := hlen
  simp only [lenF] at hl1
  (conv => whnf); repeat ((first | (refine And.intro ?_ ?_; (focus ((repeat' (first | exact trivial | refine And.intro rfl ?_)); done))) | (refine And.intro ?_ ?_; (focus (first | omega | (dsimp -iota only; omega) | (simp -iota; omega) | (simp -iota; done) | decide)))); conv => whnf)
  refine AFn.use [] (new_ok) (by kernel_rfl) rfl (by repeat' first | exact trivial | refine ⟨rfl, ?_⟩) fun _ => ?_
  (conv => whnf); repeat ((first | (refine And.intro ?_ ?_; (focus ((repeat' (first | exact trivial | refine And.intro rfl ?_)); done))) | (refine And.intro ?_ ?_; (focus (first | omega | (dsimp -iota only; omega) | (simp -iota; omega) | (simp -iota; done) | decide)))); conv => whnf)
  refine AWP.merge (Y := Unit) (fun u => []) (fun u => ⟨0, []⟩) 0 (fun u => ?_) ?_
  · (conv => whnf); repeat ((first | (refine And.intro ?_ ?_; (focus ((repeat' (first | exact trivial | refine And.intro rfl ?_)); done))) | (refine And.intro ?_ ?_; (focus (first | omega | (dsimp -iota only; omega) | (simp -iota; omega) | (simp -iota; done) | decide)))); conv => whnf)
    refine AFn.use [] (hwakes) (by kernel_rfl) rfl (by repeat' first | exact trivial | refine ⟨rfl, ?_⟩) fun _ => ?_
    (conv => whnf); repeat ((first | (refine And.intro ?_ ?_; (focus ((repeat' (first | exact trivial | refine And.intro rfl ?_)); done))) | (refine And.intro ?_ ?_; (focus (first | omega | (dsimp -iota only; omega) | (simp -iota; omega) | (simp -iota; done) | decide)))); conv => whnf)
    exact ⟨_, _, Ent.mk' (e' := [(0, AV.bool true)]) (H' := ⟨0, []⟩) [] (by kernel_rfl) ⟨AVE.of_eq rfl, trivial⟩ trivial, (), rfl, rfl⟩
  refine AWP.loop (X := LV l) (fun x => [(0, .iv (.sl 3 l.length fun i => actI (l.getD i default))), (3, .ptr 0 0), (4, .mp 1), (5, AV.int .u64 x.s.n), (6, .mp 2), (26, .iv (.sl 3 l.length fun i => actI (l.getD i default))), (27, AV.int .i64 l.length), (28, AV.int .i64 x.i)]) (fun x => ⟨3, [(0, .sem (Nest x.s.H)), (1, .map none (smap mk x.s.l)), (2, .map (some .u64) (gm x.G))]⟩) (fun x => 80 - x.i) (⟨0, ⟨[], 0⟩, [], by omega, by omega, ⟨by simp, by simp, by simp, by simp, by simp, by simp, by simp, by simp⟩, by simp, fun g hg => by cases hg⟩) ?_ fun x => AWP.go (S := []) (cfgLOk _ _) (.of_eq (by kernel_rfl)) ?_
  · exact Ent.mk' [some 0, some 1, some 2] (by kernel_rfl) (by repeat' first | exact trivial | refine And.intro (AVE.refl _) ?_ | refine And.intro (AVE.int (by first | rfl | omega | (dsimp only; omega) | (simp -iota; omega) | (simp -iota; done))) ?_ | refine And.intro (AVE.bool (by assumption)) ?_ | refine And.intro (AVE.len (by first | rfl | omega | (dsimp only; omega) | (simp -iota; omega) | (simp -iota; done))) ?_) (by repeat' (first | exact trivial | refine ⟨⟨_, rfl, ChE.refl _⟩, ?_⟩))
  · obtain ⟨i, s, G, hi, hil, hs, hn, hG⟩ := x
    have hix : ((i : Nat) : Int).toNat = i := by simp
    have hsl : s.list.length ≤ 1000 := by rw [SN.list, listS_length]; simp [SN.nqs]; have := hs.len; omega
    (conv => whnf); repeat ((first | (refine And.intro ?_ ?_; (focus ((repeat' (first | exact trivial | refine And.intro rfl ?_)); done))) | (refine And.intro ?_ ?_; (focus (first | omega | (dsimp -iota only; omega) | (simp -iota; omega) | (simp -iota; done) | decide)))); conv => whnf)
    refine branchB_of (fun h0 => ?_) (fun h0 => ?_) <;> (first | replace h0 := not_t h0 | replace h0 := not_f h0 | skip) <;> (first | replace h0 := of_decide_eq_true h0 | replace h0 := of_decide_eq_false h0 | skip) <;> (first | replace h0 := Classical.not_not.1 h0 | skip) <;> (try dsimp only at h0)
    rotate_left
    · (conv => whnf); repeat ((first | (refine And.intro ?_ ?_; (focus ((repeat' (first | exact trivial | refine And.intro rfl ?_)); done))) | (refine And.intro ?_ ?_; (focus (first | omega | (dsimp -iota only; omega) | (simp -iota; omega) | (simp -iota; done) | decide)))); conv => whnf)
      exact ⟨(), Ent.mk' [] (by kernel_rfl) (by repeat' first | exact trivial | refine And.intro (AVE.refl _) ?_ | refine And.intro (AVE.int (by first | rfl | omega | (dsimp only; omega) | (simp -iota; omega) | (simp -iota; done))) ?_ | refine And.intro (AVE.bool (by assumption)) ?_ | refine And.intro (AVE.len (by first | rfl | omega | (dsimp only; omega) | (simp -iota; omega) | (simp -iota; done))) ?_) (by repeat' (first | exact trivial | refine ⟨⟨_, rfl, ChE.refl _⟩, ?_⟩))⟩
    (conv => whnf); repeat ((first | (refine And.intro ?_ ?_; (focus ((repeat' (first | exact trivial | refine And.intro rfl ?_)); done))) | (refine And.intro ?_ ?_; (focus (first | omega | (dsimp -iota only; omega) | (simp -iota; omega) | (simp -iota; done) | decide)))); conv => whnf)
    refine branchB_of (fun h => ?_) (fun h => ?_) <;> (first | replace h := not_t h | replace h := not_f h | skip) <;> (first | replace h := of_decide_eq_true h | replace h := of_decide_eq_false h | skip) <;> (first | replace h := Classical.not_not.1 h | skip) <;> (try dsimp only at h)
    · (conv => whnf); repeat ((first | (refine And.intro ?_ ?_; (focus ((repeat' (first | exact trivial | refine And.intro rfl ?_)); done))) | (refine And.intro ?_ ?_; (focus (first | omega | (dsimp -iota only; omega) | (simp -iota; omega) | (simp -iota; done) | decide)))); conv => whnf)
      exact ⟨(), Ent.mk' [] (by kernel_rfl) (by repeat' first | exact trivial | refine And.intro (AVE.refl _) ?_ | refine And.intro (AVE.int (by first | rfl | omega | (dsimp only; omega) | (simp -iota; omega) | (simp -iota; done))) ?_ | refine And.intro (AVE.bool (by assumption)) ?_ | refine And.intro (AVE.len (by first | rfl | omega | (dsimp only; omega) | (simp -iota; omega) | (simp -iota; done))) ?_) (by repeat' (first | exact trivial | refine ⟨⟨_, rfl, ChE.refl _⟩, ?_⟩))⟩
    (conv => whnf); repeat ((first | (refine And.intro ?_ ?_; (focus ((repeat' (first | exact trivial | refine And.intro rfl ?_)); done))) | (refine And.intro ?_ ?_; (focus (first | omega | (dsimp -iota only; omega) | (simp -iota; omega) | (simp -iota; done) | decide)))); conv => whnf)
    have hcq : (l.getD ((i : Nat) : Int).toNat default).q ≤ 18446744073709551615 := by
      have hlt : i < l.length := by omega
      rw [hix]
      simp only [List.getD, List.getElem?_eq_getElem hlt, Option.getD_some]
      exact hq _ (List.getElem_mem hlt)
    generalize l.getD ((i : Nat) : Int).toNat default = c at *
    refine AFn.use [0] (list_ok s hs) (by kernel_rfl) rfl (by repeat' first | exact trivial | refine ⟨rfl, ?_⟩) fun _ => ?_
    (conv => whnf); repeat ((first | (refine And.intro ?_ ?_; (focus ((repeat' (first | exact trivial | refine And.intro rfl ?_)); done))) | (refine And.intro ?_ ?_; (focus (first | omega | (dsimp -iota only; omega) | (simp -iota; omega) | (simp -iota; done) | decide)))); conv => whnf)
    generalize hnm : ((c.s.drop (0 : Int).toNat).take ((min (c.s.length : Int) 40).toNat - (0 : Int).toNat)) = nm
    apply AWP.aheadF (C := cfgL 164 0) (Y := LM i) (fun y => [(0, .iv (.sl 3 l.length fun i => actI (l.getD i default))), (3, .ptr 0 0), (4, .mp 1), (5, AV.int .u64 y.s.n), (6, .mp 2), (26, .iv (.sl 3 l.length fun i => actI (l.getD i default))), (27, AV.int .i64 l.length), (28, AV.int .i64 i), (129, .ptr 3 0)]) (fun y => ⟨4, [(0, .sem (Nest y.s.H)), (1, .mapit none (smap mk y.s.l) ((smap mk y.s.l).map (·.1)) 3 none), (2, .map (some .u64) (gm y.G))]⟩)
    intro key1
    apply AWP.aheadF (C := cfgL 164 0) (Y := LM i) (fun y => [(0, .iv (.sl 3 l.length fun i => actI (l.getD i default))), (3, .ptr 0 0), (4, .mp 1), (5, AV.int .u64 y.s.n), (6, .mp 2), (26, .iv (.sl 3 l.length fun i => actI (l.getD i default))), (27, AV.int .i64 l.length), (28, AV.int .i64 i), (129, .ptr 3 0)]) (fun y => ⟨4, [(0, .sem (Nest y.s.H)), (1, .mapit none (smap mk y.s.l) ((smap mk y.s.l).map (·.1)) 3 none), (2, .map (some .u64) (gm y.G))]⟩)
    intro key2
    apply AWP.aheadF (C := cfgL 164 0) (Y := LM i) (fun y => [(0, .iv (.sl 3 l.length fun i => actI (l.getD i default))), (3, .ptr 0 0), (4, .mp 1), (5, AV.int .u64 y.s.n), (6, .mp 2), (26, .iv (.sl 3 l.length fun i => actI (l.getD i default))), (27, AV.int .i64 l.length), (28, AV.int .i64 i), (129, .ptr 3 0)]) (fun y => ⟨4, [(0, .sem (Nest y.s.H)), (1, .mapit none (smap mk y.s.l) ((smap mk y.s.l).map (·.1)) 3 none), (2, .map (some .u64) (gm y.G))]⟩)
    intro key3
    apply AWP.aheadF (C := cfgL 164 0) (Y := LM i) (fun y => [(0, .iv (.sl 3 l.length fun i => actI (l.getD i default))), (3, .ptr 0 0), (4, .mp 1), (5, AV.int .u64 y.s.n), (6, .mp 2), (26, .iv (.sl 3 l.length fun i => actI (l.getD i default))), (27, AV.int .i64 l.length), (28, AV.int .i64 i), (129, .ptr 3 0)]) (fun y => ⟨4, [(0, .sem (Nest y.s.H)), (1, .mapit none (smap mk y.s.l) ((smap mk y.s.l).map (·.1)) 3 none), (2, .map (some .u64) (gm y.G))]⟩)
    intro key4
    apply AWP.aheadF (C := cfgL 164 0) (Y := LM i) (fun y => [(0, .iv (.sl 3 l.length fun i => actI (l.getD i default))), (3, .ptr 0 0), (4, .mp 1), (5, AV.int .u64 y.s.n), (6, .mp 2), (26, .iv (.sl 3 l.length fun i => actI (l.getD i default))), (27, AV.int .i64 l.length), (28, AV.int .i64 i), (129, .ptr 3 0)]) (fun y => ⟨4, [(0, .sem (Nest y.s.H)), (1, .mapit none (smap mk y.s.l) ((smap mk y.s.l).map (·.1)) 3 none), (2, .map (some .u64) (gm y.G))]⟩)
    intro key5
    · rw [mfind_smap]
      refine ⟨fun y hy => ?_, fun hy => ?_⟩
      · obtain ⟨z, hz, hz2⟩ := Option.map_eq_some_iff.1 hy
        obtain ⟨p, hp, rfl⟩ := Option.map_eq_some_iff.1 hz
        subst hz2
        (conv => whnf); repeat ((first | (refine And.intro ?_ ?_; (focus ((repeat' (first | exact trivial | refine And.intro rfl ?_)); done))) | (refine And.intro ?_ ?_; (focus (first | omega | (dsimp -iota only; omega) | (simp -iota; omega) | (simp -iota; done) | decide)))); conv => whnf)
        refine branchB_of (fun g0 => ?_) (fun g0 => ?_) <;> (first | replace g0 := not_t g0 | replace g0 := not_f g0 | skip) <;> (first | replace g0 := of_decide_eq_true g0 | replace g0 := of_decide_eq_false g0 | skip) <;> (first | replace g0 := Classical.not_not.1 g0 | skip) <;> (try dsimp only at g0)
        · (conv => whnf); repeat ((first | (refine And.intro ?_ ?_; (focus ((repeat' (first | exact trivial | refine And.intro rfl ?_)); done))) | (refine And.intro ?_ ?_; (focus (first | omega | (dsimp -iota only; omega) | (simp -iota; omega) | (simp -iota; done) | decide)))); conv => whnf)
          refine AFn.use [0] (add_ok s hs nm c.q hcq) (by kernel_rfl) rfl (by repeat' first | exact trivial | refine ⟨rfl, ?_⟩) fun _ => ?_
          (conv => whnf); repeat ((first | (refine And.intro ?_ ?_; (focus ((repeat' (first | exact trivial | refine And.intro rfl ?_)); done))) | (refine And.intro ?_ ?_; (focus (first | omega | (dsimp -iota only; omega) | (simp -iota; omega) | (simp -iota; done) | decide)))); conv => whnf)
          have hne := addE_there s (q := c.q) hp
          refine branchB_of (fun ge => ?_) (fun ge => ?_) <;> (first | replace ge := not_t ge | replace ge := not_f ge | skip) <;> (first | replace ge := of_decide_eq_true ge | replace ge := of_decide_eq_false ge | skip) <;> (first | replace ge := Classical.not_not.1 ge | skip) <;> (try dsimp only at ge)
          · exact absurd ge hne
          rw [add_same s hne]
          (conv => whnf); repeat ((first | (refine And.intro ?_ ?_; (focus ((repeat' (first | exact trivial | refine And.intro rfl ?_)); done))) | (refine And.intro ?_ ?_; (focus (first | omega | (dsimp -iota only; omega) | (simp -iota; omega) | (simp -iota; done) | decide)))); conv => whnf)
          refine branchB_of (fun ge2 => ?_) (fun ge2 => ?_) <;> (first | replace ge2 := not_t ge2 | replace ge2 := not_f ge2 | skip) <;> (first | replace ge2 := of_decide_eq_true ge2 | replace ge2 := of_decide_eq_false ge2 | skip) <;> (first | replace ge2 := Classical.not_not.1 ge2 | skip) <;> (try dsimp only at ge2)
          rotate_left
          · exact absurd ge2 hne
          (conv => whnf); repeat ((first | (refine And.intro ?_ ?_; (focus ((repeat' (first | exact trivial | refine And.intro rfl ?_)); done))) | (refine And.intro ?_ ?_; (focus (first | omega | (dsimp -iota only; omega) | (simp -iota; omega) | (simp -iota; done) | decide)))); conv => whnf)
          refine AFn.use [0] (list_ok s hs) (by kernel_rfl) rfl (by repeat' first | exact trivial | refine ⟨rfl, ?_⟩) fun _ => ?_
          (conv => whnf); repeat ((first | (refine And.intro ?_ ?_; (focus ((repeat' (first | exact trivial | refine And.intro rfl ?_)); done))) | (refine And.intro ?_ ?_; (focus (first | omega | (dsimp -iota only; omega) | (simp -iota; omega) | (simp -iota; done) | decide)))); conv => whnf)
          refine AFn.use [] (equal_self s.list hsl) (by kernel_rfl) rfl (by repeat' first | exact trivial | refine ⟨rfl, ?_⟩) fun _ => ?_
          (conv => whnf); repeat ((first | (refine And.intro ?_ ?_; (focus ((repeat' (first | exact trivial | refine And.intro rfl ?_)); done))) | (refine And.intro ?_ ?_; (focus (first | omega | (dsimp -iota only; omega) | (simp -iota; omega) | (simp -iota; done) | decide)))); conv => whnf)
          refine AFn.use [0] (len_ok s) (by kernel_rfl) rfl (by repeat' first | exact trivial | refine ⟨rfl, ?_⟩) fun _ => ?_
          have hsm := smap_length mk s.l
          (conv => whnf); repeat ((first | (refine And.intro ?_ ?_; (focus ((repeat' (first | exact trivial | refine And.intro rfl ?_)); done))) | (refine And.intro ?_ ?_; (focus (first | omega | (dsimp -iota only; omega) | (simp -iota; omega) | (simp -iota; done) | decide)))); conv => whnf)
          refine branchB_of (fun gl => ?_) (fun gl => ?_) <;> (first | replace gl := not_t gl | replace gl := not_f gl | skip) <;> (first | replace gl := of_decide_eq_true gl | replace gl := of_decide_eq_false gl | skip) <;> (first | replace gl := Classical.not_not.1 gl | skip) <;> (try dsimp only at gl)
          · exfalso; omega
          (conv => whnf); repeat ((first | (refine And.intro ?_ ?_; (focus ((repeat' (first | exact trivial | refine And.intro rfl ?_)); done))) | (refine And.intro ?_ ?_; (focus (first | omega | (dsimp -iota only; omega) | (simp -iota; omega) | (simp -iota; done) | decide)))); conv => whnf)
          refine AWP.of_ent ?_ (key1 ⟨s, G, hs, by omega, hG⟩)
          refine Ent.mk' [some 0, some 1, some 2, some 4] (by kernel_rfl) ?_ ?_
          · exact ⟨AVE.refl _, AVE.refl _, AVE.refl _, AVE.refl _, AVE.refl _, AVE.refl _, AVE.refl _, AVE.refl _, AVE.refl _, trivial⟩
          · (repeat' first | exact trivial | refine ⟨⟨_, rfl, ChE.refl _⟩, ?_⟩)
        · (conv => whnf); repeat ((first | (refine And.intro ?_ ?_; (focus ((repeat' (first | exact trivial | refine And.intro rfl ?_)); done))) | (refine And.intro ?_ ?_; (focus (first | omega | (dsimp -iota only; omega) | (simp -iota; omega) | (simp -iota; done) | decide)))); conv => whnf)
          refine branchB_of (fun g1 => ?_) (fun g1 => ?_) <;> (first | replace g1 := not_t g1 | replace g1 := not_f g1 | skip) <;> (first | replace g1 := of_decide_eq_true g1 | replace g1 := of_decide_eq_false g1 | skip) <;> (first | replace g1 := Classical.not_not.1 g1 | skip) <;> (try dsimp only at g1)
          · (conv => whnf); repeat ((first | (refine And.intro ?_ ?_; (focus ((repeat' (first | exact trivial | refine And.intro rfl ?_)); done))) | (refine And.intro ?_ ?_; (focus (first | omega | (dsimp -iota only; omega) | (simp -iota; omega) | (simp -iota; done) | decide)))); conv => whnf)
            refine AFn.use [0] (add_ok s hs nm c.q hcq) (by kernel_rfl) rfl (by repeat' first | exact trivial | refine ⟨rfl, ?_⟩) fun _ => ?_
            (conv => whnf); repeat ((first | (refine And.intro ?_ ?_; (focus ((repeat' (first | exact trivial | refine And.intro rfl ?_)); done))) | (refine And.intro ?_ ?_; (focus (first | omega | (dsimp -iota only; omega) | (simp -iota; omega) | (simp -iota; done) | decide)))); conv => whnf)
            have hne := addE_there s (q := c.q) hp
            refine branchB_of (fun ge => ?_) (fun ge => ?_) <;> (first | replace ge := not_t ge | replace ge := not_f ge | skip) <;> (first | replace ge := of_decide_eq_true ge | replace ge := of_decide_eq_false ge | skip) <;> (first | replace ge := Classical.not_not.1 ge | skip) <;> (try dsimp only at ge)
            · exact absurd ge hne
            rw [add_same s hne]
            (conv => whnf); repeat ((first | (refine And.intro ?_ ?_; (focus ((repeat' (first | exact trivial | refine And.intro rfl ?_)); done))) | (refine And.intro ?_ ?_; (focus (first | omega | (dsimp -iota only; omega) | (simp -iota; omega) | (simp -iota; done) | decide)))); conv => whnf)
            refine branchB_of (fun ge2 => ?_) (fun ge2 => ?_) <;> (first | replace ge2 := not_t ge2 | replace ge2 := not_f ge2 | skip) <;> (first | replace ge2 := of_decide_eq_true ge2 | replace ge2 := of_decide_eq_false ge2 | skip) <;> (first | replace ge2 := Classical.not_not.1 ge2 | skip) <;> (try dsimp only at ge2)
            rotate_left
            · exact absurd ge2 hne
            (conv => whnf); repeat ((first | (refine And.intro ?_ ?_; (focus ((repeat' (first | exact trivial | refine And.intro rfl ?_)); done))) | (refine And.intro ?_ ?_; (focus (first | omega | (dsimp -iota only; omega) | (simp -iota; omega) | (simp -iota; done) | decide)))); conv => whnf)
            refine AFn.use [0] (list_ok s hs) (by kernel_rfl) rfl (by repeat' first | exact trivial | refine ⟨rfl, ?_⟩) fun _ => ?_
            (conv => whnf); repeat ((first | (refine And.intro ?_ ?_; (focus ((repeat' (first | exact trivial | refine And.intro rfl ?_)); done))) | (refine And.intro ?_ ?_; (focus (first | omega | (dsimp -iota only; omega) | (simp -iota; omega) | (simp -iota; done) | decide)))); conv => whnf)
            refine AFn.use [] (equal_self s.list hsl) (by kernel_rfl) rfl (by repeat' first | exact trivial | refine ⟨rfl, ?_⟩) fun _ => ?_
            (conv => whnf); repeat ((first | (refine And.intro ?_ ?_; (focus ((repeat' (first | exact trivial | refine And.intro rfl ?_)); done))) | (refine And.intro ?_ ?_; (focus (first | omega | (dsimp -iota only; omega) | (simp -iota; omega) | (simp -iota; done) | decide)))); conv => whnf)
            refine AFn.use [0] (len_ok s) (by kernel_rfl) rfl (by repeat' first | exact trivial | refine ⟨rfl, ?_⟩) fun _ => ?_
            have hsm := smap_length mk s.l
            (conv => whnf); repeat ((first | (refine And.intro ?_ ?_; (focus ((repeat' (first | exact trivial | refine And.intro rfl ?_)); done))) | (refine And.intro ?_ ?_; (focus (first | omega | (dsimp -iota only; omega) | (simp -iota; omega) | (simp -iota; done) | decide)))); conv => whnf)
            refine branchB_of (fun gl => ?_) (fun gl => ?_) <;> (first | replace gl := not_t gl | replace gl := not_f gl | skip) <;> (first | replace gl := of_decide_eq_true gl | replace gl := of_decide_eq_false gl | skip) <;> (first | replace gl := Classical.not_not.1 gl | skip) <;> (try dsimp only at gl)
            · exfalso; omega
            (conv => whnf); repeat ((first | (refine And.intro ?_ ?_; (focus ((repeat' (first | exact trivial | refine And.intro rfl ?_)); done))) | (refine And.intro ?_ ?_; (focus (first | omega | (dsimp -iota only; omega) | (simp -iota; omega) | (simp -iota; done) | decide)))); conv => whnf)
            refine AWP.of_ent ?_ (key1 ⟨s, G, hs, by omega, hG⟩)
            refine Ent.mk' [some 0, some 1, some 2, some 4] (by kernel_rfl) ?_ ?_
            · exact ⟨AVE.refl _, AVE.refl _, AVE.refl _, AVE.refl _, AVE.refl _, AVE.refl _, AVE.refl _, AVE.refl _, AVE.refl _, trivial⟩
            · (repeat' first | exact trivial | refine ⟨⟨_, rfl, ChE.refl _⟩, ?_⟩)
          · (conv => whnf); repeat ((first | (refine And.intro ?_ ?_; (focus ((repeat' (first | exact trivial | refine And.intro rfl ?_)); done))) | (refine And.intro ?_ ?_; (focus (first | omega | (dsimp -iota only; omega) | (simp -iota; omega) | (simp -iota; done) | decide)))); conv => whnf)
            refine branchB_of (fun g2 => ?_) (fun g2 => ?_) <;> (first | replace g2 := not_t g2 | replace g2 := not_f g2 | skip) <;> (first | replace g2 := of_decide_eq_true g2 | replace g2 := of_decide_eq_false g2 | skip) <;> (first | replace g2 := Classical.not_not.1 g2 | skip) <;> (try dsimp only at g2)
            · (conv => whnf); repeat ((first | (refine And.intro ?_ ?_; (focus ((repeat' (first | exact trivial | refine And.intro rfl ?_)); done))) | (refine And.intro ?_ ?_; (focus (first | omega | (dsimp -iota only; omega) | (simp -iota; omega) | (simp -iota; done) | decide)))); conv => whnf)
              refine AFn.use [0] (drop_ok s nm) (by kernel_rfl) rfl (by repeat' first | exact trivial | refine ⟨rfl, ?_⟩) fun _ => ?_
              have hf := findE_there s hs hp
              have ed : s.drop nm = ⟨adel s.l nm, s.n⟩ := if_pos hf
              have hs' := drop_Ok s hs nm
              have hG' := gone_drop hs hp hG
              rw [hf]
              (conv => whnf); repeat ((first | (refine And.intro ?_ ?_; (focus ((repeat' (first | exact trivial | refine And.intro rfl ?_)); done))) | (refine And.intro ?_ ?_; (focus (first | omega | (dsimp -iota only; omega) | (simp -iota; omega) | (simp -iota; done) | decide)))); conv => whnf)
              rw [mdel_smap]
              (conv => whnf); repeat ((first | (refine And.intro ?_ ?_; (focus ((repeat' (first | exact trivial | refine And.intro rfl ?_)); done))) | (refine And.intro ?_ ?_; (focus (first | omega | (dsimp -iota only; omega) | (simp -iota; omega) | (simp -iota; done) | decide)))); conv => whnf)
              rw [mput_gm]
              obtain ⟨s', hs0⟩ : ∃ s', s' = s.drop nm := ⟨_, rfl⟩
              have hsn : s'.n = s.n := by rw [hs0, ed]
              have hsl' : s'.l = adel s.l nm := by rw [hs0, ed]
              rw [← hs0] at hs' hG'
              rw [← hs0, ← hsl', ← hsn]
              (conv => whnf); repeat ((first | (refine And.intro ?_ ?_; (focus ((repeat' (first | exact trivial | refine And.intro rfl ?_)); done))) | (refine And.intro ?_ ?_; (focus (first | omega | (dsimp -iota only; omega) | (simp -iota; omega) | (simp -iota; done) | decide)))); conv => whnf)
              refine AFn.use [0] (len_ok s') (by kernel_rfl) rfl (by repeat' first | exact trivial | refine ⟨rfl, ?_⟩) fun _ => ?_
              have hsm := smap_length mk s'.l
              (conv => whnf); repeat ((first | (refine And.intro ?_ ?_; (focus ((repeat' (first | exact trivial | refine And.intro rfl ?_)); done))) | (refine And.intro ?_ ?_; (focus (first | omega | (dsimp -iota only; omega) | (simp -iota; omega) | (simp -iota; done) | decide)))); conv => whnf)
              refine branchB_of (fun gl => ?_) (fun gl => ?_) <;> (first | replace gl := not_t gl | replace gl := not_f gl | skip) <;> (first | replace gl := of_decide_eq_true gl | replace gl := of_decide_eq_false gl | skip) <;> (first | replace gl := Classical.not_not.1 gl | skip) <;> (try dsimp only at gl)
              · exfalso; omega
              (conv => whnf); repeat ((first | (refine And.intro ?_ ?_; (focus ((repeat' (first | exact trivial | refine And.intro rfl ?_)); done))) | (refine And.intro ?_ ?_; (focus (first | omega | (dsimp -iota only; omega) | (simp -iota; omega) | (simp -iota; done) | decide)))); conv => whnf)
              refine AWP.of_ent ?_ (key3 ⟨s', gput G p.2, hs', by omega, hG'⟩)
              refine Ent.mk' [some 0, some 1, some 2, some 4] (by kernel_rfl) ?_ ?_
              · exact ⟨AVE.refl _, AVE.refl _, AVE.refl _, AVE.refl _, AVE.refl _, AVE.refl _, AVE.refl _, AVE.refl _, AVE.refl _, trivial⟩
              · (repeat' first | exact trivial | refine ⟨⟨_, rfl, ChE.refl _⟩, ?_⟩)
            · (conv => whnf); repeat ((first | (refine And.intro ?_ ?_; (focus ((repeat' (first | exact trivial | refine And.intro rfl ?_)); done))) | (refine And.intro ?_ ?_; (focus (first | omega | (dsimp -iota only; omega) | (simp -iota; omega) | (simp -iota; done) | decide)))); conv => whnf)
              refine AFn.use [0] (len_ok s) (by kernel_rfl) rfl (by repeat' first | exact trivial | refine ⟨rfl, ?_⟩) fun _ => ?_
              have hsm := smap_length mk s.l
              (conv => whnf); repeat ((first | (refine And.intro ?_ ?_; (focus ((repeat' (first | exact trivial | refine And.intro rfl ?_)); done))) | (refine And.intro ?_ ?_; (focus (first | omega | (dsimp -iota only; omega) | (simp -iota; omega) | (simp -iota; done) | decide)))); conv => whnf)
              refine branchB_of (fun gl => ?_) (fun gl => ?_) <;> (first | replace gl := not_t gl | replace gl := not_f gl | skip) <;> (first | replace gl := of_decide_eq_true gl | replace gl := of_decide_eq_false gl | skip) <;> (first | replace gl := Classical.not_not.1 gl | skip) <;> (try dsimp only at gl)
              · exfalso; omega
              (conv => whnf); repeat ((first | (refine And.intro ?_ ?_; (focus ((repeat' (first | exact trivial | refine And.intro rfl ?_)); done))) | (refine And.intro ?_ ?_; (focus (first | omega | (dsimp -iota only; omega) | (simp -iota; omega) | (simp -iota; done) | decide)))); conv => whnf)
              refine AWP.of_ent ?_ (key4 ⟨s, G, hs, by omega, hG⟩)
              refine Ent.mk' [some 0, some 1, some 2, some 4] (by kernel_rfl) ?_ ?_
              · exact ⟨AVE.refl _, AVE.refl _, AVE.refl _, AVE.refl _, AVE.refl _, AVE.refl _, AVE.refl _, AVE.refl _, AVE.refl _, trivial⟩
              · (repeat' first | exact trivial | refine ⟨⟨_, rfl, ChE.refl _⟩, ?_⟩)
      · have hp := Option.map_eq_none_iff.1 (Option.map_eq_none_iff.1 hy)
        (conv => whnf); repeat ((first | (refine And.intro ?_ ?_; (focus ((repeat' (first | exact trivial | refine And.intro rfl ?_)); done))) | (refine And.intro ?_ ?_; (focus (first | omega | (dsimp -iota only; omega) | (simp -iota; omega) | (simp -iota; done) | decide)))); conv => whnf)
        refine branchB_of (fun g0 => ?_) (fun g0 => ?_) <;> (first | replace g0 := not_t g0 | replace g0 := not_f g0 | skip) <;> (first | replace g0 := of_decide_eq_true g0 | replace g0 := of_decide_eq_false g0 | skip) <;> (first | replace g0 := Classical.not_not.1 g0 | skip) <;> (try dsimp only at g0)
        · (conv => whnf); repeat ((first | (refine And.intro ?_ ?_; (focus ((repeat' (first | exact trivial | refine And.intro rfl ?_)); done))) | (refine And.intro ?_ ?_; (focus (first | omega | (dsimp -iota only; omega) | (simp -iota; omega) | (simp -iota; done) | decide)))); conv => whnf)
          refine AFn.use [0] (add_ok s hs nm c.q hcq) (by kernel_rfl) rfl (by repeat' first | exact trivial | refine ⟨rfl, ?_⟩) fun _ => ?_
          (conv => whnf); repeat ((first | (refine And.intro ?_ ?_; (focus ((repeat' (first | exact trivial | refine And.intro rfl ?_)); done))) | (refine And.intro ?_ ?_; (focus (first | omega | (dsimp -iota only; omega) | (simp -iota; omega) | (simp -iota; done) | decide)))); conv => whnf)
          refine branchB_of (fun ge => ?_) (fun ge => ?_) <;> (first | replace ge := not_t ge | replace ge := not_f ge | skip) <;> (first | replace ge := of_decide_eq_true ge | replace ge := of_decide_eq_false ge | skip) <;> (first | replace ge := Classical.not_not.1 ge | skip) <;> (try dsimp only at ge)
          · have hz := addE_zero s ge
            have em : s.addM nm c.q = s.n + 1 := if_pos ge
            have es := add_l s ge
            have hs' := add_Ok s hs ge (by omega)
            have hG' := gone_add ge hG
            rw [em, ge]
            (conv => whnf); repeat ((first | (refine And.intro ?_ ?_; (focus ((repeat' (first | exact trivial | refine And.intro rfl ?_)); done))) | (refine And.intro ?_ ?_; (focus (first | omega | (dsimp -iota only; omega) | (simp -iota; omega) | (simp -iota; done) | decide)))); conv => whnf)
            refine branchB_of (fun gm => ?_) (fun gm => ?_) <;> (first | replace gm := not_t gm | replace gm := not_f gm | skip) <;> (first | replace gm := of_decide_eq_true gm | replace gm := of_decide_eq_false gm | skip) <;> (first | replace gm := Classical.not_not.1 gm | skip) <;> (try dsimp only at gm)
            · exact absurd gm (by omega)
            (conv => whnf); repeat ((first | (refine And.intro ?_ ?_; (focus ((repeat' (first | exact trivial | refine And.intro rfl ?_)); done))) | (refine And.intro ?_ ?_; (focus (first | omega | (dsimp -iota only; omega) | (simp -iota; omega) | (simp -iota; done) | decide)))); conv => whnf)
            rw [mput_mk _ _ c.q]
            rw [aput_new (afind_none.1 hz.2.2.1)]
            rw [es]
            rw [es] at hs' hG'
            obtain ⟨s', hs0⟩ : ∃ s', s' = SN.mk (s.l ++ [(nm, (c.q, s.n + 1))]) (s.n + 1) := ⟨_, rfl⟩
            have hsn : s'.n = s.n + 1 := by rw [hs0]
            have hsl' : s'.l = s.l ++ [(nm, (c.q, s.n + 1))] := by rw [hs0]
            rw [← hs0] at hs' hG'
            rw [← hs0, ← hsl', ← hsn]
            have hmem : (nm, (c.q, s'.n)) ∈ s'.l := by rw [hsl', hsn]; simp
            (conv => whnf); repeat ((first | (refine And.intro ?_ ?_; (focus ((repeat' (first | exact trivial | refine And.intro rfl ?_)); done))) | (refine And.intro ?_ ?_; (focus (first | omega | (dsimp -iota only; omega) | (simp -iota; omega) | (simp -iota; done) | decide)))); conv => whnf)
            refine AFn.use [0] (lives_at s' hs' hmem) (by kernel_rfl) rfl (by repeat' first | exact trivial | refine ⟨rfl, ?_⟩) fun _ => ?_
            (conv => whnf); repeat ((first | (refine And.intro ?_ ?_; (focus ((repeat' (first | exact trivial | refine And.intro rfl ?_)); done))) | (refine And.intro ?_ ?_; (focus (first | omega | (dsimp -iota only; omega) | (simp -iota; omega) | (simp -iota; done) | decide)))); conv => whnf)
            refine branchB_of (fun gq => ?_) (fun gq => ?_) <;> (first | replace gq := not_t gq | replace gq := not_f gq | skip) <;> (first | replace gq := of_decide_eq_true gq | replace gq := of_decide_eq_false gq | skip) <;> (first | replace gq := Classical.not_not.1 gq | skip) <;> (try dsimp only at gq)
            · simp at gq
            (conv => whnf); repeat ((first | (refine And.intro ?_ ?_; (focus ((repeat' (first | exact trivial | refine And.intro rfl ?_)); done))) | (refine And.intro ?_ ?_; (focus (first | omega | (dsimp -iota only; omega) | (simp -iota; omega) | (simp -iota; done) | decide)))); conv => whnf)
            refine AFn.use [0] (len_ok s') (by kernel_rfl) rfl (by repeat' first | exact trivial | refine ⟨rfl, ?_⟩) fun _ => ?_
            have hsm := smap_length mk s'.l
            (conv => whnf); repeat ((first | (refine And.intro ?_ ?_; (focus ((repeat' (first | exact trivial | refine And.intro rfl ?_)); done))) | (refine And.intro ?_ ?_; (focus (first | omega | (dsimp -iota only; omega) | (simp -iota; omega) | (simp -iota; done) | decide)))); conv => whnf)
            refine branchB_of (fun gl => ?_) (fun gl => ?_) <;> (first | replace gl := not_t gl | replace gl := not_f gl | skip) <;> (first | replace gl := of_decide_eq_true gl | replace gl := of_decide_eq_false gl | skip) <;> (first | replace gl := Classical.not_not.1 gl | skip) <;> (try dsimp only at gl)
            · exfalso; omega
            (conv => whnf); repeat ((first | (refine And.intro ?_ ?_; (focus ((repeat' (first | exact trivial | refine And.intro rfl ?_)); done))) | (refine And.intro ?_ ?_; (focus (first | omega | (dsimp -iota only; omega) | (simp -iota; omega) | (simp -iota; done) | decide)))); conv => whnf)
            refine AWP.of_ent ?_ (key2 ⟨s', G, hs', by omega, hG'⟩)
            refine Ent.mk' [some 0, some 1, some 2, some 5] (by kernel_rfl) ?_ ?_
            · exact ⟨AVE.refl _, AVE.refl _, AVE.refl _, AVE.refl _, AVE.refl _, AVE.refl _, AVE.refl _, AVE.refl _, AVE.refl _, trivial⟩
            · (repeat' first | exact trivial | refine ⟨⟨_, rfl, ChE.refl _⟩, ?_⟩)
          · rw [add_same s ge]
            (conv => whnf); repeat ((first | (refine And.intro ?_ ?_; (focus ((repeat' (first | exact trivial | refine And.intro rfl ?_)); done))) | (refine And.intro ?_ ?_; (focus (first | omega | (dsimp -iota only; omega) | (simp -iota; omega) | (simp -iota; done) | decide)))); conv => whnf)
            refine branchB_of (fun ge2 => ?_) (fun ge2 => ?_) <;> (first | replace ge2 := not_t ge2 | replace ge2 := not_f ge2 | skip) <;> (first | replace ge2 := of_decide_eq_true ge2 | replace ge2 := of_decide_eq_false ge2 | skip) <;> (first | replace ge2 := Classical.not_not.1 ge2 | skip) <;> (try dsimp only at ge2)
            rotate_left
            · exact absurd ge2 ge
            (conv => whnf); repeat ((first | (refine And.intro ?_ ?_; (focus ((repeat' (first | exact trivial | refine And.intro rfl ?_)); done))) | (refine And.intro ?_ ?_; (focus (first | omega | (dsimp -iota only; omega) | (simp -iota; omega) | (simp -iota; done) | decide)))); conv => whnf)
            refine AFn.use [0] (list_ok s hs) (by kernel_rfl) rfl (by repeat' first | exact trivial | refine ⟨rfl, ?_⟩) fun _ => ?_
            (conv => whnf); repeat ((first | (refine And.intro ?_ ?_; (focus ((repeat' (first | exact trivial | refine And.intro rfl ?_)); done))) | (refine And.intro ?_ ?_; (focus (first | omega | (dsimp -iota only; omega) | (simp -iota; omega) | (simp -iota; done) | decide)))); conv => whnf)
            refine AFn.use [] (equal_self s.list hsl) (by kernel_rfl) rfl (by repeat' first | exact trivial | refine ⟨rfl, ?_⟩) fun _ => ?_
            (conv => whnf); repeat ((first | (refine And.intro ?_ ?_; (focus ((repeat' (first | exact trivial | refine And.intro rfl ?_)); done))) | (refine And.intro ?_ ?_; (focus (first | omega | (dsimp -iota only; omega) | (simp -iota; omega) | (simp -iota; done) | decide)))); conv => whnf)
            refine AFn.use [0] (len_ok s) (by kernel_rfl) rfl (by repeat' first | exact trivial | refine ⟨rfl, ?_⟩) fun _ => ?_
            have hsm := smap_length mk s.l
            (conv => whnf); repeat ((first | (refine And.intro ?_ ?_; (focus ((repeat' (first | exact trivial | refine And.intro rfl ?_)); done))) | (refine And.intro ?_ ?_; (focus (first | omega | (dsimp -iota only; omega) | (simp -iota; omega) | (simp -iota; done) | decide)))); conv => whnf)
            refine branchB_of (fun gl => ?_) (fun gl => ?_) <;> (first | replace gl := not_t gl | replace gl := not_f gl | skip) <;> (first | replace gl := of_decide_eq_true gl | replace gl := of_decide_eq_false gl | skip) <;> (first | replace gl := Classical.not_not.1 gl | skip) <;> (try dsimp only at gl)
            · exfalso; omega
            (conv => whnf); repeat ((first | (refine And.intro ?_ ?_; (focus ((repeat' (first | exact trivial | refine And.intro rfl ?_)); done))) | (refine And.intro ?_ ?_; (focus (first | omega | (dsimp -iota only; omega) | (simp -iota; omega) | (simp -iota; done) | decide)))); conv => whnf)
            refine AWP.of_ent ?_ (key1 ⟨s, G, hs, by omega, hG⟩)
            refine Ent.mk' [some 0, some 1, some 2, some 4] (by kernel_rfl) ?_ ?_
            · exact ⟨AVE.refl _, AVE.refl _, AVE.refl _, AVE.refl _, AVE.refl _, AVE.refl _, AVE.refl _, AVE.refl _, AVE.refl _, trivial⟩
            · (repeat' first | exact trivial | refine ⟨⟨_, rfl, ChE.refl _⟩, ?_⟩)
        · (conv => whnf); repeat ((first | (refine And.intro ?_ ?_; (focus ((repeat' (first | exact trivial | refine And.intro rfl ?_)); done))) | (refine And.intro ?_ ?_; (focus (first | omega | (dsimp -iota only; omega) | (simp -iota; omega) | (simp -iota; done) | decide)))); conv => whnf)
          refine branchB_of (fun g1 => ?_) (fun g1 => ?_) <;> (first | replace g1 := not_t g1 | replace g1 := not_f g1 | skip) <;> (first | replace g1 := of_decide_eq_true g1 | replace g1 := of_decide_eq_false g1 | skip) <;> (first | replace g1 := Classical.not_not.1 g1 | skip) <;> (try dsimp only at g1)
          · (conv => whnf); repeat ((first | (refine And.intro ?_ ?_; (focus ((repeat' (first | exact trivial | refine And.intro rfl ?_)); done))) | (refine And.intro ?_ ?_; (focus (first | omega | (dsimp -iota only; omega) | (simp -iota; omega) | (simp -iota; done) | decide)))); conv => whnf)
            refine AFn.use [0] (add_ok s hs nm c.q hcq) (by kernel_rfl) rfl (by repeat' first | exact trivial | refine ⟨rfl, ?_⟩) fun _ => ?_
            (conv => whnf); repeat ((first | (refine And.intro ?_ ?_; (focus ((repeat' (first | exact trivial | refine And.intro rfl ?_)); done))) | (refine And.intro ?_ ?_; (focus (first | omega | (dsimp -iota only; omega) | (simp -iota; omega) | (simp -iota; done) | decide)))); conv => whnf)
            refine branchB_of (fun ge => ?_) (fun ge => ?_) <;> (first | replace ge := not_t ge | replace ge := not_f ge | skip) <;> (first | replace ge := of_decide_eq_true ge | replace ge := of_decide_eq_false ge | skip) <;> (first | replace ge := Classical.not_not.1 ge | skip) <;> (try dsimp only at ge)
            · have hz := addE_zero s ge
              have em : s.addM nm c.q = s.n + 1 := if_pos ge
              have es := add_l s ge
              have hs' := add_Ok s hs ge (by omega)
              have hG' := gone_add ge hG
              rw [em, ge]
              (conv => whnf); repeat ((first | (refine And.intro ?_ ?_; (focus ((repeat' (first | exact trivial | refine And.intro rfl ?_)); done))) | (refine And.intro ?_ ?_; (focus (first | omega | (dsimp -iota only; omega) | (simp -iota; omega) | (simp -iota; done) | decide)))); conv => whnf)
              refine branchB_of (fun gm => ?_) (fun gm => ?_) <;> (first | replace gm := not_t gm | replace gm := not_f gm | skip) <;> (first | replace gm := of_decide_eq_true gm | replace gm := of_decide_eq_false gm | skip) <;> (first | replace gm := Classical.not_not.1 gm | skip) <;> (try dsimp only at gm)
              · exact absurd gm (by omega)
              (conv => whnf); repeat ((first | (refine And.intro ?_ ?_; (focus ((repeat' (first | exact trivial | refine And.intro rfl ?_)); done))) | (refine And.intro ?_ ?_; (focus (first | omega | (dsimp -iota only; omega) | (simp -iota; omega) | (simp -iota; done) | decide)))); conv => whnf)
              rw [mput_mk _ _ c.q]
              rw [aput_new (afind_none.1 hz.2.2.1)]
              rw [es]
              rw [es] at hs' hG'
              obtain ⟨s', hs0⟩ : ∃ s', s' = SN.mk (s.l ++ [(nm, (c.q, s.n + 1))]) (s.n + 1) := ⟨_, rfl⟩
              have hsn : s'.n = s.n + 1 := by rw [hs0]
              have hsl' : s'.l = s.l ++ [(nm, (c.q, s.n + 1))] := by rw [hs0]
              rw [← hs0] at hs' hG'
              rw [← hs0, ← hsl', ← hsn]
              have hmem : (nm, (c.q, s'.n)) ∈ s'.l := by rw [hsl', hsn]; simp
              (conv => whnf); repeat ((first | (refine And.intro ?_ ?_; (focus ((repeat' (first | exact trivial | refine And.intro rfl ?_)); done))) | (refine And.intro ?_ ?_; (focus (first | omega | (dsimp -iota only; omega) | (simp -iota; omega) | (simp -iota; done) | decide)))); conv => whnf)
              refine AFn.use [0] (lives_at s' hs' hmem) (by kernel_rfl) rfl (by repeat' first | exact trivial | refine ⟨rfl, ?_⟩) fun _ => ?_
              (conv => whnf); repeat ((first | (refine And.intro ?_ ?_; (focus ((repeat' (first | exact trivial | refine And.intro rfl ?_)); done))) | (refine And.intro ?_ ?_; (focus (first | omega | (dsimp -iota only; omega) | (simp -iota; omega) | (simp -iota; done) | decide)))); conv => whnf)
              refine branchB_of (fun gq => ?_) (fun gq => ?_) <;> (first | replace gq := not_t gq | replace gq := not_f gq | skip) <;> (first | replace gq := of_decide_eq_true gq | replace gq := of_decide_eq_false gq | skip) <;> (first | replace gq := Classical.not_not.1 gq | skip) <;> (try dsimp only at gq)
              · simp at gq
              (conv => whnf); repeat ((first | (refine And.intro ?_ ?_; (focus ((repeat' (first | exact trivial | refine And.intro rfl ?_)); done))) | (refine And.intro ?_ ?_; (focus (first | omega | (dsimp -iota only; omega) | (simp -iota; omega) | (simp -iota; done) | decide)))); conv => whnf)
              refine AFn.use [0] (len_ok s') (by kernel_rfl) rfl (by repeat' first | exact trivial | refine ⟨rfl, ?_⟩) fun _ => ?_
              have hsm := smap_length mk s'.l
              (conv => whnf); repeat ((first | (refine And.intro ?_ ?_; (focus ((repeat' (first | exact trivial | refine And.intro rfl ?_)); done))) | (refine And.intro ?_ ?_; (focus (first | omega | (dsimp -iota only; omega) | (simp -iota; omega) | (simp -iota; done) | decide)))); conv => whnf)
              refine branchB_of (fun gl => ?_) (fun gl => ?_) <;> (first | replace gl := not_t gl | replace gl := not_f gl | skip) <;> (first | replace gl := of_decide_eq_true gl | replace gl := of_decide_eq_false gl | skip) <;> (first | replace gl := Classical.not_not.1 gl | skip) <;> (try dsimp only at gl)
              · exfalso; omega
              (conv => whnf); repeat ((first | (refine And.intro ?_ ?_; (focus ((repeat' (first | exact trivial | refine And.intro rfl ?_)); done))) | (refine And.intro ?_ ?_; (focus (first | omega | (dsimp -iota only; omega) | (simp -iota; omega) | (simp -iota; done) | decide)))); conv => whnf)
              refine AWP.of_ent ?_ (key2 ⟨s', G, hs', by omega, hG'⟩)
              refine Ent.mk' [some 0, some 1, some 2, some 5] (by kernel_rfl) ?_ ?_
              · exact ⟨AVE.refl _, AVE.refl _, AVE.refl _, AVE.refl _, AVE.refl _, AVE.refl _, AVE.refl _, AVE.refl _, AVE.refl _, trivial⟩
              · (repeat' first | exact trivial | refine ⟨⟨_, rfl, ChE.refl _⟩, ?_⟩)
            · rw [add_same s ge]
              (conv => whnf); repeat ((first | (refine And.intro ?_ ?_; (focus ((repeat' (first | exact trivial | refine And.intro rfl ?_)); done))) | (refine And.intro ?_ ?_; (focus (first | omega | (dsimp -iota only; omega) | (simp -iota; omega) | (simp -iota; done) | decide)))); conv => whnf)
              refine branchB_of (fun ge2 => ?_) (fun ge2 => ?_) <;> (first | replace ge2 := not_t ge2 | replace ge2 := not_f ge2 | skip) <;> (first | replace ge2 := of_decide_eq_true ge2 | replace ge2 := of_decide_eq_false ge2 | skip) <;> (first | replace ge2 := Classical.not_not.1 ge2 | skip) <;> (try dsimp only at ge2)
              rotate_left
              · exact absurd ge2 ge
              (conv => whnf); repeat ((first | (refine And.intro ?_ ?_; (focus ((repeat' (first | exact trivial | refine And.intro rfl ?_)); done))) | (refine And.intro ?_ ?_; (focus (first | omega | (dsimp -iota only; omega) | (simp -iota; omega) | (simp -iota; done) | decide)))); conv => whnf)
              refine AFn.use [0] (list_ok s hs) (by kernel_rfl) rfl (by repeat' first | exact trivial | refine ⟨rfl, ?_⟩) fun _ => ?_
              (conv => whnf); repeat ((first | (refine And.intro ?_ ?_; (focus ((repeat' (first | exact trivial | refine And.intro rfl ?_)); done))) | (refine And.intro ?_ ?_; (focus (first | omega | (dsimp -iota only; omega) | (simp -iota; omega) | (simp -iota; done) | decide)))); conv => whnf)
              refine AFn.use [] (equal_self s.list hsl) (by kernel_rfl) rfl (by repeat' first | exact trivial | refine ⟨rfl, ?_⟩) fun _ => ?_
              (conv => whnf); repeat ((first | (refine And.intro ?_ ?_; (focus ((repeat' (first | exact trivial | refine And.intro rfl ?_)); done))) | (refine And.intro ?_ ?_; (focus (first | omega | (dsimp -iota only; omega) | (simp -iota; omega) | (simp -iota; done) | decide)))); conv => whnf)
              refine AFn.use [0] (len_ok s) (by kernel_rfl) rfl (by repeat' first | exact trivial | refine ⟨rfl, ?_⟩) fun _ => ?_
              have hsm := smap_length mk s.l
              (conv => whnf); repeat ((first | (refine And.intro ?_ ?_; (focus ((repeat' (first | exact trivial | refine And.intro rfl ?_)); done))) | (refine And.intro ?_ ?_; (focus (first | omega | (dsimp -iota only; omega) | (simp -iota; omega) | (simp -iota; done) | decide)))); conv => whnf)
              refine branchB_of (fun gl => ?_) (fun gl => ?_) <;> (first | replace gl := not_t gl | replace gl := not_f gl | skip) <;> (first | replace gl := of_decide_eq_true gl | replace gl := of_decide_eq_false gl | skip) <;> (first | replace gl := Classical.not_not.1 gl | skip) <;> (try dsimp only at gl)
              · exfalso; omega
              (conv => whnf); repeat ((first | (refine And.intro ?_ ?_; (focus ((repeat' (first | exact trivial | refine And.intro rfl ?_)); done))) | (refine And.intro ?_ ?_; (focus (first | omega | (dsimp -iota only; omega) | (simp -iota; omega) | (simp -iota; done) | decide)))); conv => whnf)
              refine AWP.of_ent ?_ (key1 ⟨s, G, hs, by omega, hG⟩)
              refine Ent.mk' [some 0, some 1, some 2, some 4] (by kernel_rfl) ?_ ?_
              · exact ⟨AVE.refl _, AVE.refl _, AVE.refl _, AVE.refl _, AVE.refl _, AVE.refl _, AVE.refl _, AVE.refl _, AVE.refl _, trivial⟩
              · (repeat' first | exact trivial | refine ⟨⟨_, rfl, ChE.refl _⟩, ?_⟩)
          · (conv => whnf); repeat ((first | (refine And.intro ?_ ?_; (focus ((repeat' (first | exact trivial | refine And.intro rfl ?_)); done))) | (refine And.intro ?_ ?_; (focus (first | omega | (dsimp -iota only; omega) | (simp -iota; omega) | (simp -iota; done) | decide)))); conv => whnf)
            refine branchB_of (fun g2 => ?_) (fun g2 => ?_) <;> (first | replace g2 := not_t g2 | replace g2 := not_f g2 | skip) <;> (first | replace g2 := of_decide_eq_true g2 | replace g2 := of_decide_eq_false g2 | skip) <;> (first | replace g2 := Classical.not_not.1 g2 | skip) <;> (try dsimp only at g2)
            · (conv => whnf); repeat ((first | (refine And.intro ?_ ?_; (focus ((repeat' (first | exact trivial | refine And.intro rfl ?_)); done))) | (refine And.intro ?_ ?_; (focus (first | omega | (dsimp -iota only; omega) | (simp -iota; omega) | (simp -iota; done) | decide)))); conv => whnf)
              refine AFn.use [0] (drop_ok s nm) (by kernel_rfl) rfl (by repeat' first | exact trivial | refine ⟨rfl, ?_⟩) fun _ => ?_
              have hf := findE_none s hp
              have ed : s.drop nm = s := if_neg hf
              rw [ed]
              (conv => whnf); repeat ((first | (refine And.intro ?_ ?_; (focus ((repeat' (first | exact trivial | refine And.intro rfl ?_)); done))) | (refine And.intro ?_ ?_; (focus (first | omega | (dsimp -iota only; omega) | (simp -iota; omega) | (simp -iota; done) | decide)))); conv => whnf)
              refine branchB_of (fun gf => ?_) (fun gf => ?_) <;> (first | replace gf := not_t gf | replace gf := not_f gf | skip) <;> (first | replace gf := of_decide_eq_true gf | replace gf := of_decide_eq_false gf | skip) <;> (first | replace gf := Classical.not_not.1 gf | skip) <;> (try dsimp only at gf)
              · exact absurd (decide_eq_false hf) gf
              (conv => whnf); repeat ((first | (refine And.intro ?_ ?_; (focus ((repeat' (first | exact trivial | refine And.intro rfl ?_)); done))) | (refine And.intro ?_ ?_; (focus (first | omega | (dsimp -iota only; omega) | (simp -iota; omega) | (simp -iota; done) | decide)))); conv => whnf)
              refine branchB_of (fun gf2 => ?_) (fun gf2 => ?_) <;> (first | replace gf2 := not_t gf2 | replace gf2 := not_f gf2 | skip) <;> (first | replace gf2 := of_decide_eq_true gf2 | replace gf2 := of_decide_eq_false gf2 | skip) <;> (first | replace gf2 := Classical.not_not.1 gf2 | skip) <;> (try dsimp only at gf2)
              rotate_left
              · exact absurd gf2 hf
              (conv => whnf); repeat ((first | (refine And.intro ?_ ?_; (focus ((repeat' (first | exact trivial | refine And.intro rfl ?_)); done))) | (refine And.intro ?_ ?_; (focus (first | omega | (dsimp -iota only; omega) | (simp -iota; omega) | (simp -iota; done) | decide)))); conv => whnf)
              refine AFn.use [0] (list_ok s hs) (by kernel_rfl) rfl (by repeat' first | exact trivial | refine ⟨rfl, ?_⟩) fun _ => ?_
              (conv => whnf); repeat ((first | (refine And.intro ?_ ?_; (focus ((repeat' (first | exact trivial | refine And.intro rfl ?_)); done))) | (refine And.intro ?_ ?_; (focus (first | omega | (dsimp -iota only; omega) | (simp -iota; omega) | (simp -iota; done) | decide)))); conv => whnf)
              refine AFn.use [] (equal_self s.list hsl) (by kernel_rfl) rfl (by repeat' first | exact trivial | refine ⟨rfl, ?_⟩) fun _ => ?_
              (conv => whnf); repeat ((first | (refine And.intro ?_ ?_; (focus ((repeat' (first | exact trivial | refine And.intro rfl ?_)); done))) | (refine And.intro ?_ ?_; (focus (first | omega | (dsimp -iota only; omega) | (simp -iota; omega) | (simp -iota; done) | decide)))); conv => whnf)
              refine AFn.use [0] (len_ok s) (by kernel_rfl) rfl (by repeat' first | exact trivial | refine ⟨rfl, ?_⟩) fun _ => ?_
              have hsm := smap_length mk s.l
              (conv => whnf); repeat ((first | (refine And.intro ?_ ?_; (focus ((repeat' (first | exact trivial | refine And.intro rfl ?_)); done))) | (refine And.intro ?_ ?_; (focus (first | omega | (dsimp -iota only; omega) | (simp -iota; omega) | (simp -iota; done) | decide)))); conv => whnf)
              refine branchB_of (fun gl => ?_) (fun gl => ?_) <;> (first | replace gl := not_t gl | replace gl := not_f gl | skip) <;> (first | replace gl := of_decide_eq_true gl | replace gl := of_decide_eq_false gl | skip) <;> (first | replace gl := Classical.not_not.1 gl | skip) <;> (try dsimp only at gl)
              · exfalso; omega
              (conv => whnf); repeat ((first | (refine And.intro ?_ ?_; (focus ((repeat' (first | exact trivial | refine And.intro rfl ?_)); done))) | (refine And.intro ?_ ?_; (focus (first | omega | (dsimp -iota only; omega) | (simp -iota; omega) | (simp -iota; done) | decide)))); conv => whnf)
              refine AWP.of_ent ?_ (key5 ⟨s, G, hs, by omega, hG⟩)
              refine Ent.mk' [some 0, some 1, some 2, some 4] (by kernel_rfl) ?_ ?_
              · exact ⟨AVE.refl _, AVE.refl _, AVE.refl _, AVE.refl _, AVE.refl _, AVE.refl _, AVE.refl _, AVE.refl _, AVE.refl _, trivial⟩
              · (repeat' first | exact trivial | refine ⟨⟨_, rfl, ChE.refl _⟩, ?_⟩)
            · (conv => whnf); repeat ((first | (refine And.intro ?_ ?_; (focus ((repeat' (first | exact trivial | refine And.intro rfl ?_)); done))) | (refine And.intro ?_ ?_; (focus (first | omega | (dsimp -iota only; omega) | (simp -iota; omega) | (simp -iota; done) | decide)))); conv => whnf)
              refine AFn.use [0] (len_ok s) (by kernel_rfl) rfl (by repeat' first | exact trivial | refine ⟨rfl, ?_⟩) fun _ => ?_
              have hsm := smap_length mk s.l
              (conv => whnf); repeat ((first | (refine And.intro ?_ ?_; (focus ((repeat' (first | exact trivial | refine And.intro rfl ?_)); done))) | (refine And.intro ?_ ?_; (focus (first | omega | (dsimp -iota only; omega) | (simp -iota; omega) | (simp -iota; done) | decide)))); conv => whnf)
              refine branchB_of (fun gl => ?_) (fun gl => ?_) <;> (first | replace gl := not_t gl | replace gl := not_f gl | skip) <;> (first | replace gl := of_decide_eq_true gl | replace gl := of_decide_eq_false gl | skip) <;> (first | replace gl := Classical.not_not.1 gl | skip) <;> (try dsimp only at gl)
              · exfalso; omega
              (conv => whnf); repeat ((first | (refine And.intro ?_ ?_; (focus ((repeat' (first | exact trivial | refine And.intro rfl ?_)); done))) | (refine And.intro ?_ ?_; (focus (first | omega | (dsimp -iota only; omega) | (simp -iota; omega) | (simp -iota; done) | decide)))); conv => whnf)
              refine AWP.of_ent ?_ (key4 ⟨s, G, hs, by omega, hG⟩)
              refine Ent.mk' [some 0, some 1, some 2, some 4] (by kernel_rfl) ?_ ?_
              · exact ⟨AVE.refl _, AVE.refl _, AVE.refl _, AVE.refl _, AVE.refl _, AVE.refl _, AVE.refl _, AVE.refl _, AVE.refl _, trivial⟩
              · (repeat' first | exact trivial | refine ⟨⟨_, rfl, ChE.refl _⟩, ?_⟩)
    all_goals
      intro y
      obtain ⟨s', G', hs', hn', hG'⟩ := y
      refine AWP.loop (X := List MK) (fun x => [(0, .iv (.sl 3 l.length fun i => actI (l.getD i default))), (3, .ptr 0 0), (4, .mp 1), (5, AV.int .u64 s'.n), (6, .mp 2), (26, .iv (.sl 3 l.length fun i => actI (l.getD i default))), (27, AV.int .i64 l.length), (28, AV.int .i64 i), (129, .ptr 3 0)]) (fun x => ⟨4, [(0, .sem (Nest s'.H)), (1, .mapit none (smap mk s'.l) x 3 none), (2, .map (some .u64) (gm G'))]⟩) (fun x => x.length) ((smap mk s'.l).map (·.1)) ?_ fun x => AWP.go (S := []) (cfgLOk _ _) (.of_eq (by kernel_rfl)) ?_
      · exact Ent.mk' [some 0, some 1, some 2, some 3] (by kernel_rfl) (by repeat' first | exact trivial | refine And.intro (AVE.refl _) ?_ | refine And.intro (AVE.int (by first | rfl | omega | (dsimp only; omega) | (simp -iota; omega) | (simp -iota; done))) ?_ | refine And.intro (AVE.bool (by assumption)) ?_ | refine And.intro (AVE.len (by first | rfl | omega | (dsimp only; omega) | (simp -iota; omega) | (simp -iota; done))) ?_) (by repeat' (first | exact trivial | refine ⟨⟨_, rfl, ChE.refl _⟩, ?_⟩))
      · (conv => whnf); repeat ((first | (refine And.intro ?_ ?_; (focus ((repeat' (first | exact trivial | refine And.intro rfl ?_)); done))) | (refine And.intro ?_ ?_; (focus (first | omega | (dsimp -iota only; omega) | (simp -iota; omega) | (simp -iota; done) | decide)))); conv => whnf)
        refine ⟨fun p hp hl => ?_, fun _ => ?_⟩
        · obtain ⟨q, hq', rfl⟩ := List.mem_map.1 hp
          (conv => whnf); repeat ((first | (refine And.intro ?_ ?_; (focus ((repeat' (first | exact trivial | refine And.intro rfl ?_)); done))) | (refine And.intro ?_ ?_; (focus (first | omega | (dsimp -iota only; omega) | (simp -iota; omega) | (simp -iota; done) | decide)))); conv => whnf)
          refine AFn.use [0] (lives_at s' hs' hq') (by kernel_rfl) rfl (by repeat' first | exact trivial | refine ⟨rfl, ?_⟩) fun _ => ?_
          (conv => whnf); repeat ((first | (refine And.intro ?_ ?_; (focus ((repeat' (first | exact trivial | refine And.intro rfl ?_)); done))) | (refine And.intro ?_ ?_; (focus (first | omega | (dsimp -iota only; omega) | (simp -iota; omega) | (simp -iota; done) | decide)))); conv => whnf)
          refine branchB_of (fun gq => ?_) (fun gq => ?_) <;> (first | replace gq := not_t gq | replace gq := not_f gq | skip) <;> (first | replace gq := of_decide_eq_true gq | replace gq := of_decide_eq_false gq | skip) <;> (first | replace gq := Classical.not_not.1 gq | skip) <;> (try dsimp only at gq)
          · exact absurd rfl gq
          (conv => whnf); repeat ((first | (refine And.intro ?_ ?_; (focus ((repeat' (first | exact trivial | refine And.intro rfl ?_)); done))) | (refine And.intro ?_ ?_; (focus (first | omega | (dsimp -iota only; omega) | (simp -iota; omega) | (simp -iota; done) | decide)))); conv => whnf)
          refine ⟨x.filter fun j => decide (j ≠ MK.s q.1), Ent.mk' [some 0, some 1, some 2, some 3] (by kernel_rfl) (by repeat' first | exact trivial | refine And.intro (AVE.refl _) ?_ | refine And.intro (AVE.int (by first | rfl | omega | (dsimp only; omega) | (simp -iota; omega) | (simp -iota; done))) ?_ | refine And.intro (AVE.bool (by assumption)) ?_ | refine And.intro (AVE.len (by first | rfl | omega | (dsimp only; omega) | (simp -iota; omega) | (simp -iota; done))) ?_) ?_, ?_⟩
          · exact ⟨⟨_, rfl, ChE.refl _⟩, ⟨_, rfl, ChE.stand⟩, ⟨_, rfl, ChE.refl _⟩, trivial⟩
          · exact left_lt hl
        · (conv => whnf); repeat ((first | (refine And.intro ?_ ?_; (focus ((repeat' (first | exact trivial | refine And.intro rfl ?_)); done))) | (refine And.intro ?_ ?_; (focus (first | omega | (dsimp -iota only; omega) | (simp -iota; omega) | (simp -iota; done) | decide)))); conv => whnf)
          refine AWP.loop (X := List MK) (fun x => [(0, .iv (.sl 3 l.length fun i => actI (l.getD i default))), (3, .ptr 0 0), (4, .mp 1), (5, AV.int .u64 s'.n), (6, .mp 2), (26, .iv (.sl 3 l.length fun i => actI (l.getD i default))), (27, AV.int .i64 l.length), (28, AV.int .i64 i), (150, .ptr 3 0)]) (fun x => ⟨4, [(0, .sem (Nest s'.H)), (1, .map none (smap mk s'.l)), (2, .mapit (some .u64) (gm G') x 3 none)]⟩) (fun x => x.length) ((gm G').map (·.1)) ?_ fun x => AWP.go (S := []) (cfgLOk _ _) (.of_eq (by kernel_rfl)) ?_
          · exact Ent.mk' [some 0, some 1, some 2, some 4] (by kernel_rfl) (by repeat' first | exact trivial | refine And.intro (AVE.refl _) ?_ | refine And.intro (AVE.int (by first | rfl | omega | (dsimp only; omega) | (simp -iota; omega) | (simp -iota; done))) ?_ | refine And.intro (AVE.bool (by assumption)) ?_ | refine And.intro (AVE.len (by first | rfl | omega | (dsimp only; omega) | (simp -iota; omega) | (simp -iota; done))) ?_) (by repeat' (first | exact trivial | refine ⟨⟨_, rfl, ChE.refl _⟩, ?_⟩))
          · (conv => whnf); repeat ((first | (refine And.intro ?_ ?_; (focus ((repeat' (first | exact trivial | refine And.intro rfl ?_)); done))) | (refine And.intro ?_ ?_; (focus (first | omega | (dsimp -iota only; omega) | (simp -iota; omega) | (simp -iota; done) | decide)))); conv => whnf)
            refine ⟨fun p hp hl => ?_, fun _ => ?_⟩
            · obtain ⟨g, hg, rfl⟩ := List.mem_map.1 hp
              (conv => whnf); repeat ((first | (refine And.intro ?_ ?_; (focus ((repeat' (first | exact trivial | refine And.intro rfl ?_)); done))) | (refine And.intro ?_ ?_; (focus (first | omega | (dsimp -iota only; omega) | (simp -iota; omega) | (simp -iota; done) | decide)))); conv => whnf)
              refine AFn.use [0] (lives_off s' hs' (hG' g hg).2) (by kernel_rfl) rfl (by repeat' first | exact trivial | refine ⟨rfl, ?_⟩) fun _ => ?_
              (conv => whnf); repeat ((first | (refine And.intro ?_ ?_; (focus ((repeat' (first | exact trivial | refine And.intro rfl ?_)); done))) | (refine And.intro ?_ ?_; (focus (first | omega | (dsimp -iota only; omega) | (simp -iota; omega) | (simp -iota; done) | decide)))); conv => whnf)
              refine ⟨x.filter fun j => decide (j ≠ MK.i .u64 g), Ent.mk' [some 0, some 1, some 2, some 3] (by kernel_rfl) (by repeat' first | exact trivial | refine And.intro (AVE.refl _) ?_ | refine And.intro (AVE.int (by first | rfl | omega | (dsimp only; omega) | (simp -iota; omega) | (simp -iota; done))) ?_ | refine And.intro (AVE.bool (by assumption)) ?_ | refine And.intro (AVE.len (by first | rfl | omega | (dsimp only; omega) | (simp -iota; omega) | (simp -iota; done))) ?_) ?_, ?_⟩
              · exact ⟨⟨_, rfl, ChE.refl _⟩, ⟨_, rfl, ChE.refl _⟩, ⟨_, rfl, ChE.stand⟩, trivial⟩
              · exact left_lt hl
            · (conv => whnf); repeat ((first | (refine And.intro ?_ ?_; (focus ((repeat' (first | exact trivial | refine And.intro rfl ?_)); done))) | (refine And.intro ?_ ?_; (focus (first | omega | (dsimp -iota only; omega) | (simp -iota; omega) | (simp -iota; done) | decide)))); conv => whnf)
              refine ⟨⟨i + 1, s', G', by omega, by omega, hs', by omega, hG'⟩, Ent.mk' [some 0, some 1, some 2] (by kernel_rfl) (by repeat' first | exact trivial | refine And.intro (AVE.refl _) ?_ | refine And.intro (AVE.int (by first | rfl | omega | (dsimp only; omega) | (simp -iota; omega) | (simp -iota; done))) ?_ | refine And.intro (AVE.bool (by assumption)) ?_ | refine And.intro (AVE.len (by first | rfl | omega | (dsimp only; omega) | (simp -iota; omega) | (simp -iota; done))) ?_) (by repeat' (first | exact trivial | refine ⟨⟨_, rfl, ChE.refl _⟩, ?_⟩)), ?_⟩
              show 80 - (i + 1) < 80 - i
              omega
end Go.Proofs.Ytoofmkkcaoojiaa.Ax
