/-
  Chapter 06: FolderBegins, the law's own walk.
-/
import Derived.Test.YteeifedpabcehaaFx
namespace Go.Proofs.Yteeifedpabcehaa.Ax
open Go.RowKit Go.Sort
set_option maxRecDepth 100000
structure B1 (A : List Call) where
  i : Nat
  f : FD
  hi : i ≤ 60
  hil : i ≤ A.length
  hf : f.In (IOk f.last i)
  hd : f.ds.length ≤ i
  hl : f.last ≤ i
noncomputable def cfgB (N b : Nat) : Cfg := { P := Go.Proofs.Try.prog, T := tt, wr := false, N := N, pure := [], base := b, cuts := [6] }
theorem cfgBOk (N b : Nat) : (cfgB N b).Ok := ⟨ttOk, ttBytes, by kernel_rfl⟩
set_option maxHeartbeats 4000000 in
theorem begins_law (A : List Call) : Law Go.Proofs.Try.prog 4 [rowC A] := by
  refine ACall.fin ?_
  refine ACall.walkF (C := cfgB 193 0) (cfgBOk _ _) sch4 (fn := Go.Proofs.Try.f4) (by kernel_rfl) (by kernel_rfl) rfl (by kernel_rfl) (by kernel_rfl) rfl rfl fun hlen hheap => ?_
  obtain ⟨hl1, _⟩ := hlen
  simp only [lenF] at hl1
  (conv => whnf); repeat ((first | (refine And.intro ?_ ?_; (focus ((repeat' (first | exact trivial | refine And.intro rfl ?_)); done))) | (refine And.intro ?_ ?_; (focus (first | omega | (dsimp -iota only; omega) | (simp -iota; omega) | (simp -iota; done) | decide)))); conv => whnf)
  refine AFn.use [] (new_ok) (by kernel_rfl) rfl (by repeat' first | exact trivial | refine ⟨rfl, ?_⟩) fun _ => ?_
  (conv => whnf); repeat ((first | (refine And.intro ?_ ?_; (focus ((repeat' (first | exact trivial | refine And.intro rfl ?_)); done))) | (refine And.intro ?_ ?_; (focus (first | omega | (dsimp -iota only; omega) | (simp -iota; omega) | (simp -iota; done) | decide)))); conv => whnf)
  refine AWP.merge (Y := Unit) (fun u => []) (fun u => ⟨0, []⟩) 0 (fun u => ?_) ?_
  · (conv => whnf); repeat ((first | (refine And.intro ?_ ?_; (focus ((repeat' (first | exact trivial | refine And.intro rfl ?_)); done))) | (refine And.intro ?_ ?_; (focus (first | omega | (dsimp -iota only; omega) | (simp -iota; omega) | (simp -iota; done) | decide)))); conv => whnf)
    refine AFn.use [] (knows_ok) (by kernel_rfl) rfl (by repeat' first | exact trivial | refine ⟨rfl, ?_⟩) fun _ => ?_
    (conv => whnf); repeat ((first | (refine And.intro ?_ ?_; (focus ((repeat' (first | exact trivial | refine And.intro rfl ?_)); done))) | (refine And.intro ?_ ?_; (focus (first | omega | (dsimp -iota only; omega) | (simp -iota; omega) | (simp -iota; done) | decide)))); conv => whnf)
    exact ⟨_, _, Ent.mk' (e' := [(0, AV.bool true)]) (H' := ⟨0, []⟩) [] (by kernel_rfl) ⟨AVE.of_eq rfl, trivial⟩ trivial, (), rfl, rfl⟩
  refine AWP.loop (X := B1 A) (fun x => [(0, rowC A), (3, .ptr 0 0), (4, .row 1 1 0 (x.f.ds.length + 1)), (5, AV.int .i64 x.i)]) (fun x => ⟨2, [(0, .sem (Nest x.f.H)), (1, snc x.f)]⟩) (fun x => 60 - x.i) (⟨0, ⟨[], [], [], 0⟩, by omega, by omega, ⟨rfl, fun k _ => by cases k <;> exact IOk.none _ _⟩, by simp, by simp⟩) ?_ fun x => AWP.go (S := sch4) (cfgBOk _ _) (.of_eq (by kernel_rfl)) ?_
  · refine Ent.mk' [some 0, some 1] (by kernel_rfl) ⟨AVE.refl _, AVE.refl _, AVE.refl _, AVE.refl _, trivial⟩ ⟨⟨_, rfl, ChE.refl _⟩, ⟨_, rfl, ?_⟩, trivial⟩
    refine ChE.rowE (Nat.le_refl _) fun i hi => ?_
    have hi : i < 1 := hi
    have : i = 0 := by omega
    subst this
    have e0 : sts ⟨[], [], [], 0⟩ 0 = [] := List.eq_nil_of_length_eq_zero (lsN_length _)
    show IVEs [IV.v (.slice none 0 0)] [.sl 2 (sts ⟨[], [], [], 0⟩ 0).length (enF (sts ⟨[], [], [], 0⟩ 0))]
    rw [e0]
    exact ⟨IVE.nilSl _ _, rfl⟩
  · obtain ⟨i, f, hi, hil, hf, hd, hl⟩ := x
    have hix : ((i : Nat) : Int).toNat = i := by simp
    (conv => whnf); repeat ((first | (refine And.intro ?_ ?_; (focus ((repeat' (first | exact trivial | refine And.intro rfl ?_)); done))) | (refine And.intro ?_ ?_; (focus (first | omega | (dsimp -iota only; omega) | (simp -iota; omega) | (simp -iota; done) | decide)))); conv => whnf)
    refine branchB_of (fun h => ?_) (fun h => ?_) <;> (first | replace h := not_t h | replace h := not_f h | skip) <;> (first | replace h := of_decide_eq_true h | replace h := of_decide_eq_false h | skip) <;> (first | replace h := Classical.not_not.1 h | skip) <;> (try dsimp only at h)
    rotate_left
    · (conv => whnf); repeat ((first | (refine And.intro ?_ ?_; (focus ((repeat' (first | exact trivial | refine And.intro rfl ?_)); done))) | (refine And.intro ?_ ?_; (focus (first | omega | (dsimp -iota only; omega) | (simp -iota; omega) | (simp -iota; done) | decide)))); conv => whnf)
      exact ⟨(), Ent.mk' [] (by kernel_rfl) (by repeat' first | exact trivial | refine And.intro (AVE.refl _) ?_ | refine And.intro (AVE.int (by first | rfl | omega | (dsimp only; omega) | (simp -iota; omega) | (simp -iota; done))) ?_ | refine And.intro (AVE.bool (by assumption)) ?_ | refine And.intro (AVE.len (by first | rfl | omega | (dsimp only; omega) | (simp -iota; omega) | (simp -iota; done))) ?_) (by repeat' (first | exact trivial | refine ⟨⟨_, rfl, ChE.refl _⟩, ?_⟩))⟩
    (conv => whnf); repeat ((first | (refine And.intro ?_ ?_; (focus ((repeat' (first | exact trivial | refine And.intro rfl ?_)); done))) | (refine And.intro ?_ ?_; (focus (first | omega | (dsimp -iota only; omega) | (simp -iota; omega) | (simp -iota; done) | decide)))); conv => whnf)
    refine branchB_of (fun h2 => ?_) (fun h2 => ?_) <;> (first | replace h2 := not_t h2 | replace h2 := not_f h2 | skip) <;> (first | replace h2 := of_decide_eq_true h2 | replace h2 := of_decide_eq_false h2 | skip) <;> (first | replace h2 := Classical.not_not.1 h2 | skip) <;> (try dsimp only at h2)
    rotate_left
    · (conv => whnf); repeat ((first | (refine And.intro ?_ ?_; (focus ((repeat' (first | exact trivial | refine And.intro rfl ?_)); done))) | (refine And.intro ?_ ?_; (focus (first | omega | (dsimp -iota only; omega) | (simp -iota; omega) | (simp -iota; done) | decide)))); conv => whnf)
      exact ⟨(), Ent.mk' [] (by kernel_rfl) (by repeat' first | exact trivial | refine And.intro (AVE.refl _) ?_ | refine And.intro (AVE.int (by first | rfl | omega | (dsimp only; omega) | (simp -iota; omega) | (simp -iota; done))) ?_ | refine And.intro (AVE.bool (by assumption)) ?_ | refine And.intro (AVE.len (by first | rfl | omega | (dsimp only; omega) | (simp -iota; omega) | (simp -iota; done))) ?_) (by repeat' (first | exact trivial | refine ⟨⟨_, rfl, ChE.refl _⟩, ?_⟩))⟩
    (conv => whnf); repeat ((first | (refine And.intro ?_ ?_; (focus ((repeat' (first | exact trivial | refine And.intro rfl ?_)); done))) | (refine And.intro ?_ ?_; (focus (first | omega | (dsimp -iota only; omega) | (simp -iota; omega) | (simp -iota; done) | decide)))); conv => whnf)
    generalize A.getD ((i : Nat) : Int).toNat default = c at *
    refine AFn.use [0] (loose_ok f) (by kernel_rfl) rfl (by repeat' first | exact trivial | refine ⟨rfl, ?_⟩) fun _ => ?_
    have hfn : f.In NOk := hf.mono fun m hm => hm.nok (by omega)
    have hVlt := live_lt f
    have hVl := live_len hfn
    have hVnd : f.live.Nodup := hVlt.imp fun h e => by omega
    have hVin : ∀ k, k ≤ f.ds.length → ∀ p ∈ onAll f.safe (f.ds.take k), p.2 ∈ f.live := fun k hk p hp => live_mem.2 ⟨k, hk, List.mem_map_of_mem hp⟩
    (conv => whnf); repeat ((first | (refine And.intro ?_ ?_; (focus ((repeat' (first | exact trivial | refine And.intro rfl ?_)); done))) | (refine And.intro ?_ ?_; (focus (first | omega | (dsimp -iota only; omega) | (simp -iota; omega) | (simp -iota; done) | decide)))); conv => whnf)
    refine AFn.use [0] (live_ok f hfn (by omega)) (by kernel_rfl) rfl (by repeat' first | exact trivial | refine ⟨rfl, ?_⟩) fun _ => ?_
    generalize f.live = V at *
    (conv => whnf); repeat ((first | (refine And.intro ?_ ?_; (focus ((repeat' (first | exact trivial | refine And.intro rfl ?_)); done))) | (refine And.intro ?_ ?_; (focus (first | omega | (dsimp -iota only; omega) | (simp -iota; omega) | (simp -iota; done) | decide)))); conv => whnf)
    refine AWP.loop (X := { y : Nat // y ≤ V.length }) (fun y => [(0, rowC A), (3, .ptr 0 0), (4, .row 1 1 0 (f.ds.length + 1)), (5, AV.int .i64 i), (6, .ptr 2 0), (7, AV.int .i64 f.ds.length), (8, .mp 3), (37, .iv (.sl 1 V.length (uF V.toArray))), (38, AV.int .i64 V.length), (39, AV.int .i64 y.1)]) (fun y => ⟨4, [(0, .sem (Nest f.H)), (1, snc f), (2, .cells 27 [AV.int .i64 c.w, .str c.s, .str c.t, AV.int .i64 c.k]), (3, .map (some .u64) (pm (V.take y.1)))]⟩) (fun y => V.length - y.1) (⟨0, Nat.zero_le _⟩) ?_ fun y => AWP.go (S := sch4) (cfgBOk _ _) (.of_eq (by kernel_rfl)) ?_
    · exact Ent.mk' [some 0, some 1, some 2, some 3] (by kernel_rfl) (by repeat' first | exact trivial | refine And.intro (AVE.refl _) ?_ | refine And.intro (AVE.int (by first | rfl | omega | (dsimp only; omega) | (simp -iota; omega) | (simp -iota; done))) ?_ | refine And.intro (AVE.bool (by assumption)) ?_ | refine And.intro (AVE.len (by first | rfl | omega | (dsimp only; omega) | (simp -iota; omega) | (simp -iota; done))) ?_) (by repeat' (first | exact trivial | refine ⟨⟨_, rfl, ChE.refl _⟩, ?_⟩))
    · obtain ⟨v, hv⟩ := y
      have iv : ((v : Nat) : Int).toNat = v := by simp
      (conv => whnf); repeat ((first | (refine And.intro ?_ ?_; (focus ((repeat' (first | exact trivial | refine And.intro rfl ?_)); done))) | (refine And.intro ?_ ?_; (focus (first | omega | (dsimp -iota only; omega) | (simp -iota; omega) | (simp -iota; done) | decide)))); conv => whnf)
      refine branchB_of (fun gv => ?_) (fun gv => ?_) <;> (first | replace gv := not_t gv | replace gv := not_f gv | skip) <;> (first | replace gv := of_decide_eq_true gv | replace gv := of_decide_eq_false gv | skip) <;> (first | replace gv := Classical.not_not.1 gv | skip) <;> (try dsimp only at gv)
      · have hvl : v < V.length := by omega
        have hnot := not_taken hVnd hvl
        have hnx := take_next hvl
        have e1 : V.toArray[((v : Nat) : Int).toNat]! = V[v] := by rw [iv, bang_getD]; simp [List.getD, hvl]
        (conv => whnf); repeat ((first | (refine And.intro ?_ ?_; (focus ((repeat' (first | exact trivial | refine And.intro rfl ?_)); done))) | (refine And.intro ?_ ?_; (focus (first | omega | (dsimp -iota only; omega) | (simp -iota; omega) | (simp -iota; done) | decide)))); conv => whnf)
        rw [e1, pm_put hnot, ← hnx]
        refine ⟨⟨v + 1, by omega⟩, Ent.mk' [some 0, some 1, some 2, some 3] (by kernel_rfl) (by repeat' first | exact trivial | refine And.intro (AVE.refl _) ?_ | refine And.intro (AVE.int (by first | rfl | omega | (dsimp only; omega) | (simp -iota; omega) | (simp -iota; done))) ?_ | refine And.intro (AVE.bool (by assumption)) ?_ | refine And.intro (AVE.len (by first | rfl | omega | (dsimp only; omega) | (simp -iota; omega) | (simp -iota; done))) ?_) (by repeat' (first | exact trivial | refine ⟨⟨_, rfl, ChE.refl _⟩, ?_⟩)), ?_⟩
        show V.length - (v + 1) < V.length - v
        omega
      · have hall : V.take v = V := List.take_of_length_le (by omega)
        rw [hall]
        have hst := does_sizes f c
        have hf' := does_iok hf c
        obtain ⟨f', hfd⟩ : ∃ f', f' = f.does c := ⟨_, rfl⟩
        rw [← hfd] at hst hf'
        obtain ⟨hst1, hst2⟩ := hst
        have hnow := hf'.now
        have hnok := hnow.nok (by omega)
        have hLl := lsN_length f'.now
        have hLn := hnow.len
        obtain ⟨L, hL⟩ : ∃ L, L = lsN f'.now := ⟨_, rfl⟩
        have hmem : ∀ p ∈ L, p ∈ f'.now := fun p hp => (lsN_mem hnow.nd).1 (hL ▸ hp)
        rw [← hL] at hLl
        (conv => whnf); repeat ((first | (refine And.intro ?_ ?_; (focus ((repeat' (first | exact trivial | refine And.intro rfl ?_)); done))) | (refine And.intro ?_ ?_; (focus (first | omega | (dsimp -iota only; omega) | (simp -iota; omega) | (simp -iota; done) | decide)))); conv => whnf)
        refine AFn.use [0] (does_ok f (by omega) (by omega) c) (by kernel_rfl) rfl (by repeat' first | exact trivial | refine ⟨rfl, ?_⟩) fun _ => ?_
        rw [← hfd]
        (conv => whnf); repeat ((first | (refine And.intro ?_ ?_; (focus ((repeat' (first | exact trivial | refine And.intro rfl ?_)); done))) | (refine And.intro ?_ ?_; (focus (first | omega | (dsimp -iota only; omega) | (simp -iota; omega) | (simp -iota; done) | decide)))); conv => whnf)
        refine AFn.use [0] (list_ok f' hnok) (by kernel_rfl) rfl (by repeat' first | exact trivial | refine ⟨rfl, ?_⟩) fun _ => ?_
        rw [← hL]
        (conv => whnf); repeat ((first | (refine And.intro ?_ ?_; (focus ((repeat' (first | exact trivial | refine And.intro rfl ?_)); done))) | (refine And.intro ?_ ?_; (focus (first | omega | (dsimp -iota only; omega) | (simp -iota; omega) | (simp -iota; done) | decide)))); conv => whnf)
        refine AWP.loop (X := { z : Nat // z ≤ L.length }) (fun z => [(0, rowC A), (3, .ptr 0 0), (4, .row 1 1 0 (f.ds.length + 1)), (5, AV.int .i64 i), (6, .ptr 2 0), (7, AV.int .i64 f.ds.length), (8, .mp 3), (11, .iv (.sl 2 L.length (enF L))), (12, AV.int .i64 z.1)]) (fun z => ⟨4, [(0, .sem (Nest f'.H)), (1, snc f), (2, .cells 27 [AV.int .i64 c.w, .str c.s, .str c.t, AV.int .i64 c.k]), (3, .map (some .u64) (pm V))]⟩) (fun z => L.length - z.1) (⟨0, Nat.zero_le _⟩) ?_ fun z => AWP.go (S := sch4) (cfgBOk _ _) (.of_eq (by kernel_rfl)) ?_
        · exact Ent.mk' [some 0, some 1, some 2, some 3] (by kernel_rfl) (by repeat' first | exact trivial | refine And.intro (AVE.refl _) ?_ | refine And.intro (AVE.int (by first | rfl | omega | (dsimp only; omega) | (simp -iota; omega) | (simp -iota; done))) ?_ | refine And.intro (AVE.bool (by assumption)) ?_ | refine And.intro (AVE.len (by first | rfl | omega | (dsimp only; omega) | (simp -iota; omega) | (simp -iota; done))) ?_) (by repeat' (first | exact trivial | refine ⟨⟨_, rfl, ChE.refl _⟩, ?_⟩))
        · obtain ⟨z, hz⟩ := z
          have iz : ((z : Nat) : Int).toNat = z := by simp
          (conv => whnf); repeat ((first | (refine And.intro ?_ ?_; (focus ((repeat' (first | exact trivial | refine And.intro rfl ?_)); done))) | (refine And.intro ?_ ?_; (focus (first | omega | (dsimp -iota only; omega) | (simp -iota; omega) | (simp -iota; done) | decide)))); conv => whnf)
          refine branchB_of (fun gz => ?_) (fun gz => ?_) <;> (first | replace gz := not_t gz | replace gz := not_f gz | skip) <;> (first | replace gz := of_decide_eq_true gz | replace gz := of_decide_eq_false gz | skip) <;> (first | replace gz := Classical.not_not.1 gz | skip) <;> (try dsimp only at gz)
          · have hzl : z < L.length := by omega
            have hzm : L[z] ∈ L := List.getElem_mem hzl
            have ez' : L.getD ((z : Nat) : Int).toNat ([], 0) = L[z] := by rw [iz]; simp [List.getD, hzl]
            (conv => whnf); repeat ((first | (refine And.intro ?_ ?_; (focus ((repeat' (first | exact trivial | refine And.intro rfl ?_)); done))) | (refine And.intro ?_ ?_; (focus (first | omega | (dsimp -iota only; omega) | (simp -iota; omega) | (simp -iota; done) | decide)))); conv => whnf)
            refine branchB_of (fun g0 => ?_) (fun g0 => ?_) <;> (first | replace g0 := not_t g0 | replace g0 := not_f g0 | skip) <;> (first | replace g0 := of_decide_eq_true g0 | replace g0 := of_decide_eq_false g0 | skip) <;> (first | replace g0 := Classical.not_not.1 g0 | skip) <;> (try dsimp only at g0)
            · have hz1 : (((z : Nat) : Int) - 1).toNat = z - 1 := by omega
              have hbl : Op.bytesLess (L.getD (((z : Nat) : Int) - 1).toNat ([], 0)).1 (L.getD ((z : Nat) : Int).toNat ([], 0)).1 = true := by
                rw [hz1, iz, Go.Proofs.bytesLess_eq, hL]
                exact decide_eq_true (lsN_lt hnow.nd (by omega) (by rw [← hL]; exact hzl))
              (conv => whnf); repeat ((first | (refine And.intro ?_ ?_; (focus ((repeat' (first | exact trivial | refine And.intro rfl ?_)); done))) | (refine And.intro ?_ ?_; (focus (first | omega | (dsimp -iota only; omega) | (simp -iota; omega) | (simp -iota; done) | decide)))); conv => whnf)
              refine branchB_of (fun g1 => ?_) (fun g1 => ?_)
              · exact absurd (hbl.symm.trans (not_t g1)) (by decide)
              (conv => whnf); repeat ((first | (refine And.intro ?_ ?_; (focus ((repeat' (first | exact trivial | refine And.intro rfl ?_)); done))) | (refine And.intro ?_ ?_; (focus (first | omega | (dsimp -iota only; omega) | (simp -iota; omega) | (simp -iota; done) | decide)))); conv => whnf)
              refine branchB_of (fun g6 => ?_) (fun g6 => ?_) <;> (first | replace g6 := not_t g6 | replace g6 := not_f g6 | skip) <;> (first | replace g6 := of_decide_eq_true g6 | replace g6 := of_decide_eq_false g6 | skip) <;> (first | replace g6 := Classical.not_not.1 g6 | skip) <;> (try dsimp only at g6)
              · have hVz : (L[z]).2 ∈ V := by
                  rw [hfd, does6 f g6] at hmem
                  exact hVin _ (keep_le f _) _ (hmem _ hzm)
                (conv => whnf); repeat ((first | (refine And.intro ?_ ?_; (focus ((repeat' (first | exact trivial | refine And.intro rfl ?_)); done))) | (refine And.intro ?_ ?_; (focus (first | omega | (dsimp -iota only; omega) | (simp -iota; omega) | (simp -iota; done) | decide)))); conv => whnf)
                rw [ez', pm_find, if_pos hVz]
                refine ⟨fun x hx => ?_, (fun hx => by cases hx)⟩
                cases hx
                (conv => whnf); repeat ((first | (refine And.intro ?_ ?_; (focus ((repeat' (first | exact trivial | refine And.intro rfl ?_)); done))) | (refine And.intro ?_ ?_; (focus (first | omega | (dsimp -iota only; omega) | (simp -iota; omega) | (simp -iota; done) | decide)))); conv => whnf)
                refine ⟨⟨z + 1, by omega⟩, Ent.mk' [some 0, some 1, some 2, some 3] (by kernel_rfl) (by repeat' first | exact trivial | refine And.intro (AVE.refl _) ?_ | refine And.intro (AVE.int (by first | rfl | omega | (dsimp only; omega) | (simp -iota; omega) | (simp -iota; done))) ?_ | refine And.intro (AVE.bool (by assumption)) ?_ | refine And.intro (AVE.len (by first | rfl | omega | (dsimp only; omega) | (simp -iota; omega) | (simp -iota; done))) ?_) (by repeat' (first | exact trivial | refine ⟨⟨_, rfl, ChE.refl _⟩, ?_⟩)), ?_⟩
                show L.length - (z + 1) < L.length - z
                omega
              · (conv => whnf); repeat ((first | (refine And.intro ?_ ?_; (focus ((repeat' (first | exact trivial | refine And.intro rfl ?_)); done))) | (refine And.intro ?_ ?_; (focus (first | omega | (dsimp -iota only; omega) | (simp -iota; omega) | (simp -iota; done) | decide)))); conv => whnf)
                refine ⟨⟨z + 1, by omega⟩, Ent.mk' [some 0, some 1, some 2, some 3] (by kernel_rfl) (by repeat' first | exact trivial | refine And.intro (AVE.refl _) ?_ | refine And.intro (AVE.int (by first | rfl | omega | (dsimp only; omega) | (simp -iota; omega) | (simp -iota; done))) ?_ | refine And.intro (AVE.bool (by assumption)) ?_ | refine And.intro (AVE.len (by first | rfl | omega | (dsimp only; omega) | (simp -iota; omega) | (simp -iota; done))) ?_) (by repeat' (first | exact trivial | refine ⟨⟨_, rfl, ChE.refl _⟩, ?_⟩)), ?_⟩
                show L.length - (z + 1) < L.length - z
                omega
            · (conv => whnf); repeat ((first | (refine And.intro ?_ ?_; (focus ((repeat' (first | exact trivial | refine And.intro rfl ?_)); done))) | (refine And.intro ?_ ?_; (focus (first | omega | (dsimp -iota only; omega) | (simp -iota; omega) | (simp -iota; done) | decide)))); conv => whnf)
              refine branchB_of (fun g6 => ?_) (fun g6 => ?_) <;> (first | replace g6 := not_t g6 | replace g6 := not_f g6 | skip) <;> (first | replace g6 := of_decide_eq_true g6 | replace g6 := of_decide_eq_false g6 | skip) <;> (first | replace g6 := Classical.not_not.1 g6 | skip) <;> (try dsimp only at g6)
              · have hVz : (L[z]).2 ∈ V := by
                  rw [hfd, does6 f g6] at hmem
                  exact hVin _ (keep_le f _) _ (hmem _ hzm)
                (conv => whnf); repeat ((first | (refine And.intro ?_ ?_; (focus ((repeat' (first | exact trivial | refine And.intro rfl ?_)); done))) | (refine And.intro ?_ ?_; (focus (first | omega | (dsimp -iota only; omega) | (simp -iota; omega) | (simp -iota; done) | decide)))); conv => whnf)
                rw [ez', pm_find, if_pos hVz]
                refine ⟨fun x hx => ?_, (fun hx => by cases hx)⟩
                cases hx
                (conv => whnf); repeat ((first | (refine And.intro ?_ ?_; (focus ((repeat' (first | exact trivial | refine And.intro rfl ?_)); done))) | (refine And.intro ?_ ?_; (focus (first | omega | (dsimp -iota only; omega) | (simp -iota; omega) | (simp -iota; done) | decide)))); conv => whnf)
                refine ⟨⟨z + 1, by omega⟩, Ent.mk' [some 0, some 1, some 2, some 3] (by kernel_rfl) (by repeat' first | exact trivial | refine And.intro (AVE.refl _) ?_ | refine And.intro (AVE.int (by first | rfl | omega | (dsimp only; omega) | (simp -iota; omega) | (simp -iota; done))) ?_ | refine And.intro (AVE.bool (by assumption)) ?_ | refine And.intro (AVE.len (by first | rfl | omega | (dsimp only; omega) | (simp -iota; omega) | (simp -iota; done))) ?_) (by repeat' (first | exact trivial | refine ⟨⟨_, rfl, ChE.refl _⟩, ?_⟩)), ?_⟩
                show L.length - (z + 1) < L.length - z
                omega
              · (conv => whnf); repeat ((first | (refine And.intro ?_ ?_; (focus ((repeat' (first | exact trivial | refine And.intro rfl ?_)); done))) | (refine And.intro ?_ ?_; (focus (first | omega | (dsimp -iota only; omega) | (simp -iota; omega) | (simp -iota; done) | decide)))); conv => whnf)
                refine ⟨⟨z + 1, by omega⟩, Ent.mk' [some 0, some 1, some 2, some 3] (by kernel_rfl) (by repeat' first | exact trivial | refine And.intro (AVE.refl _) ?_ | refine And.intro (AVE.int (by first | rfl | omega | (dsimp only; omega) | (simp -iota; omega) | (simp -iota; done))) ?_ | refine And.intro (AVE.bool (by assumption)) ?_ | refine And.intro (AVE.len (by first | rfl | omega | (dsimp only; omega) | (simp -iota; omega) | (simp -iota; done))) ?_) (by repeat' (first | exact trivial | refine ⟨⟨_, rfl, ChE.refl _⟩, ?_⟩)), ?_⟩
                show L.length - (z + 1) < L.length - z
                omega
          · (conv => whnf); repeat ((first | (refine And.intro ?_ ?_; (focus ((repeat' (first | exact trivial | refine And.intro rfl ?_)); done))) | (refine And.intro ?_ ?_; (focus (first | omega | (dsimp -iota only; omega) | (simp -iota; omega) | (simp -iota; done) | decide)))); conv => whnf)
            refine AWP.meet (Y := Unit) (fun u => [(0, rowC A), (3, .ptr 0 0), (4, .row 1 1 0 (f'.ds.length + 1)), (5, AV.int .i64 i), (7, AV.int .i64 f.ds.length)]) (fun u => ⟨2, [(0, .sem (Nest f'.H)), (1, snc f')]⟩) (fun u => ?_) (AWP.block' (AWP.go (S := sch4) (cfgBOk _ _) (.of_eq (by kernel_rfl)) ?_))
            rotate_left
            · (conv => whnf); repeat ((first | (refine And.intro ?_ ?_; (focus ((repeat' (first | exact trivial | refine And.intro rfl ?_)); done))) | (refine And.intro ?_ ?_; (focus (first | omega | (dsimp -iota only; omega) | (simp -iota; omega) | (simp -iota; done) | decide)))); conv => whnf)
              have hone : ((f.ds.length + 1 : Nat) : Int) - 1 = f.ds.length := by omega
              have hix1 : 0 + (((f.ds.length + 1 : Nat) : Int) - 1).toNat = f.ds.length := by omega
              refine branchB_of (fun g5 => ?_) (fun g5 => ?_) <;> (first | replace g5 := not_t g5 | replace g5 := not_f g5 | skip) <;> (first | replace g5 := of_decide_eq_true g5 | replace g5 := of_decide_eq_false g5 | skip) <;> (first | replace g5 := Classical.not_not.1 g5 | skip) <;> (try dsimp only at g5)
              · have hf5 : f' = f.synced := hfd.trans (does5 f g5)
                have hlast : sts f f.ds.length = L := by rw [sts_now hf, hL, hf5]; rfl
                have hz5 : f'.ds.length = 0 := by rw [hf5]; rfl
                (conv => whnf); repeat ((first | (refine And.intro ?_ ?_; (focus ((repeat' (first | exact trivial | refine And.intro rfl ?_)); done))) | (refine And.intro ?_ ?_; (focus (first | omega | (dsimp -iota only; omega) | (simp -iota; omega) | (simp -iota; done) | decide)))); conv => whnf)
                rw [hix1, hlast]
                refine AFn.use [] (like_self L (by omega)) (by kernel_rfl) rfl (by repeat' first | exact trivial | refine ⟨rfl, ?_⟩) fun _ => ?_
                (conv => whnf); repeat ((first | (refine And.intro ?_ ?_; (focus ((repeat' (first | exact trivial | refine And.intro rfl ?_)); done))) | (refine And.intro ?_ ?_; (focus (first | omega | (dsimp -iota only; omega) | (simp -iota; omega) | (simp -iota; done) | decide)))); conv => whnf)
                refine ⟨(), Ent.mk' [some 0, some 4] (by kernel_rfl) (by repeat' first | exact trivial | refine And.intro (AVE.refl _) ?_ | refine And.intro (AVE.int (by first | rfl | omega | (dsimp only; omega) | (simp -iota; omega) | (simp -iota; done))) ?_ | refine And.intro (AVE.bool (by assumption)) ?_ | refine And.intro (AVE.len (by first | rfl | omega | (dsimp only; omega) | (simp -iota; omega) | (simp -iota; done))) ?_) ?_⟩
                exact ⟨⟨_, rfl, ChE.refl _⟩, ⟨_, rfl, si_one (by rw [hf5]; rfl) (by rw [hL, hf5]; rfl) rfl⟩, trivial⟩
              · (conv => whnf); repeat ((first | (refine And.intro ?_ ?_; (focus ((repeat' (first | exact trivial | refine And.intro rfl ?_)); done))) | (refine And.intro ?_ ?_; (focus (first | omega | (dsimp -iota only; omega) | (simp -iota; omega) | (simp -iota; done) | decide)))); conv => whnf)
                refine branchB_of (fun g6 => ?_) (fun g6 => ?_) <;> (first | replace g6 := not_t g6 | replace g6 := not_f g6 | skip) <;> (first | replace g6 := of_decide_eq_true g6 | replace g6 := of_decide_eq_false g6 | skip) <;> (first | replace g6 := Classical.not_not.1 g6 | skip) <;> (try dsimp only at g6)
                · have hf6 : f' = f.crash c.k := hfd.trans (does6 f g6)
                  have hlast : sts f (f.keep c.k) = L := by rw [hL, hf6]; rfl
                  have hz6 : f'.ds.length = 0 := by rw [hf6]; rfl
                  have hkx : 0 + (min (max c.k 0) (((f.ds.length + 1 : Nat) : Int) - 1)).toNat = f.keep c.k := by unfold FD.keep; omega
                  (conv => whnf); repeat ((first | (refine And.intro ?_ ?_; (focus ((repeat' (first | exact trivial | refine And.intro rfl ?_)); done))) | (refine And.intro ?_ ?_; (focus (first | omega | (dsimp -iota only; omega) | (simp -iota; omega) | (simp -iota; done) | decide)))); conv => whnf)
                  rw [hkx, hlast]
                  refine AFn.use [] (like_self L (by omega)) (by kernel_rfl) rfl (by repeat' first | exact trivial | refine ⟨rfl, ?_⟩) fun _ => ?_
                  (conv => whnf); repeat ((first | (refine And.intro ?_ ?_; (focus ((repeat' (first | exact trivial | refine And.intro rfl ?_)); done))) | (refine And.intro ?_ ?_; (focus (first | omega | (dsimp -iota only; omega) | (simp -iota; omega) | (simp -iota; done) | decide)))); conv => whnf)
                  refine ⟨(), Ent.mk' [some 0, some 4] (by kernel_rfl) (by repeat' first | exact trivial | refine And.intro (AVE.refl _) ?_ | refine And.intro (AVE.int (by first | rfl | omega | (dsimp only; omega) | (simp -iota; omega) | (simp -iota; done))) ?_ | refine And.intro (AVE.bool (by assumption)) ?_ | refine And.intro (AVE.len (by first | rfl | omega | (dsimp only; omega) | (simp -iota; omega) | (simp -iota; done))) ?_) ?_⟩
                  exact ⟨⟨_, rfl, ChE.refl _⟩, ⟨_, rfl, si_one (by rw [hf6]; rfl) (by rw [hL, hf6]; rfl) rfl⟩, trivial⟩
                · (conv => whnf); repeat ((first | (refine And.intro ?_ ?_; (focus ((repeat' (first | exact trivial | refine And.intro rfl ?_)); done))) | (refine And.intro ?_ ?_; (focus (first | omega | (dsimp -iota only; omega) | (simp -iota; omega) | (simp -iota; done) | decide)))); conv => whnf)
                  refine AFn.use [0] (loose_ok f') (by kernel_rfl) rfl (by repeat' first | exact trivial | refine ⟨rfl, ?_⟩) fun _ => ?_
                  (conv => whnf); repeat ((first | (refine And.intro ?_ ?_; (focus ((repeat' (first | exact trivial | refine And.intro rfl ?_)); done))) | (refine And.intro ?_ ?_; (focus (first | omega | (dsimp -iota only; omega) | (simp -iota; omega) | (simp -iota; done) | decide)))); conv => whnf)
                  have hway := does_ways f c g5 g6
                  rw [← hfd] at hway
                  refine branchB_of (fun g7 => ?_) (fun g7 => ?_) <;> (first | replace g7 := not_t g7 | replace g7 := not_f g7 | skip) <;> (first | replace g7 := of_decide_eq_true g7 | replace g7 := of_decide_eq_false g7 | skip) <;> (first | replace g7 := Classical.not_not.1 g7 | skip) <;> (try dsimp only at g7)
                  · obtain ⟨n, D, hD⟩ : ∃ n D, f' = FD.did ⟨f.safe, f.now, f.ds, n⟩ D := hway.resolve_left fun e => by rw [e] at g7; omega
                    have hlD : f'.ds.length = f.ds.length + 1 := by rw [hD]; simp [FD.did]
                    (conv => whnf); repeat ((first | (refine And.intro ?_ ?_; (focus ((repeat' (first | exact trivial | refine And.intro rfl ?_)); done))) | (refine And.intro ?_ ?_; (focus (first | omega | (dsimp -iota only; omega) | (simp -iota; omega) | (simp -iota; done) | decide)))); conv => whnf)
                    refine ⟨(), Ent.mk' [some 0, some 5] (by kernel_rfl) (by repeat' first | exact trivial | refine And.intro (AVE.refl _) ?_ | refine And.intro (AVE.int (by first | rfl | omega | (dsimp only; omega) | (simp -iota; omega) | (simp -iota; done))) ?_ | refine And.intro (AVE.bool (by assumption)) ?_ | refine And.intro (AVE.len (by first | rfl | omega | (dsimp only; omega) | (simp -iota; omega) | (simp -iota; done))) ?_) ?_⟩
                    exact ⟨⟨_, rfl, ChE.refl _⟩, ⟨_, rfl, si_push hD hf' hL rfl⟩, trivial⟩
                  · have hD : f' = f := hway.resolve_right fun ⟨n, D, hD⟩ => by
                      have : f'.ds.length = f.ds.length + 1 := by rw [hD]; simp [FD.did]
                      omega
                    have hlast : sts f f.ds.length = L := by rw [sts_now hf, hL, hD]
                    have hlD : f'.ds.length = f.ds.length := by rw [hD]
                    (conv => whnf); repeat ((first | (refine And.intro ?_ ?_; (focus ((repeat' (first | exact trivial | refine And.intro rfl ?_)); done))) | (refine And.intro ?_ ?_; (focus (first | omega | (dsimp -iota only; omega) | (simp -iota; omega) | (simp -iota; done) | decide)))); conv => whnf)
                    rw [hix1, hlast]
                    refine AFn.use [] (like_self L (by omega)) (by kernel_rfl) rfl (by repeat' first | exact trivial | refine ⟨rfl, ?_⟩) fun _ => ?_
                    (conv => whnf); repeat ((first | (refine And.intro ?_ ?_; (focus ((repeat' (first | exact trivial | refine And.intro rfl ?_)); done))) | (refine And.intro ?_ ?_; (focus (first | omega | (dsimp -iota only; omega) | (simp -iota; omega) | (simp -iota; done) | decide)))); conv => whnf)
                    refine ⟨(), Ent.mk' [some 0, some 1] (by kernel_rfl) (by repeat' first | exact trivial | refine And.intro (AVE.refl _) ?_ | refine And.intro (AVE.int (by first | rfl | omega | (dsimp only; omega) | (simp -iota; omega) | (simp -iota; done))) ?_ | refine And.intro (AVE.bool (by assumption)) ?_ | refine And.intro (AVE.len (by first | rfl | omega | (dsimp only; omega) | (simp -iota; omega) | (simp -iota; done))) ?_) ?_⟩
                    exact ⟨⟨_, rfl, ChE.refl _⟩, ⟨_, rfl, by rw [hD]; exact ChE.refl _⟩, trivial⟩
            · (conv => whnf); repeat ((first | (refine And.intro ?_ ?_; (focus ((repeat' (first | exact trivial | refine And.intro rfl ?_)); done))) | (refine And.intro ?_ ?_; (focus (first | omega | (dsimp -iota only; omega) | (simp -iota; omega) | (simp -iota; done) | decide)))); conv => whnf)
              refine AFn.use [0] (loose_ok f') (by kernel_rfl) rfl (by repeat' first | exact trivial | refine ⟨rfl, ?_⟩) fun _ => ?_
              (conv => whnf); repeat ((first | (refine And.intro ?_ ?_; (focus ((repeat' (first | exact trivial | refine And.intro rfl ?_)); done))) | (refine And.intro ?_ ?_; (focus (first | omega | (dsimp -iota only; omega) | (simp -iota; omega) | (simp -iota; done) | decide)))); conv => whnf)
              refine branchB_of (fun ga => ?_) (fun ga => ?_) <;> (first | replace ga := not_t ga | replace ga := not_f ga | skip) <;> (first | replace ga := of_decide_eq_true ga | replace ga := of_decide_eq_false ga | skip) <;> (first | replace ga := Classical.not_not.1 ga | skip) <;> (try dsimp only at ga)
              · exfalso; omega
              (conv => whnf); repeat ((first | (refine And.intro ?_ ?_; (focus ((repeat' (first | exact trivial | refine And.intro rfl ?_)); done))) | (refine And.intro ?_ ?_; (focus (first | omega | (dsimp -iota only; omega) | (simp -iota; omega) | (simp -iota; done) | decide)))); conv => whnf)
              refine AFn.use [0] (loose_ok f') (by kernel_rfl) rfl (by repeat' first | exact trivial | refine ⟨rfl, ?_⟩) fun _ => ?_
              (conv => whnf); repeat ((first | (refine And.intro ?_ ?_; (focus ((repeat' (first | exact trivial | refine And.intro rfl ?_)); done))) | (refine And.intro ?_ ?_; (focus (first | omega | (dsimp -iota only; omega) | (simp -iota; omega) | (simp -iota; done) | decide)))); conv => whnf)
              refine branchB_of (fun gb => ?_) (fun gb => ?_) <;> (first | replace gb := not_t gb | replace gb := not_f gb | skip) <;> (first | replace gb := of_decide_eq_true gb | replace gb := of_decide_eq_false gb | skip) <;> (first | replace gb := Classical.not_not.1 gb | skip) <;> (try dsimp only at gb)
              · exfalso; omega
              (conv => whnf); repeat ((first | (refine And.intro ?_ ?_; (focus ((repeat' (first | exact trivial | refine And.intro rfl ?_)); done))) | (refine And.intro ?_ ?_; (focus (first | omega | (dsimp -iota only; omega) | (simp -iota; omega) | (simp -iota; done) | decide)))); conv => whnf)
              refine AWP.loop (X := { k : Nat // k ≤ f'.ds.length + 1 }) (fun k => [(0, rowC A), (3, .ptr 0 0), (4, .row 1 1 0 (f'.ds.length + 1)), (5, AV.int .i64 i), (13, AV.int .i64 k.1)]) (fun k => ⟨2, [(0, .sem (Nest f'.H)), (1, snc f')]⟩) (fun k => f'.ds.length + 1 - k.1) (⟨0, Nat.zero_le _⟩) ?_ fun k => AWP.go (S := sch4) (cfgBOk _ _) (.of_eq (by kernel_rfl)) ?_
              · exact Ent.mk' [some 0, some 1] (by kernel_rfl) (by repeat' first | exact trivial | refine And.intro (AVE.refl _) ?_ | refine And.intro (AVE.int (by first | rfl | omega | (dsimp only; omega) | (simp -iota; omega) | (simp -iota; done))) ?_ | refine And.intro (AVE.bool (by assumption)) ?_ | refine And.intro (AVE.len (by first | rfl | omega | (dsimp only; omega) | (simp -iota; omega) | (simp -iota; done))) ?_) (by repeat' (first | exact trivial | refine ⟨⟨_, rfl, ChE.refl _⟩, ?_⟩))
              · obtain ⟨k, hk⟩ := k
                (conv => whnf); repeat ((first | (refine And.intro ?_ ?_; (focus ((repeat' (first | exact trivial | refine And.intro rfl ?_)); done))) | (refine And.intro ?_ ?_; (focus (first | omega | (dsimp -iota only; omega) | (simp -iota; omega) | (simp -iota; done) | decide)))); conv => whnf)
                refine branchB_of (fun gk => ?_) (fun gk => ?_) <;> (first | replace gk := not_t gk | replace gk := not_f gk | skip) <;> (first | replace gk := of_decide_eq_true gk | replace gk := of_decide_eq_false gk | skip) <;> (first | replace gk := Classical.not_not.1 gk | skip) <;> (try dsimp only at gk)
                · have hkl : k ≤ f'.ds.length := by omega
                  have hkp : f'.keep ((k : Nat) : Int) = k := by unfold FD.keep; omega
                  have hkx : 0 + ((k : Nat) : Int).toNat = k := by omega
                  have hcr := hf'.crash ((k : Nat) : Int)
                  have hcz := hcr.crash 0
                  have hsl := sts_len hf' hkl
                  have e1 : lsN (f'.crash ((k : Nat) : Int)).now = sts f' k := by
                    show lsN (onAll f'.safe (f'.ds.take (f'.keep ((k : Nat) : Int)))) = _
                    rw [hkp]
                    rfl
                  have e2 : lsN ((f'.crash ((k : Nat) : Int)).crash 0).now = sts f' k := by
                    show lsN (onAll (onAll f'.safe (f'.ds.take (f'.keep ((k : Nat) : Int)))) (List.take _ [])) = _
                    rw [hkp, List.take_nil]
                    rfl
                  have l1 : (f'.crash ((k : Nat) : Int)).ds.length = 0 := rfl
                  obtain ⟨fc, hfc⟩ : ∃ fc, fc = f'.crash ((k : Nat) : Int) := ⟨_, rfl⟩
                  rw [← hfc] at hcr hcz e1 e2 l1
                  (conv => whnf); repeat ((first | (refine And.intro ?_ ?_; (focus ((repeat' (first | exact trivial | refine And.intro rfl ?_)); done))) | (refine And.intro ?_ ?_; (focus (first | omega | (dsimp -iota only; omega) | (simp -iota; omega) | (simp -iota; done) | decide)))); conv => whnf)
                  refine AFn.use [0] (copy_ok f' (by omega)) (by kernel_rfl) rfl (by repeat' first | exact trivial | refine ⟨rfl, ?_⟩) fun _ => ?_
                  (conv => whnf); repeat ((first | (refine And.intro ?_ ?_; (focus ((repeat' (first | exact trivial | refine And.intro rfl ?_)); done))) | (refine And.intro ?_ ?_; (focus (first | omega | (dsimp -iota only; omega) | (simp -iota; omega) | (simp -iota; done) | decide)))); conv => whnf)
                  refine AFn.use [2] (crash_ok f' (by omega) ((k : Nat) : Int)) (by kernel_rfl) rfl (by repeat' first | exact trivial | refine ⟨rfl, ?_⟩) fun _ => ?_
                  rw [← hfc]
                  (conv => whnf); repeat ((first | (refine And.intro ?_ ?_; (focus ((repeat' (first | exact trivial | refine And.intro rfl ?_)); done))) | (refine And.intro ?_ ?_; (focus (first | omega | (dsimp -iota only; omega) | (simp -iota; omega) | (simp -iota; done) | decide)))); conv => whnf)
                  refine And.intro ?_ ?_ <;> ((conv => whnf); repeat ((first | (refine And.intro ?_ ?_; (focus ((repeat' (first | exact trivial | refine And.intro rfl ?_)); done))) | (refine And.intro ?_ ?_; (focus (first | omega | (dsimp -iota only; omega) | (simp -iota; omega) | (simp -iota; done) | decide)))); conv => whnf))
                  all_goals
                    refine AFn.use [2] (list_ok fc (hcr.now.nok (by omega))) (by kernel_rfl) rfl (by repeat' first | exact trivial | refine ⟨rfl, ?_⟩) fun _ => ?_
                    rw [e1]
                    (conv => whnf); repeat ((first | (refine And.intro ?_ ?_; (focus ((repeat' (first | exact trivial | refine And.intro rfl ?_)); done))) | (refine And.intro ?_ ?_; (focus (first | omega | (dsimp -iota only; omega) | (simp -iota; omega) | (simp -iota; done) | decide)))); conv => whnf)
                    rw [hkx]
                    refine AFn.use [] (like_self (sts f' k) (by omega)) (by kernel_rfl) rfl (by repeat' first | exact trivial | refine ⟨rfl, ?_⟩) fun _ => ?_
                    (conv => whnf); repeat ((first | (refine And.intro ?_ ?_; (focus ((repeat' (first | exact trivial | refine And.intro rfl ?_)); done))) | (refine And.intro ?_ ?_; (focus (first | omega | (dsimp -iota only; omega) | (simp -iota; omega) | (simp -iota; done) | decide)))); conv => whnf)
                    refine AFn.use [2] (loose_ok fc) (by kernel_rfl) rfl (by repeat' first | exact trivial | refine ⟨rfl, ?_⟩) fun _ => ?_
                    rw [l1]
                    (conv => whnf); repeat ((first | (refine And.intro ?_ ?_; (focus ((repeat' (first | exact trivial | refine And.intro rfl ?_)); done))) | (refine And.intro ?_ ?_; (focus (first | omega | (dsimp -iota only; omega) | (simp -iota; omega) | (simp -iota; done) | decide)))); conv => whnf)
                    refine AFn.use [2] (crash_ok fc (by omega) 0) (by kernel_rfl) rfl (by repeat' first | exact trivial | refine ⟨rfl, ?_⟩) fun _ => ?_
                    (conv => whnf); repeat ((first | (refine And.intro ?_ ?_; (focus ((repeat' (first | exact trivial | refine And.intro rfl ?_)); done))) | (refine And.intro ?_ ?_; (focus (first | omega | (dsimp -iota only; omega) | (simp -iota; omega) | (simp -iota; done) | decide)))); conv => whnf)
                  all_goals refine And.intro ?_ ?_ <;> ((conv => whnf); repeat ((first | (refine And.intro ?_ ?_; (focus ((repeat' (first | exact trivial | refine And.intro rfl ?_)); done))) | (refine And.intro ?_ ?_; (focus (first | omega | (dsimp -iota only; omega) | (simp -iota; omega) | (simp -iota; done) | decide)))); conv => whnf))
                  all_goals
                    refine AFn.use [2] (list_ok (fc.crash 0) (hcz.now.nok (by omega))) (by kernel_rfl) rfl (by repeat' first | exact trivial | refine ⟨rfl, ?_⟩) fun _ => ?_
                    rw [e2]
                    (conv => whnf); repeat ((first | (refine And.intro ?_ ?_; (focus ((repeat' (first | exact trivial | refine And.intro rfl ?_)); done))) | (refine And.intro ?_ ?_; (focus (first | omega | (dsimp -iota only; omega) | (simp -iota; omega) | (simp -iota; done) | decide)))); conv => whnf)
                    try rw [hkx]
                    refine AFn.use [] (like_self (sts f' k) (by omega)) (by kernel_rfl) rfl (by repeat' first | exact trivial | refine ⟨rfl, ?_⟩) fun _ => ?_
                    (conv => whnf); repeat ((first | (refine And.intro ?_ ?_; (focus ((repeat' (first | exact trivial | refine And.intro rfl ?_)); done))) | (refine And.intro ?_ ?_; (focus (first | omega | (dsimp -iota only; omega) | (simp -iota; omega) | (simp -iota; done) | decide)))); conv => whnf)
                    refine ⟨⟨k + 1, by omega⟩, Ent.mk' [some 0, some 1] (by kernel_rfl) (by repeat' first | exact trivial | refine And.intro (AVE.refl _) ?_ | refine And.intro (AVE.int (by first | rfl | omega | (dsimp only; omega) | (simp -iota; omega) | (simp -iota; done))) ?_ | refine And.intro (AVE.bool (by assumption)) ?_ | refine And.intro (AVE.len (by first | rfl | omega | (dsimp only; omega) | (simp -iota; omega) | (simp -iota; done))) ?_) (by repeat' (first | exact trivial | refine ⟨⟨_, rfl, ChE.refl _⟩, ?_⟩)), ?_⟩
                    show f'.ds.length + 1 - (k + 1) < f'.ds.length + 1 - k
                    omega
                · (conv => whnf); repeat ((first | (refine And.intro ?_ ?_; (focus ((repeat' (first | exact trivial | refine And.intro rfl ?_)); done))) | (refine And.intro ?_ ?_; (focus (first | omega | (dsimp -iota only; omega) | (simp -iota; omega) | (simp -iota; done) | decide)))); conv => whnf)
                  refine ⟨⟨i + 1, f', by omega, by omega, hf', by omega, by omega⟩, Ent.mk' [some 0, some 1] (by kernel_rfl) (by repeat' first | exact trivial | refine And.intro (AVE.refl _) ?_ | refine And.intro (AVE.int (by first | rfl | omega | (dsimp only; omega) | (simp -iota; omega) | (simp -iota; done))) ?_ | refine And.intro (AVE.bool (by assumption)) ?_ | refine And.intro (AVE.len (by first | rfl | omega | (dsimp only; omega) | (simp -iota; omega) | (simp -iota; done))) ?_) (by repeat' (first | exact trivial | refine ⟨⟨_, rfl, ChE.refl _⟩, ?_⟩)), ?_⟩
                  show 60 - (i + 1) < 60 - i
                  omega
end Go.Proofs.Yteeifedpabcehaa.Ax
