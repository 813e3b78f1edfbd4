/-
  Chapter 06: FolderInodes, the walk.
-/
import Derived.Test.YteeifedpabcehaaQe
namespace Go.Proofs.Yteeifedpabcehaa.Ax
open Go.RowKit Go.Sort
set_option maxRecDepth 100000
def pm (G : List Nat) : List (MK × IV) := G.map fun g : Nat => (MK.i .u64 (g : Int), IV.v (.int .i64 1))
theorem pm_find : ∀ (G : List Nat) (g : Nat), mfind (pm G) (.i .u64 g) = if g ∈ G then some (.v (.int .i64 1)) else none
  | [], g => by simp [pm, mfind]
  | a :: G, g => by
    have ih := pm_find G g
    unfold pm mfind at ih ⊢
    rw [List.map_cons, List.find?_cons]
    by_cases h : a = g
    · subst h
      simp
    · rw [decide_eq_false (show ¬ (MK.i .u64 (a : Int) = MK.i .u64 (g : Int)) from fun e => h (by injection e with _ e; omega))]
      simp only [List.mem_cons, Ne.symm h, false_or]
      exact ih
theorem pm_put {G : List Nat} {g : Nat} (h : g ∉ G) : mput (pm G) (.i .u64 g) (.v (.int .i64 1)) = pm (G ++ [g]) := by
  rw [mput_new]
  · simp [pm]
  · intro p hp e
    obtain ⟨a, ha, rfl⟩ := List.mem_map.1 hp
    simp only at e
    injection e with _ e
    exact h (by rw [show g = a by omega]; exact ha)
theorem pm_del (G : List Nat) (g : Nat) : mdel (pm G) (.i .u64 g) = pm (G.filter fun a => decide (a ≠ g)) := by
  unfold mdel pm
  rw [List.filter_map]
  congr 1
  refine List.filter_congr fun a _ => ?_
  simp [Int.natCast_inj]
theorem pm_length (G : List Nat) : (pm G).length = G.length := by simp [pm]
theorem lsN_nodup {last n : Nat} {m : NM} (h : IOk last n m) : ((lsN m).map (·.2)).Nodup := by
  have h1 : ((lsN m).map (·.1)).Nodup := by
    rw [lsN_keys]
    exact (List.mergeSort_perm _ _).nodup_iff.2 h.nd
  have h2 : (lsN m).Pairwise fun a b => a.1 ≠ b.1 := List.pairwise_map.1 h1
  refine List.pairwise_map.2 (h2.imp_of_mem fun {a b} ha hb hne e => hne ?_)
  rw [h.inj a ((lsN_mem h.nd).1 ha) b ((lsN_mem h.nd).1 hb) e]
theorem not_taken {l : List Nat} (h : l.Nodup) {j : Nat} (hj : j < l.length) : l[j] ∉ l.take j := fun hm => by
  obtain ⟨k, hk, e⟩ := List.getElem_of_mem hm
  have hk2 : k < j := by rw [List.length_take] at hk; omega
  rw [List.getElem_take] at e
  have := (List.getElem_inj h).1 e
  omega
theorem take_next {l : List Nat} {j : Nat} (hj : j < l.length) : l.take (j + 1) = l.take j ++ [l[j]] := List.take_succ_eq_append_getElem hj
structure I1 (A : List Call) where
  i : Nat
  f : FD
  hi : i ≤ 80
  hil : i ≤ A.length
  hf : f.In (IOk f.last i)
  hd : f.ds.length ≤ i
  hl : f.last ≤ i
noncomputable def cfgI (N b : Nat) : Cfg := { P := Go.Proofs.Try.prog, T := tt, wr := false, N := N, pure := [], base := b, cuts := [2] }
theorem cfgIOk (N b : Nat) : (cfgI N b).Ok := ⟨ttOk, ttBytes, by kernel_rfl⟩
set_option maxHeartbeats 1000000 in
theorem inodes_law (A : List Call) : Law Go.Proofs.Try.prog 3 [rowC A] := by
  refine ACall.fin ?_
  refine ACall.walkF (C := cfgI 205 0) (cfgIOk _ _) sch3 (fn := Go.Proofs.Try.f3) (by kernel_rfl) (by kernel_rfl) rfl (by kernel_rfl) (by kernel_rfl) rfl rfl fun hlen hheap => ?_
  obtain ⟨hl1, _⟩ := hlen
  simp only [lenF] at hl1
  (conv => whnf); repeat ((first | (refine And.intro ?_ ?_; (focus ((repeat' (first | exact trivial | refine And.intro rfl ?_)); done))) | (refine And.intro ?_ ?_; (focus (first | omega | (dsimp -iota only; omega) | (simp -iota; omega) | (simp -iota; done) | decide)))); conv => whnf)
  refine AFn.use [] (new_ok) (by kernel_rfl) rfl (by repeat' first | exact trivial | refine ⟨rfl, ?_⟩) fun _ => ?_
  (conv => whnf); repeat ((first | (refine And.intro ?_ ?_; (focus ((repeat' (first | exact trivial | refine And.intro rfl ?_)); done))) | (refine And.intro ?_ ?_; (focus (first | omega | (dsimp -iota only; omega) | (simp -iota; omega) | (simp -iota; done) | decide)))); conv => whnf)
  refine AWP.merge (Y := Unit) (fun u => []) (fun u => ⟨0, []⟩) 0 (fun u => ?_) ?_
  · (conv => whnf); repeat ((first | (refine And.intro ?_ ?_; (focus ((repeat' (first | exact trivial | refine And.intro rfl ?_)); done))) | (refine And.intro ?_ ?_; (focus (first | omega | (dsimp -iota only; omega) | (simp -iota; omega) | (simp -iota; done) | decide)))); conv => whnf)
    refine AFn.use [] (knows_ok) (by kernel_rfl) rfl (by repeat' first | exact trivial | refine ⟨rfl, ?_⟩) fun _ => ?_
    (conv => whnf); repeat ((first | (refine And.intro ?_ ?_; (focus ((repeat' (first | exact trivial | refine And.intro rfl ?_)); done))) | (refine And.intro ?_ ?_; (focus (first | omega | (dsimp -iota only; omega) | (simp -iota; omega) | (simp -iota; done) | decide)))); conv => whnf)
    exact ⟨_, _, Ent.mk' (e' := [(0, AV.bool true)]) (H' := ⟨0, []⟩) [] (by kernel_rfl) ⟨AVE.of_eq rfl, trivial⟩ trivial, (), rfl, rfl⟩
  refine AWP.loop (X := I1 A) (fun x => [(0, rowC A), (3, .ptr 0 0), (4, AV.int .u64 x.f.last), (5, AV.int .i64 x.i)]) (fun x => one x.f.H) (fun x => 80 - x.i) (⟨0, ⟨[], [], [], 0⟩, by omega, by omega, ⟨rfl, fun k _ => by cases k <;> exact IOk.none _ _⟩, by simp, by simp⟩) ?_ fun x => AWP.go (S := sch3) (cfgIOk _ _) (.of_eq (by kernel_rfl)) ?_
  · exact Ent.mk' [some 0] (by kernel_rfl) (by repeat' first | exact trivial | refine And.intro (AVE.refl _) ?_ | refine And.intro (AVE.int (by first | rfl | omega | (dsimp only; omega) | (simp -iota; omega) | (simp -iota; done))) ?_ | refine And.intro (AVE.bool (by assumption)) ?_ | refine And.intro (AVE.len (by first | rfl | omega | (dsimp only; omega) | (simp -iota; omega) | (simp -iota; done))) ?_) (by repeat' (first | exact trivial | refine ⟨⟨_, rfl, ChE.refl _⟩, ?_⟩))
  · obtain ⟨i, f, hi, hil, hf, hd, hl⟩ := x
    have hix : ((i : Nat) : Int).toNat = i := by simp
    (conv => whnf); repeat ((first | (refine And.intro ?_ ?_; (focus ((repeat' (first | exact trivial | refine And.intro rfl ?_)); done))) | (refine And.intro ?_ ?_; (focus (first | omega | (dsimp -iota only; omega) | (simp -iota; omega) | (simp -iota; done) | decide)))); conv => whnf)
    refine branchB_of (fun h => ?_) (fun h => ?_) <;> (first | replace h := not_t h | replace h := not_f h | skip) <;> (first | replace h := of_decide_eq_true h | replace h := of_decide_eq_false h | skip) <;> (first | replace h := Classical.not_not.1 h | skip) <;> (try dsimp only at h)
    rotate_left
    · (conv => whnf); repeat ((first | (refine And.intro ?_ ?_; (focus ((repeat' (first | exact trivial | refine And.intro rfl ?_)); done))) | (refine And.intro ?_ ?_; (focus (first | omega | (dsimp -iota only; omega) | (simp -iota; omega) | (simp -iota; done) | decide)))); conv => whnf)
      exact ⟨(), Ent.mk' [] (by kernel_rfl) (by repeat' first | exact trivial | refine And.intro (AVE.refl _) ?_ | refine And.intro (AVE.int (by first | rfl | omega | (dsimp only; omega) | (simp -iota; omega) | (simp -iota; done))) ?_ | refine And.intro (AVE.bool (by assumption)) ?_ | refine And.intro (AVE.len (by first | rfl | omega | (dsimp only; omega) | (simp -iota; omega) | (simp -iota; done))) ?_) (by repeat' (first | exact trivial | refine ⟨⟨_, rfl, ChE.refl _⟩, ?_⟩))⟩
    (conv => whnf); repeat ((first | (refine And.intro ?_ ?_; (focus ((repeat' (first | exact trivial | refine And.intro rfl ?_)); done))) | (refine And.intro ?_ ?_; (focus (first | omega | (dsimp -iota only; omega) | (simp -iota; omega) | (simp -iota; done) | decide)))); conv => whnf)
    refine branchB_of (fun h2 => ?_) (fun h2 => ?_) <;> (first | replace h2 := not_t h2 | replace h2 := not_f h2 | skip) <;> (first | replace h2 := of_decide_eq_true h2 | replace h2 := of_decide_eq_false h2 | skip) <;> (first | replace h2 := Classical.not_not.1 h2 | skip) <;> (try dsimp only at h2)
    rotate_left
    · (conv => whnf); repeat ((first | (refine And.intro ?_ ?_; (focus ((repeat' (first | exact trivial | refine And.intro rfl ?_)); done))) | (refine And.intro ?_ ?_; (focus (first | omega | (dsimp -iota only; omega) | (simp -iota; omega) | (simp -iota; done) | decide)))); conv => whnf)
      exact ⟨(), Ent.mk' [] (by kernel_rfl) (by repeat' first | exact trivial | refine And.intro (AVE.refl _) ?_ | refine And.intro (AVE.int (by first | rfl | omega | (dsimp only; omega) | (simp -iota; omega) | (simp -iota; done))) ?_ | refine And.intro (AVE.bool (by assumption)) ?_ | refine And.intro (AVE.len (by first | rfl | omega | (dsimp only; omega) | (simp -iota; omega) | (simp -iota; done))) ?_) (by repeat' (first | exact trivial | refine ⟨⟨_, rfl, ChE.refl _⟩, ?_⟩))⟩
    (conv => whnf); repeat ((first | (refine And.intro ?_ ?_; (focus ((repeat' (first | exact trivial | refine And.intro rfl ?_)); done))) | (refine And.intro ?_ ?_; (focus (first | omega | (dsimp -iota only; omega) | (simp -iota; omega) | (simp -iota; done) | decide)))); conv => whnf)
    generalize A.getD ((i : Nat) : Int).toNat default = c at *
    refine AFn.use [0] (find_ok f c.s) (by kernel_rfl) rfl (by repeat' first | exact trivial | refine ⟨rfl, ?_⟩) fun _ => ?_
    (conv => whnf); repeat ((first | (refine And.intro ?_ ?_; (focus ((repeat' (first | exact trivial | refine And.intro rfl ?_)); done))) | (refine And.intro ?_ ?_; (focus (first | omega | (dsimp -iota only; omega) | (simp -iota; omega) | (simp -iota; done) | decide)))); conv => whnf)
    refine AFn.use [0] (does_ok f (by omega) (by omega) c) (by kernel_rfl) rfl (by repeat' first | exact trivial | refine ⟨rfl, ?_⟩) fun _ => ?_
    have hst := does_sizes f c
    have hf' := does_iok hf c
    obtain ⟨f', hfd⟩ : ∃ f', f' = f.does c := ⟨_, rfl⟩
    rw [← hfd] at hst hf'
    rw [← hfd]
    obtain ⟨hst1, hst2⟩ := hst
    (conv => whnf); repeat ((first | (refine And.intro ?_ ?_; (focus ((repeat' (first | exact trivial | refine And.intro rfl ?_)); done))) | (refine And.intro ?_ ?_; (focus (first | omega | (dsimp -iota only; omega) | (simp -iota; omega) | (simp -iota; done) | decide)))); conv => whnf)
    refine AWP.meet (Y := Unit) (fun u => [(0, rowC A), (3, .ptr 0 0), (4, AV.int .u64 f'.last), (5, AV.int .i64 i)]) (fun u => one f'.H) (fun u => ?_) (AWP.block' (AWP.go (S := sch3) (cfgIOk _ _) (.of_eq (by kernel_rfl)) ?_))
    · have hnow := hf'.now
      have hnok := hnow.nok (by omega)
      have hLl := lsN_length f'.now
      have hLn := hnow.len
      have hvd := lsN_nodup hnow
      obtain ⟨L, hL⟩ : ∃ L, L = lsN f'.now := ⟨_, rfl⟩
      have hmem : ∀ p ∈ L, p ∈ f'.now := fun p hp => (lsN_mem hnow.nd).1 (hL ▸ hp)
      rw [← hL] at hLl hvd
      (conv => whnf); repeat ((first | (refine And.intro ?_ ?_; (focus ((repeat' (first | exact trivial | refine And.intro rfl ?_)); done))) | (refine And.intro ?_ ?_; (focus (first | omega | (dsimp -iota only; omega) | (simp -iota; omega) | (simp -iota; done) | decide)))); conv => whnf)
      refine AFn.use [0] (list_ok f' hnok) (by kernel_rfl) rfl (by repeat' first | exact trivial | refine ⟨rfl, ?_⟩) fun _ => ?_
      rw [← hL]
      (conv => whnf); repeat ((first | (refine And.intro ?_ ?_; (focus ((repeat' (first | exact trivial | refine And.intro rfl ?_)); done))) | (refine And.intro ?_ ?_; (focus (first | omega | (dsimp -iota only; omega) | (simp -iota; omega) | (simp -iota; done) | decide)))); conv => whnf)
      refine AWP.loop (X := { y : Nat // y ≤ L.length }) (fun y => [(0, rowC A), (3, .ptr 0 0), (4, AV.int .u64 f'.last), (5, AV.int .i64 i), (17, .mp 1), (134, .iv (.sl 2 L.length (enF L))), (135, AV.int .i64 L.length), (136, AV.int .i64 y.1)]) (fun y => ⟨2, [(0, .sem (Nest f'.H)), (1, .map (some .u64) (pm ((L.map (·.2)).take y.1)))]⟩) (fun y => L.length - y.1) (⟨0, Nat.zero_le _⟩) ?_ fun y => AWP.go (S := sch3) (cfgIOk _ _) (.of_eq (by kernel_rfl)) ?_
      · exact Ent.mk' [some 0, some 1] (by kernel_rfl) (by repeat' first | exact trivial | refine And.intro (AVE.refl _) ?_ | refine And.intro (AVE.int (by first | rfl | omega | (dsimp only; omega) | (simp -iota; omega) | (simp -iota; done))) ?_ | refine And.intro (AVE.bool (by assumption)) ?_ | refine And.intro (AVE.len (by first | rfl | omega | (dsimp only; omega) | (simp -iota; omega) | (simp -iota; done))) ?_) (by repeat' (first | exact trivial | refine ⟨⟨_, rfl, ChE.refl _⟩, ?_⟩))
      · obtain ⟨j, hj⟩ := y
        have hjx : ((j : Nat) : Int).toNat = j := by simp
        (conv => whnf); repeat ((first | (refine And.intro ?_ ?_; (focus ((repeat' (first | exact trivial | refine And.intro rfl ?_)); done))) | (refine And.intro ?_ ?_; (focus (first | omega | (dsimp -iota only; omega) | (simp -iota; omega) | (simp -iota; done) | decide)))); conv => whnf)
        refine branchB_of (fun gj => ?_) (fun gj => ?_) <;> (first | replace gj := not_t gj | replace gj := not_f gj | skip) <;> (first | replace gj := of_decide_eq_true gj | replace gj := of_decide_eq_false gj | skip) <;> (first | replace gj := Classical.not_not.1 gj | skip) <;> (try dsimp only at gj)
        · have hjl : j < (L.map (·.2)).length := by rw [List.length_map]; omega
          have hjl' : j < L.length := by omega
          have hp : L.getD ((j : Nat) : Int).toNat ([], 0) = L[j] := by rw [hjx]; simp [List.getD, hjl']
          have hp2 : (L.map (·.2))[j] = L[j].2 := List.getElem_map _
          have hnot := not_taken hvd hjl
          have hnx := take_next hjl
          rw [hp2] at hnot hnx
          have hpm := hmem L[j] (List.getElem_mem hjl')
          obtain ⟨r1, r2, r3⟩ := hnow.rng _ hpm
          generalize L[j] = p at *
          (conv => whnf); repeat ((first | (refine And.intro ?_ ?_; (focus ((repeat' (first | exact trivial | refine And.intro rfl ?_)); done))) | (refine And.intro ?_ ?_; (focus (first | omega | (dsimp -iota only; omega) | (simp -iota; omega) | (simp -iota; done) | decide)))); conv => whnf)
          rw [hp, pm_find, if_neg hnot]
          refine ⟨(fun x hx => by cases hx), fun _ => ?_⟩
          (conv => whnf); repeat ((first | (refine And.intro ?_ ?_; (focus ((repeat' (first | exact trivial | refine And.intro rfl ?_)); done))) | (refine And.intro ?_ ?_; (focus (first | omega | (dsimp -iota only; omega) | (simp -iota; omega) | (simp -iota; done) | decide)))); conv => whnf)
          refine branchB_of (fun ga => ?_) (fun ga => ?_) <;> (first | replace ga := not_t ga | replace ga := not_f ga | skip) <;> (first | replace ga := of_decide_eq_true ga | replace ga := of_decide_eq_false ga | skip) <;> (first | replace ga := Classical.not_not.1 ga | skip) <;> (try dsimp only at ga)
          · exfalso; omega
          (conv => whnf); repeat ((first | (refine And.intro ?_ ?_; (focus ((repeat' (first | exact trivial | refine And.intro rfl ?_)); done))) | (refine And.intro ?_ ?_; (focus (first | omega | (dsimp -iota only; omega) | (simp -iota; omega) | (simp -iota; done) | decide)))); conv => whnf)
          refine branchB_of (fun gb => ?_) (fun gb => ?_) <;> (first | replace gb := not_t gb | replace gb := not_f gb | skip) <;> (first | replace gb := of_decide_eq_true gb | replace gb := of_decide_eq_false gb | skip) <;> (first | replace gb := Classical.not_not.1 gb | skip) <;> (try dsimp only at gb)
          · exfalso; omega
          (conv => whnf); repeat ((first | (refine And.intro ?_ ?_; (focus ((repeat' (first | exact trivial | refine And.intro rfl ?_)); done))) | (refine And.intro ?_ ?_; (focus (first | omega | (dsimp -iota only; omega) | (simp -iota; omega) | (simp -iota; done) | decide)))); conv => whnf)
          refine AFn.use [] (may_ok p.1) (by kernel_rfl) rfl (by repeat' first | exact trivial | refine ⟨rfl, ?_⟩) fun _ => ?_
          rw [r3]
          (conv => whnf); repeat ((first | (refine And.intro ?_ ?_; (focus ((repeat' (first | exact trivial | refine And.intro rfl ?_)); done))) | (refine And.intro ?_ ?_; (focus (first | omega | (dsimp -iota only; omega) | (simp -iota; omega) | (simp -iota; done) | decide)))); conv => whnf)
          rw [pm_put hnot, ← hnx]
          refine ⟨⟨j + 1, by omega⟩, Ent.mk' [some 0, some 1] (by kernel_rfl) (by repeat' first | exact trivial | refine And.intro (AVE.refl _) ?_ | refine And.intro (AVE.int (by first | rfl | omega | (dsimp only; omega) | (simp -iota; omega) | (simp -iota; done))) ?_ | refine And.intro (AVE.bool (by assumption)) ?_ | refine And.intro (AVE.len (by first | rfl | omega | (dsimp only; omega) | (simp -iota; omega) | (simp -iota; done))) ?_) (by repeat' (first | exact trivial | refine ⟨⟨_, rfl, ChE.refl _⟩, ?_⟩)), ?_⟩
          show L.length - (j + 1) < L.length - j
          omega
        · have hall : (L.map (·.2)).take j = L.map (·.2) := List.take_of_length_le (by rw [List.length_map]; omega)
          have hVlt := live_lt f'
          have hVr := live_rng hf'
          have hVin : ∀ g ∈ L.map (·.2), g ∈ f'.live := fun g hg => by
            obtain ⟨p, hp, rfl⟩ := List.mem_map.1 hg
            exact live_now hf' p (hmem p hp)
          have hVl := live_len (hf'.mono fun m hm => hm.nok (by omega))
          obtain ⟨V, hV⟩ : ∃ V, V = f'.live := ⟨_, rfl⟩
          rw [← hV] at hVlt hVr hVin hVl
          (conv => whnf); repeat ((first | (refine And.intro ?_ ?_; (focus ((repeat' (first | exact trivial | refine And.intro rfl ?_)); done))) | (refine And.intro ?_ ?_; (focus (first | omega | (dsimp -iota only; omega) | (simp -iota; omega) | (simp -iota; done) | decide)))); conv => whnf)
          rw [hall]
          refine AFn.use [0] (live_ok f' (hf'.mono fun m hm => hm.nok (by omega)) (by omega)) (by kernel_rfl) rfl (by repeat' first | exact trivial | refine ⟨rfl, ?_⟩) fun _ => ?_
          rw [← hV]
          generalize L.map (·.2) = G at *
          (conv => whnf); repeat ((first | (refine And.intro ?_ ?_; (focus ((repeat' (first | exact trivial | refine And.intro rfl ?_)); done))) | (refine And.intro ?_ ?_; (focus (first | omega | (dsimp -iota only; omega) | (simp -iota; omega) | (simp -iota; done) | decide)))); conv => whnf)
          refine AWP.loop (X := { y : Nat // y ≤ V.length }) (fun y => [(0, rowC A), (3, .ptr 0 0), (4, AV.int .u64 f'.last), (5, AV.int .i64 i), (17, .mp 1), (20, .iv (.sl 1 V.length (uF V.toArray))), (21, AV.int .i64 y.1)]) (fun y => ⟨2, [(0, .sem (Nest f'.H)), (1, .map (some .u64) (pm (G.filter fun a => decide (a ∉ V.take y.1))))]⟩) (fun y => V.length - y.1) (⟨0, Nat.zero_le _⟩) ?_ fun y => AWP.go (S := sch3) (cfgIOk _ _) (.of_eq (by kernel_rfl)) ?_
          · refine Ent.mk' [some 0, some 1] (by kernel_rfl) ⟨AVE.refl _, AVE.refl _, AVE.refl _, AVE.refl _, AVE.refl _, AVE.refl _, AVE.refl _, trivial⟩ ⟨⟨_, rfl, ChE.refl _⟩, ⟨_, rfl, ChE.of_eq ?_⟩, trivial⟩
            show Chunk.map (some .u64) (pm G) = Chunk.map (some .u64) (pm (G.filter fun a => decide (a ∉ V.take 0)))
            rw [show (G.filter fun a => decide (a ∉ V.take 0)) = G from List.filter_eq_self.2 (by simp)]
          · obtain ⟨k, hk⟩ := y
            have ik : ((k : Nat) : Int).toNat = k := by simp
            have ik1 : ((k : Int) - 1).toNat = k - 1 := by omega
            (conv => whnf); repeat ((first | (refine And.intro ?_ ?_; (focus ((repeat' (first | exact trivial | refine And.intro rfl ?_)); done))) | (refine And.intro ?_ ?_; (focus (first | omega | (dsimp -iota only; omega) | (simp -iota; omega) | (simp -iota; done) | decide)))); conv => whnf)
            refine branchB_of (fun gk => ?_) (fun gk => ?_) <;> (first | replace gk := not_t gk | replace gk := not_f gk | skip) <;> (first | replace gk := of_decide_eq_true gk | replace gk := of_decide_eq_false gk | skip) <;> (first | replace gk := Classical.not_not.1 gk | skip) <;> (try dsimp only at gk)
            · have hkl : k < V.length := by omega
              have hv : V.getD k 0 = V[k] := by simp [List.getD, hkl]
              have hvr : V.getD k 0 ≤ f'.last := by rw [hv]; exact hVr _ (List.getElem_mem hkl)
              have hnx := take_next hkl
              rw [← hv] at hnx
              have hfil : (G.filter fun a => decide (a ∉ V.take k)).filter (fun a => decide (a ≠ V.getD k 0)) = G.filter fun a => decide (a ∉ V.take (k + 1)) := by
                rw [List.filter_filter]
                refine List.filter_congr fun a _ => ?_
                rw [hnx]
                by_cases h1 : a ∈ V.take k <;> by_cases h2 : a = V.getD k 0 <;> simp [h1, h2]
              (conv => whnf); repeat ((first | (refine And.intro ?_ ?_; (focus ((repeat' (first | exact trivial | refine And.intro rfl ?_)); done))) | (refine And.intro ?_ ?_; (focus (first | omega | (dsimp -iota only; omega) | (simp -iota; omega) | (simp -iota; done) | decide)))); conv => whnf)
              refine branchB_of (fun gp => ?_) (fun gp => ?_) <;> (first | replace gp := not_t gp | replace gp := not_f gp | skip) <;> (first | replace gp := of_decide_eq_true gp | replace gp := of_decide_eq_false gp | skip) <;> (first | replace gp := Classical.not_not.1 gp | skip) <;> (try dsimp only at gp)
              · have hprev : V.getD (k - 1) 0 < V.getD k 0 := by
                  have h1 : k - 1 < V.length := by omega
                  rw [hv, show V.getD (k - 1) 0 = V[k - 1] from by simp [List.getD, h1]]
                  exact List.pairwise_iff_getElem.1 hVlt (k - 1) k h1 hkl (by omega)
                (conv => whnf); repeat ((first | (refine And.intro ?_ ?_; (focus ((repeat' (first | exact trivial | refine And.intro rfl ?_)); done))) | (refine And.intro ?_ ?_; (focus (first | omega | (dsimp -iota only; omega) | (simp -iota; omega) | (simp -iota; done) | decide)))); conv => whnf)
                refine branchB_of (fun gq => ?_) (fun gq => ?_) <;> (first | replace gq := not_t gq | replace gq := not_f gq | skip) <;> (first | replace gq := of_decide_eq_true gq | replace gq := of_decide_eq_false gq | skip) <;> (first | replace gq := Classical.not_not.1 gq | skip) <;> (try dsimp only at gq)
                · exfalso
                  simp only [ik, ik1, bang_getD] at gq
                  omega
                (conv => whnf); repeat ((first | (refine And.intro ?_ ?_; (focus ((repeat' (first | exact trivial | refine And.intro rfl ?_)); done))) | (refine And.intro ?_ ?_; (focus (first | omega | (dsimp -iota only; omega) | (simp -iota; omega) | (simp -iota; done) | decide)))); conv => whnf)
                refine branchB_of (fun gr => ?_) (fun gr => ?_) <;> (first | replace gr := not_t gr | replace gr := not_f gr | skip) <;> (first | replace gr := of_decide_eq_true gr | replace gr := of_decide_eq_false gr | skip) <;> (first | replace gr := Classical.not_not.1 gr | skip) <;> (try dsimp only at gr)
                · exfalso
                  simp only [ik, bang_getD] at gr
                  omega
                (conv => whnf); repeat ((first | (refine And.intro ?_ ?_; (focus ((repeat' (first | exact trivial | refine And.intro rfl ?_)); done))) | (refine And.intro ?_ ?_; (focus (first | omega | (dsimp -iota only; omega) | (simp -iota; omega) | (simp -iota; done) | decide)))); conv => whnf)
                rw [pm_del]
                refine ⟨⟨k + 1, by omega⟩, Ent.mk' [some 0, some 1] (by kernel_rfl) (by repeat' first | exact trivial | refine And.intro (AVE.refl _) ?_ | refine And.intro (AVE.int (by first | rfl | omega | (dsimp only; omega) | (simp -iota; omega) | (simp -iota; done))) ?_ | refine And.intro (AVE.bool (by assumption)) ?_ | refine And.intro (AVE.len (by first | rfl | omega | (dsimp only; omega) | (simp -iota; omega) | (simp -iota; done))) ?_) ?_, ?_⟩
                · refine ⟨⟨_, rfl, ChE.refl _⟩, ⟨_, rfl, ChE.of_eq ?_⟩, trivial⟩
                  simp only [ik, bang_getD]
                  rw [hfil]
                  rfl
                · show V.length - (k + 1) < V.length - k
                  omega
              · (conv => whnf); repeat ((first | (refine And.intro ?_ ?_; (focus ((repeat' (first | exact trivial | refine And.intro rfl ?_)); done))) | (refine And.intro ?_ ?_; (focus (first | omega | (dsimp -iota only; omega) | (simp -iota; omega) | (simp -iota; done) | decide)))); conv => whnf)
                refine branchB_of (fun gr => ?_) (fun gr => ?_) <;> (first | replace gr := not_t gr | replace gr := not_f gr | skip) <;> (first | replace gr := of_decide_eq_true gr | replace gr := of_decide_eq_false gr | skip) <;> (first | replace gr := Classical.not_not.1 gr | skip) <;> (try dsimp only at gr)
                · exfalso
                  simp only [ik, bang_getD] at gr
                  omega
                (conv => whnf); repeat ((first | (refine And.intro ?_ ?_; (focus ((repeat' (first | exact trivial | refine And.intro rfl ?_)); done))) | (refine And.intro ?_ ?_; (focus (first | omega | (dsimp -iota only; omega) | (simp -iota; omega) | (simp -iota; done) | decide)))); conv => whnf)
                rw [pm_del]
                refine ⟨⟨k + 1, by omega⟩, Ent.mk' [some 0, some 1] (by kernel_rfl) (by repeat' first | exact trivial | refine And.intro (AVE.refl _) ?_ | refine And.intro (AVE.int (by first | rfl | omega | (dsimp only; omega) | (simp -iota; omega) | (simp -iota; done))) ?_ | refine And.intro (AVE.bool (by assumption)) ?_ | refine And.intro (AVE.len (by first | rfl | omega | (dsimp only; omega) | (simp -iota; omega) | (simp -iota; done))) ?_) ?_, ?_⟩
                · refine ⟨⟨_, rfl, ChE.refl _⟩, ⟨_, rfl, ChE.of_eq ?_⟩, trivial⟩
                  simp only [ik, bang_getD]
                  rw [hfil]
                  rfl
                · show V.length - (k + 1) < V.length - k
                  omega
            · have hfil : (G.filter fun a => decide (a ∉ V.take k)) = [] := by
                rw [List.take_of_length_le (by omega), List.filter_eq_nil_iff]
                intro a ha
                simpa using hVin a ha
              (conv => whnf); repeat ((first | (refine And.intro ?_ ?_; (focus ((repeat' (first | exact trivial | refine And.intro rfl ?_)); done))) | (refine And.intro ?_ ?_; (focus (first | omega | (dsimp -iota only; omega) | (simp -iota; omega) | (simp -iota; done) | decide)))); conv => whnf)
              rw [hfil]
              (conv => whnf); repeat ((first | (refine And.intro ?_ ?_; (focus ((repeat' (first | exact trivial | refine And.intro rfl ?_)); done))) | (refine And.intro ?_ ?_; (focus (first | omega | (dsimp -iota only; omega) | (simp -iota; omega) | (simp -iota; done) | decide)))); conv => whnf)
              refine ⟨⟨i + 1, f', by omega, by omega, hf', by omega, by omega⟩, Ent.mk' [some 0] (by kernel_rfl) (by repeat' first | exact trivial | refine And.intro (AVE.refl _) ?_ | refine And.intro (AVE.int (by first | rfl | omega | (dsimp only; omega) | (simp -iota; omega) | (simp -iota; done))) ?_ | refine And.intro (AVE.bool (by assumption)) ?_ | refine And.intro (AVE.len (by first | rfl | omega | (dsimp only; omega) | (simp -iota; omega) | (simp -iota; done))) ?_) (by repeat' (first | exact trivial | refine ⟨⟨_, rfl, ChE.refl _⟩, ?_⟩)), ?_⟩
              show 80 - (i + 1) < 80 - i
              omega
    · (conv => whnf); repeat ((first | (refine And.intro ?_ ?_; (focus ((repeat' (first | exact trivial | refine And.intro rfl ?_)); done))) | (refine And.intro ?_ ?_; (focus (first | omega | (dsimp -iota only; omega) | (simp -iota; omega) | (simp -iota; done) | decide)))); conv => whnf)
      refine branchB_of (fun g1 => ?_) (fun g1 => ?_) <;> (first | replace g1 := not_t g1 | replace g1 := not_f g1 | skip) <;> (first | replace g1 := of_decide_eq_true g1 | replace g1 := of_decide_eq_false g1 | skip) <;> (first | replace g1 := Classical.not_not.1 g1 | skip) <;> (try dsimp only at g1)
      · (conv => whnf); repeat ((first | (refine And.intro ?_ ?_; (focus ((repeat' (first | exact trivial | refine And.intro rfl ?_)); done))) | (refine And.intro ?_ ?_; (focus (first | omega | (dsimp -iota only; omega) | (simp -iota; omega) | (simp -iota; done) | decide)))); conv => whnf)
        refine branchB_of (fun g2 => ?_) (fun g2 => ?_) <;> (first | replace g2 := not_t g2 | replace g2 := not_f g2 | skip) <;> (first | replace g2 := of_decide_eq_true g2 | replace g2 := of_decide_eq_false g2 | skip) <;> (first | replace g2 := Classical.not_not.1 g2 | skip) <;> (try dsimp only at g2)
        · have hm : isMk c.w := by unfold isMk; omega
          have eE : f.doesE c = f.createE c.s := if_pos hm
          have eN : f.doesN c = f.createN c.s := if_pos hm
          have eF : f' = f.create c.s := hfd.trans (if_pos hm)
          rw [eE, eN]
          (conv => whnf); repeat ((first | (refine And.intro ?_ ?_; (focus ((repeat' (first | exact trivial | refine And.intro rfl ?_)); done))) | (refine And.intro ?_ ?_; (focus (first | omega | (dsimp -iota only; omega) | (simp -iota; omega) | (simp -iota; done) | decide)))); conv => whnf)
          refine branchB_of (fun g3 => ?_) (fun g3 => ?_) <;> (first | replace g3 := not_t g3 | replace g3 := not_f g3 | skip) <;> (first | replace g3 := of_decide_eq_true g3 | replace g3 := of_decide_eq_false g3 | skip) <;> (first | replace g3 := Classical.not_not.1 g3 | skip) <;> (try dsimp only at g3)
          · have e1 : f.createN c.s = f.last + 1 := if_pos g3
            have e2 : f'.last = f.last + 1 := by rw [eF]; unfold FD.create; rw [if_pos g3]; rfl
            rw [e1]
            (conv => whnf); repeat ((first | (refine And.intro ?_ ?_; (focus ((repeat' (first | exact trivial | refine And.intro rfl ?_)); done))) | (refine And.intro ?_ ?_; (focus (first | omega | (dsimp -iota only; omega) | (simp -iota; omega) | (simp -iota; done) | decide)))); conv => whnf)
            refine branchB_of (fun g4 => ?_) (fun g4 => ?_) <;> (first | replace g4 := not_t g4 | replace g4 := not_f g4 | skip) <;> (first | replace g4 := of_decide_eq_true g4 | replace g4 := of_decide_eq_false g4 | skip) <;> (first | replace g4 := Classical.not_not.1 g4 | skip) <;> (try dsimp only at g4)
            · exfalso; omega
            · (conv => whnf); repeat ((first | (refine And.intro ?_ ?_; (focus ((repeat' (first | exact trivial | refine And.intro rfl ?_)); done))) | (refine And.intro ?_ ?_; (focus (first | omega | (dsimp -iota only; omega) | (simp -iota; omega) | (simp -iota; done) | decide)))); conv => whnf)
              exact ⟨(), Ent.mk' [some 0] (by kernel_rfl) (by repeat' first | exact trivial | refine And.intro (AVE.refl _) ?_ | refine And.intro (AVE.int (by first | rfl | omega | (dsimp only; omega) | (simp -iota; omega) | (simp -iota; done))) ?_ | refine And.intro (AVE.bool (by assumption)) ?_ | refine And.intro (AVE.len (by first | rfl | omega | (dsimp only; omega) | (simp -iota; omega) | (simp -iota; done))) ?_) (by repeat' (first | exact trivial | refine ⟨⟨_, rfl, ChE.refl _⟩, ?_⟩))⟩
          · have e1 : f.createN c.s = 0 := if_neg g3
            have e2 : f'.last = f.last := by rw [eF]; unfold FD.create; rw [if_neg g3]
            rw [e1]
            (conv => whnf); repeat ((first | (refine And.intro ?_ ?_; (focus ((repeat' (first | exact trivial | refine And.intro rfl ?_)); done))) | (refine And.intro ?_ ?_; (focus (first | omega | (dsimp -iota only; omega) | (simp -iota; omega) | (simp -iota; done) | decide)))); conv => whnf)
            exact ⟨(), Ent.mk' [some 0] (by kernel_rfl) (by repeat' first | exact trivial | refine And.intro (AVE.refl _) ?_ | refine And.intro (AVE.int (by first | rfl | omega | (dsimp only; omega) | (simp -iota; omega) | (simp -iota; done))) ?_ | refine And.intro (AVE.bool (by assumption)) ?_ | refine And.intro (AVE.len (by first | rfl | omega | (dsimp only; omega) | (simp -iota; omega) | (simp -iota; done))) ?_) (by repeat' (first | exact trivial | refine ⟨⟨_, rfl, ChE.refl _⟩, ?_⟩))⟩
        · have hm : ¬ isMk c.w := by unfold isMk; omega
          (conv => whnf); repeat ((first | (refine And.intro ?_ ?_; (focus ((repeat' (first | exact trivial | refine And.intro rfl ?_)); done))) | (refine And.intro ?_ ?_; (focus (first | omega | (dsimp -iota only; omega) | (simp -iota; omega) | (simp -iota; done) | decide)))); conv => whnf)
          refine branchB_of (fun g5 => ?_) (fun g5 => ?_) <;> (first | replace g5 := not_t g5 | replace g5 := not_f g5 | skip) <;> (first | replace g5 := of_decide_eq_true g5 | replace g5 := of_decide_eq_false g5 | skip) <;> (first | replace g5 := Classical.not_not.1 g5 | skip) <;> (try dsimp only at g5)
          · have g3 : c.w = 3 := g5
            have eE : f.doesE c = f.renE c.s c.t := by unfold FD.doesE; rw [if_neg hm, if_pos g3]
            have eF : f' = f.ren c.s c.t := hfd.trans (by unfold FD.does; rw [if_neg hm, if_pos g3])
            have eL : f'.last = f.last := by rw [eF]; unfold FD.ren; split <;> rfl
            rw [eE]
            (conv => whnf); repeat ((first | (refine And.intro ?_ ?_; (focus ((repeat' (first | exact trivial | refine And.intro rfl ?_)); done))) | (refine And.intro ?_ ?_; (focus (first | omega | (dsimp -iota only; omega) | (simp -iota; omega) | (simp -iota; done) | decide)))); conv => whnf)
            refine branchB_of (fun g6 => ?_) (fun g6 => ?_) <;> (first | replace g6 := not_t g6 | replace g6 := not_f g6 | skip) <;> (first | replace g6 := of_decide_eq_true g6 | replace g6 := of_decide_eq_false g6 | skip) <;> (first | replace g6 := Classical.not_not.1 g6 | skip) <;> (try dsimp only at g6)
            · obtain ⟨_, _, k, h3, h4⟩ := renE_zero g6
              have eb : f.findB c.s = true := by simp [FD.findB, h3]
              have e1 : f'.findN c.t = k ∧ f'.findB c.t = true ∧ f'.findB c.s = decide (c.s = c.t) := by
                by_cases hst : c.s = c.t
                · have e0 : f' = f := by rw [eF]; exact if_neg (fun x => x.2 hst)
                  rw [e0, ← hst]
                  exact ⟨h4, eb, by rw [eb]; simp⟩
                · have e0 : f' = f.did (.mv c.s c.t k) := by
                    rw [eF]
                    unfold FD.ren
                    rw [if_pos ⟨g6, hst⟩, h4]
                  have a1 : afind f'.now c.t = some k := by
                    rw [e0]
                    show afind (aput (adel f.now c.s) c.t k) c.t = some k
                    rw [afind_aput, if_pos rfl]
                  have a2 : afind f'.now c.s = none := by
                    rw [e0]
                    show afind (aput (adel f.now c.s) c.t k) c.s = none
                    rw [afind_aput, if_neg hst, afind_adel, if_pos rfl]
                  exact ⟨by simp [FD.findN, a1], by simp [FD.findB, a1], by simp [FD.findB, a2, hst]⟩
              obtain ⟨e1, e2, e3⟩ := e1
              rw [eb, h4]
              (conv => whnf); repeat ((first | (refine And.intro ?_ ?_; (focus ((repeat' (first | exact trivial | refine And.intro rfl ?_)); done))) | (refine And.intro ?_ ?_; (focus (first | omega | (dsimp -iota only; omega) | (simp -iota; omega) | (simp -iota; done) | decide)))); conv => whnf)
              refine AFn.use [0] (find_ok f' c.t) (by kernel_rfl) rfl (by repeat' first | exact trivial | refine ⟨rfl, ?_⟩) fun _ => ?_
              rw [e1, e2]
              (conv => whnf); repeat ((first | (refine And.intro ?_ ?_; (focus ((repeat' (first | exact trivial | refine And.intro rfl ?_)); done))) | (refine And.intro ?_ ?_; (focus (first | omega | (dsimp -iota only; omega) | (simp -iota; omega) | (simp -iota; done) | decide)))); conv => whnf)
              refine AFn.use [0] (find_ok f' c.s) (by kernel_rfl) rfl (by repeat' first | exact trivial | refine ⟨rfl, ?_⟩) fun _ => ?_
              rw [e3]
              (conv => whnf); repeat ((first | (refine And.intro ?_ ?_; (focus ((repeat' (first | exact trivial | refine And.intro rfl ?_)); done))) | (refine And.intro ?_ ?_; (focus (first | omega | (dsimp -iota only; omega) | (simp -iota; omega) | (simp -iota; done) | decide)))); conv => whnf)
              refine branchB_of (fun gk => ?_) (fun gk => ?_) <;> (first | replace gk := not_t gk | replace gk := not_f gk | skip) <;> (first | replace gk := of_decide_eq_true gk | replace gk := of_decide_eq_false gk | skip) <;> (first | replace gk := Classical.not_not.1 gk | skip) <;> (try dsimp only at gk)
              · exact absurd rfl gk
              (conv => whnf); repeat ((first | (refine And.intro ?_ ?_; (focus ((repeat' (first | exact trivial | refine And.intro rfl ?_)); done))) | (refine And.intro ?_ ?_; (focus (first | omega | (dsimp -iota only; omega) | (simp -iota; omega) | (simp -iota; done) | decide)))); conv => whnf)
              refine branchB_of (fun gz => ?_) (fun gz => ?_) <;> (first | replace gz := not_t gz | replace gz := not_f gz | skip) <;> (first | replace gz := of_decide_eq_true gz | replace gz := of_decide_eq_false gz | skip) <;> (first | replace gz := Classical.not_not.1 gz | skip) <;> (try dsimp only at gz)
              · exact absurd rfl gz
              (conv => whnf); repeat ((first | (refine And.intro ?_ ?_; (focus ((repeat' (first | exact trivial | refine And.intro rfl ?_)); done))) | (refine And.intro ?_ ?_; (focus (first | omega | (dsimp -iota only; omega) | (simp -iota; omega) | (simp -iota; done) | decide)))); conv => whnf)
              exact ⟨(), Ent.mk' [some 0] (by kernel_rfl) (by repeat' first | exact trivial | refine And.intro (AVE.refl _) ?_ | refine And.intro (AVE.int (by first | rfl | omega | (dsimp only; omega) | (simp -iota; omega) | (simp -iota; done))) ?_ | refine And.intro (AVE.bool (by assumption)) ?_ | refine And.intro (AVE.len (by first | rfl | omega | (dsimp only; omega) | (simp -iota; omega) | (simp -iota; done))) ?_) (by repeat' (first | exact trivial | refine ⟨⟨_, rfl, ChE.refl _⟩, ?_⟩))⟩
            · (conv => whnf); repeat ((first | (refine And.intro ?_ ?_; (focus ((repeat' (first | exact trivial | refine And.intro rfl ?_)); done))) | (refine And.intro ?_ ?_; (focus (first | omega | (dsimp -iota only; omega) | (simp -iota; omega) | (simp -iota; done) | decide)))); conv => whnf)
              refine branchB_of (fun g7 => ?_) (fun g7 => ?_) <;> (first | replace g7 := not_t g7 | replace g7 := not_f g7 | skip) <;> (first | replace g7 := of_decide_eq_true g7 | replace g7 := of_decide_eq_false g7 | skip) <;> (first | replace g7 := Classical.not_not.1 g7 | skip) <;> (try dsimp only at g7)
              · exfalso; omega
              · (conv => whnf); repeat ((first | (refine And.intro ?_ ?_; (focus ((repeat' (first | exact trivial | refine And.intro rfl ?_)); done))) | (refine And.intro ?_ ?_; (focus (first | omega | (dsimp -iota only; omega) | (simp -iota; omega) | (simp -iota; done) | decide)))); conv => whnf)
                exact ⟨(), Ent.mk' [some 0] (by kernel_rfl) (by repeat' first | exact trivial | refine And.intro (AVE.refl _) ?_ | refine And.intro (AVE.int (by first | rfl | omega | (dsimp only; omega) | (simp -iota; omega) | (simp -iota; done))) ?_ | refine And.intro (AVE.bool (by assumption)) ?_ | refine And.intro (AVE.len (by first | rfl | omega | (dsimp only; omega) | (simp -iota; omega) | (simp -iota; done))) ?_) (by repeat' (first | exact trivial | refine ⟨⟨_, rfl, ChE.refl _⟩, ?_⟩))⟩
          · (conv => whnf); repeat ((first | (refine And.intro ?_ ?_; (focus ((repeat' (first | exact trivial | refine And.intro rfl ?_)); done))) | (refine And.intro ?_ ?_; (focus (first | omega | (dsimp -iota only; omega) | (simp -iota; omega) | (simp -iota; done) | decide)))); conv => whnf)
            refine branchB_of (fun g7 => ?_) (fun g7 => ?_) <;> (first | replace g7 := not_t g7 | replace g7 := not_f g7 | skip) <;> (first | replace g7 := of_decide_eq_true g7 | replace g7 := of_decide_eq_false g7 | skip) <;> (first | replace g7 := Classical.not_not.1 g7 | skip) <;> (try dsimp only at g7)
            · have g4 : c.w = 4 := g7
              have g3 : ¬ c.w = 3 := by omega
              have eE : f.doesE c = f.remE c.s := by unfold FD.doesE; rw [if_neg hm, if_neg g3, if_pos g4]
              have eF : f' = f.rem c.s := hfd.trans (by unfold FD.does; rw [if_neg hm, if_neg g3, if_pos g4])
              have eL : f'.last = f.last := by rw [eF]; unfold FD.rem; split <;> rfl
              rw [eE]
              (conv => whnf); repeat ((first | (refine And.intro ?_ ?_; (focus ((repeat' (first | exact trivial | refine And.intro rfl ?_)); done))) | (refine And.intro ?_ ?_; (focus (first | omega | (dsimp -iota only; omega) | (simp -iota; omega) | (simp -iota; done) | decide)))); conv => whnf)
              refine branchB_of (fun g8 => ?_) (fun g8 => ?_) <;> (first | replace g8 := not_t g8 | replace g8 := not_f g8 | skip) <;> (first | replace g8 := of_decide_eq_true g8 | replace g8 := of_decide_eq_false g8 | skip) <;> (first | replace g8 := Classical.not_not.1 g8 | skip) <;> (try dsimp only at g8)
              · obtain ⟨_, k, h3⟩ := remE_zero g8
                have eb : f.findB c.s = true := by simp [FD.findB, h3]
                have e0 : f' = f.did (.rm c.s) := by rw [eF]; exact if_pos g8
                have a2 : afind f'.now c.s = none := by
                  rw [e0]
                  show afind (adel f.now c.s) c.s = none
                  rw [afind_adel, if_pos rfl]
                have e3 : f'.findB c.s = false := by simp [FD.findB, a2]
                rw [eb]
                (conv => whnf); repeat ((first | (refine And.intro ?_ ?_; (focus ((repeat' (first | exact trivial | refine And.intro rfl ?_)); done))) | (refine And.intro ?_ ?_; (focus (first | omega | (dsimp -iota only; omega) | (simp -iota; omega) | (simp -iota; done) | decide)))); conv => whnf)
                refine AFn.use [0] (find_ok f' c.s) (by kernel_rfl) rfl (by repeat' first | exact trivial | refine ⟨rfl, ?_⟩) fun _ => ?_
                rw [e3]
                (conv => whnf); repeat ((first | (refine And.intro ?_ ?_; (focus ((repeat' (first | exact trivial | refine And.intro rfl ?_)); done))) | (refine And.intro ?_ ?_; (focus (first | omega | (dsimp -iota only; omega) | (simp -iota; omega) | (simp -iota; done) | decide)))); conv => whnf)
                exact ⟨(), Ent.mk' [some 0] (by kernel_rfl) (by repeat' first | exact trivial | refine And.intro (AVE.refl _) ?_ | refine And.intro (AVE.int (by first | rfl | omega | (dsimp only; omega) | (simp -iota; omega) | (simp -iota; done))) ?_ | refine And.intro (AVE.bool (by assumption)) ?_ | refine And.intro (AVE.len (by first | rfl | omega | (dsimp only; omega) | (simp -iota; omega) | (simp -iota; done))) ?_) (by repeat' (first | exact trivial | refine ⟨⟨_, rfl, ChE.refl _⟩, ?_⟩))⟩
              · (conv => whnf); repeat ((first | (refine And.intro ?_ ?_; (focus ((repeat' (first | exact trivial | refine And.intro rfl ?_)); done))) | (refine And.intro ?_ ?_; (focus (first | omega | (dsimp -iota only; omega) | (simp -iota; omega) | (simp -iota; done) | decide)))); conv => whnf)
                exact ⟨(), Ent.mk' [some 0] (by kernel_rfl) (by repeat' first | exact trivial | refine And.intro (AVE.refl _) ?_ | refine And.intro (AVE.int (by first | rfl | omega | (dsimp only; omega) | (simp -iota; omega) | (simp -iota; done))) ?_ | refine And.intro (AVE.bool (by assumption)) ?_ | refine And.intro (AVE.len (by first | rfl | omega | (dsimp only; omega) | (simp -iota; omega) | (simp -iota; done))) ?_) (by repeat' (first | exact trivial | refine ⟨⟨_, rfl, ChE.refl _⟩, ?_⟩))⟩
            · have eL : f'.last = f.last := by
                rw [hfd]
                unfold FD.does
                rw [if_neg hm, if_neg (by omega), if_neg (by omega)]
                split
                · rfl
                · split <;> rfl
              (conv => whnf); repeat ((first | (refine And.intro ?_ ?_; (focus ((repeat' (first | exact trivial | refine And.intro rfl ?_)); done))) | (refine And.intro ?_ ?_; (focus (first | omega | (dsimp -iota only; omega) | (simp -iota; omega) | (simp -iota; done) | decide)))); conv => whnf)
              exact ⟨(), Ent.mk' [some 0] (by kernel_rfl) (by repeat' first | exact trivial | refine And.intro (AVE.refl _) ?_ | refine And.intro (AVE.int (by first | rfl | omega | (dsimp only; omega) | (simp -iota; omega) | (simp -iota; done))) ?_ | refine And.intro (AVE.bool (by assumption)) ?_ | refine And.intro (AVE.len (by first | rfl | omega | (dsimp only; omega) | (simp -iota; omega) | (simp -iota; done))) ?_) (by repeat' (first | exact trivial | refine ⟨⟨_, rfl, ChE.refl _⟩, ?_⟩))⟩
      · have hm : ¬ isMk c.w := by unfold isMk; omega
        (conv => whnf); repeat ((first | (refine And.intro ?_ ?_; (focus ((repeat' (first | exact trivial | refine And.intro rfl ?_)); done))) | (refine And.intro ?_ ?_; (focus (first | omega | (dsimp -iota only; omega) | (simp -iota; omega) | (simp -iota; done) | decide)))); conv => whnf)
        refine branchB_of (fun g5 => ?_) (fun g5 => ?_) <;> (first | replace g5 := not_t g5 | replace g5 := not_f g5 | skip) <;> (first | replace g5 := of_decide_eq_true g5 | replace g5 := of_decide_eq_false g5 | skip) <;> (first | replace g5 := Classical.not_not.1 g5 | skip) <;> (try dsimp only at g5)
        · have g3 : c.w = 3 := g5
          have eE : f.doesE c = f.renE c.s c.t := by unfold FD.doesE; rw [if_neg hm, if_pos g3]
          have eF : f' = f.ren c.s c.t := hfd.trans (by unfold FD.does; rw [if_neg hm, if_pos g3])
          have eL : f'.last = f.last := by rw [eF]; unfold FD.ren; split <;> rfl
          rw [eE]
          (conv => whnf); repeat ((first | (refine And.intro ?_ ?_; (focus ((repeat' (first | exact trivial | refine And.intro rfl ?_)); done))) | (refine And.intro ?_ ?_; (focus (first | omega | (dsimp -iota only; omega) | (simp -iota; omega) | (simp -iota; done) | decide)))); conv => whnf)
          refine branchB_of (fun g6 => ?_) (fun g6 => ?_) <;> (first | replace g6 := not_t g6 | replace g6 := not_f g6 | skip) <;> (first | replace g6 := of_decide_eq_true g6 | replace g6 := of_decide_eq_false g6 | skip) <;> (first | replace g6 := Classical.not_not.1 g6 | skip) <;> (try dsimp only at g6)
          · obtain ⟨_, _, k, h3, h4⟩ := renE_zero g6
            have eb : f.findB c.s = true := by simp [FD.findB, h3]
            have e1 : f'.findN c.t = k ∧ f'.findB c.t = true ∧ f'.findB c.s = decide (c.s = c.t) := by
              by_cases hst : c.s = c.t
              · have e0 : f' = f := by rw [eF]; exact if_neg (fun x => x.2 hst)
                rw [e0, ← hst]
                exact ⟨h4, eb, by rw [eb]; simp⟩
              · have e0 : f' = f.did (.mv c.s c.t k) := by
                  rw [eF]
                  unfold FD.ren
                  rw [if_pos ⟨g6, hst⟩, h4]
                have a1 : afind f'.now c.t = some k := by
                  rw [e0]
                  show afind (aput (adel f.now c.s) c.t k) c.t = some k
                  rw [afind_aput, if_pos rfl]
                have a2 : afind f'.now c.s = none := by
                  rw [e0]
                  show afind (aput (adel f.now c.s) c.t k) c.s = none
                  rw [afind_aput, if_neg hst, afind_adel, if_pos rfl]
                exact ⟨by simp [FD.findN, a1], by simp [FD.findB, a1], by simp [FD.findB, a2, hst]⟩
            obtain ⟨e1, e2, e3⟩ := e1
            rw [eb, h4]
            (conv => whnf); repeat ((first | (refine And.intro ?_ ?_; (focus ((repeat' (first | exact trivial | refine And.intro rfl ?_)); done))) | (refine And.intro ?_ ?_; (focus (first | omega | (dsimp -iota only; omega) | (simp -iota; omega) | (simp -iota; done) | decide)))); conv => whnf)
            refine AFn.use [0] (find_ok f' c.t) (by kernel_rfl) rfl (by repeat' first | exact trivial | refine ⟨rfl, ?_⟩) fun _ => ?_
            rw [e1, e2]
            (conv => whnf); repeat ((first | (refine And.intro ?_ ?_; (focus ((repeat' (first | exact trivial | refine And.intro rfl ?_)); done))) | (refine And.intro ?_ ?_; (focus (first | omega | (dsimp -iota only; omega) | (simp -iota; omega) | (simp -iota; done) | decide)))); conv => whnf)
            refine AFn.use [0] (find_ok f' c.s) (by kernel_rfl) rfl (by repeat' first | exact trivial | refine ⟨rfl, ?_⟩) fun _ => ?_
            rw [e3]
            (conv => whnf); repeat ((first | (refine And.intro ?_ ?_; (focus ((repeat' (first | exact trivial | refine And.intro rfl ?_)); done))) | (refine And.intro ?_ ?_; (focus (first | omega | (dsimp -iota only; omega) | (simp -iota; omega) | (simp -iota; done) | decide)))); conv => whnf)
            refine branchB_of (fun gk => ?_) (fun gk => ?_) <;> (first | replace gk := not_t gk | replace gk := not_f gk | skip) <;> (first | replace gk := of_decide_eq_true gk | replace gk := of_decide_eq_false gk | skip) <;> (first | replace gk := Classical.not_not.1 gk | skip) <;> (try dsimp only at gk)
            · exact absurd rfl gk
            (conv => whnf); repeat ((first | (refine And.intro ?_ ?_; (focus ((repeat' (first | exact trivial | refine And.intro rfl ?_)); done))) | (refine And.intro ?_ ?_; (focus (first | omega | (dsimp -iota only; omega) | (simp -iota; omega) | (simp -iota; done) | decide)))); conv => whnf)
            refine branchB_of (fun gz => ?_) (fun gz => ?_) <;> (first | replace gz := not_t gz | replace gz := not_f gz | skip) <;> (first | replace gz := of_decide_eq_true gz | replace gz := of_decide_eq_false gz | skip) <;> (first | replace gz := Classical.not_not.1 gz | skip) <;> (try dsimp only at gz)
            · exact absurd rfl gz
            (conv => whnf); repeat ((first | (refine And.intro ?_ ?_; (focus ((repeat' (first | exact trivial | refine And.intro rfl ?_)); done))) | (refine And.intro ?_ ?_; (focus (first | omega | (dsimp -iota only; omega) | (simp -iota; omega) | (simp -iota; done) | decide)))); conv => whnf)
            exact ⟨(), Ent.mk' [some 0] (by kernel_rfl) (by repeat' first | exact trivial | refine And.intro (AVE.refl _) ?_ | refine And.intro (AVE.int (by first | rfl | omega | (dsimp only; omega) | (simp -iota; omega) | (simp -iota; done))) ?_ | refine And.intro (AVE.bool (by assumption)) ?_ | refine And.intro (AVE.len (by first | rfl | omega | (dsimp only; omega) | (simp -iota; omega) | (simp -iota; done))) ?_) (by repeat' (first | exact trivial | refine ⟨⟨_, rfl, ChE.refl _⟩, ?_⟩))⟩
          · (conv => whnf); repeat ((first | (refine And.intro ?_ ?_; (focus ((repeat' (first | exact trivial | refine And.intro rfl ?_)); done))) | (refine And.intro ?_ ?_; (focus (first | omega | (dsimp -iota only; omega) | (simp -iota; omega) | (simp -iota; done) | decide)))); conv => whnf)
            refine branchB_of (fun g7 => ?_) (fun g7 => ?_) <;> (first | replace g7 := not_t g7 | replace g7 := not_f g7 | skip) <;> (first | replace g7 := of_decide_eq_true g7 | replace g7 := of_decide_eq_false g7 | skip) <;> (first | replace g7 := Classical.not_not.1 g7 | skip) <;> (try dsimp only at g7)
            · exfalso; omega
            · (conv => whnf); repeat ((first | (refine And.intro ?_ ?_; (focus ((repeat' (first | exact trivial | refine And.intro rfl ?_)); done))) | (refine And.intro ?_ ?_; (focus (first | omega | (dsimp -iota only; omega) | (simp -iota; omega) | (simp -iota; done) | decide)))); conv => whnf)
              exact ⟨(), Ent.mk' [some 0] (by kernel_rfl) (by repeat' first | exact trivial | refine And.intro (AVE.refl _) ?_ | refine And.intro (AVE.int (by first | rfl | omega | (dsimp only; omega) | (simp -iota; omega) | (simp -iota; done))) ?_ | refine And.intro (AVE.bool (by assumption)) ?_ | refine And.intro (AVE.len (by first | rfl | omega | (dsimp only; omega) | (simp -iota; omega) | (simp -iota; done))) ?_) (by repeat' (first | exact trivial | refine ⟨⟨_, rfl, ChE.refl _⟩, ?_⟩))⟩
        · (conv => whnf); repeat ((first | (refine And.intro ?_ ?_; (focus ((repeat' (first | exact trivial | refine And.intro rfl ?_)); done))) | (refine And.intro ?_ ?_; (focus (first | omega | (dsimp -iota only; omega) | (simp -iota; omega) | (simp -iota; done) | decide)))); conv => whnf)
          refine branchB_of (fun g7 => ?_) (fun g7 => ?_) <;> (first | replace g7 := not_t g7 | replace g7 := not_f g7 | skip) <;> (first | replace g7 := of_decide_eq_true g7 | replace g7 := of_decide_eq_false g7 | skip) <;> (first | replace g7 := Classical.not_not.1 g7 | skip) <;> (try dsimp only at g7)
          · have g4 : c.w = 4 := g7
            have g3 : ¬ c.w = 3 := by omega
            have eE : f.doesE c = f.remE c.s := by unfold FD.doesE; rw [if_neg hm, if_neg g3, if_pos g4]
            have eF : f' = f.rem c.s := hfd.trans (by unfold FD.does; rw [if_neg hm, if_neg g3, if_pos g4])
            have eL : f'.last = f.last := by rw [eF]; unfold FD.rem; split <;> rfl
            rw [eE]
            (conv => whnf); repeat ((first | (refine And.intro ?_ ?_; (focus ((repeat' (first | exact trivial | refine And.intro rfl ?_)); done))) | (refine And.intro ?_ ?_; (focus (first | omega | (dsimp -iota only; omega) | (simp -iota; omega) | (simp -iota; done) | decide)))); conv => whnf)
            refine branchB_of (fun g8 => ?_) (fun g8 => ?_) <;> (first | replace g8 := not_t g8 | replace g8 := not_f g8 | skip) <;> (first | replace g8 := of_decide_eq_true g8 | replace g8 := of_decide_eq_false g8 | skip) <;> (first | replace g8 := Classical.not_not.1 g8 | skip) <;> (try dsimp only at g8)
            · obtain ⟨_, k, h3⟩ := remE_zero g8
              have eb : f.findB c.s = true := by simp [FD.findB, h3]
              have e0 : f' = f.did (.rm c.s) := by rw [eF]; exact if_pos g8
              have a2 : afind f'.now c.s = none := by
                rw [e0]
                show afind (adel f.now c.s) c.s = none
                rw [afind_adel, if_pos rfl]
              have e3 : f'.findB c.s = false := by simp [FD.findB, a2]
              rw [eb]
              (conv => whnf); repeat ((first | (refine And.intro ?_ ?_; (focus ((repeat' (first | exact trivial | refine And.intro rfl ?_)); done))) | (refine And.intro ?_ ?_; (focus (first | omega | (dsimp -iota only; omega) | (simp -iota; omega) | (simp -iota; done) | decide)))); conv => whnf)
              refine AFn.use [0] (find_ok f' c.s) (by kernel_rfl) rfl (by repeat' first | exact trivial | refine ⟨rfl, ?_⟩) fun _ => ?_
              rw [e3]
              (conv => whnf); repeat ((first | (refine And.intro ?_ ?_; (focus ((repeat' (first | exact trivial | refine And.intro rfl ?_)); done))) | (refine And.intro ?_ ?_; (focus (first | omega | (dsimp -iota only; omega) | (simp -iota; omega) | (simp -iota; done) | decide)))); conv => whnf)
              exact ⟨(), Ent.mk' [some 0] (by kernel_rfl) (by repeat' first | exact trivial | refine And.intro (AVE.refl _) ?_ | refine And.intro (AVE.int (by first | rfl | omega | (dsimp only; omega) | (simp -iota; omega) | (simp -iota; done))) ?_ | refine And.intro (AVE.bool (by assumption)) ?_ | refine And.intro (AVE.len (by first | rfl | omega | (dsimp only; omega) | (simp -iota; omega) | (simp -iota; done))) ?_) (by repeat' (first | exact trivial | refine ⟨⟨_, rfl, ChE.refl _⟩, ?_⟩))⟩
            · (conv => whnf); repeat ((first | (refine And.intro ?_ ?_; (focus ((repeat' (first | exact trivial | refine And.intro rfl ?_)); done))) | (refine And.intro ?_ ?_; (focus (first | omega | (dsimp -iota only; omega) | (simp -iota; omega) | (simp -iota; done) | decide)))); conv => whnf)
              exact ⟨(), Ent.mk' [some 0] (by kernel_rfl) (by repeat' first | exact trivial | refine And.intro (AVE.refl _) ?_ | refine And.intro (AVE.int (by first | rfl | omega | (dsimp only; omega) | (simp -iota; omega) | (simp -iota; done))) ?_ | refine And.intro (AVE.bool (by assumption)) ?_ | refine And.intro (AVE.len (by first | rfl | omega | (dsimp only; omega) | (simp -iota; omega) | (simp -iota; done))) ?_) (by repeat' (first | exact trivial | refine ⟨⟨_, rfl, ChE.refl _⟩, ?_⟩))⟩
          · have eL : f'.last = f.last := by
              rw [hfd]
              unfold FD.does
              rw [if_neg hm, if_neg (by omega), if_neg (by omega)]
              split
              · rfl
              · split <;> rfl
            (conv => whnf); repeat ((first | (refine And.intro ?_ ?_; (focus ((repeat' (first | exact trivial | refine And.intro rfl ?_)); done))) | (refine And.intro ?_ ?_; (focus (first | omega | (dsimp -iota only; omega) | (simp -iota; omega) | (simp -iota; done) | decide)))); conv => whnf)
            exact ⟨(), Ent.mk' [some 0] (by kernel_rfl) (by repeat' first | exact trivial | refine And.intro (AVE.refl _) ?_ | refine And.intro (AVE.int (by first | rfl | omega | (dsimp only; omega) | (simp -iota; omega) | (simp -iota; done))) ?_ | refine And.intro (AVE.bool (by assumption)) ?_ | refine And.intro (AVE.len (by first | rfl | omega | (dsimp only; omega) | (simp -iota; omega) | (simp -iota; done))) ?_) (by repeat' (first | exact trivial | refine ⟨⟨_, rfl, ChE.refl _⟩, ?_⟩))⟩
end Go.Proofs.Yteeifedpabcehaa.Ax
