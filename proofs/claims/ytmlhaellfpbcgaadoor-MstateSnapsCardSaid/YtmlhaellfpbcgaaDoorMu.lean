/-
  Chapter 23: MstateSnaps, the walk.
-/
import Derived.Test.YtmlhaellfpbcgaaDoorMt
import Derived.Test.YtmlhaellfpbcgaaDoorBo
namespace Go.Proofs.YtmlhaellfpbcgaaDoor.Ax
open Go.RowKit
set_option maxRecDepth 100000
noncomputable def cfgS (N b : Nat) : Cfg := { P := Go.Proofs.Tryd.prog, T := tt, wr := false, N := N, pure := [], base := b, frz := fun op => (match op with | .buildSlice .. => true | _ => false), cuts := [1012] }
theorem cfgSOk (N b : Nat) : (cfgS N b).Ok := ⟨ttOk, ttBytes, by kernel_rfl⟩
@[reducible] def rowB (l : List Bool) : AV := .iv (.sl 1 l.length fun i => [.v (.bool (l.getD i false))])
structure SX1 (m : Nat) where
  i : Nat
  A : List Edt
  B : List Edt
  hi : i ≤ m
  hm : m ≤ 60
  hA : ∀ e ∈ A, e.In ∧ ¬ isSn e
  hB : ∀ e ∈ B, e.In ∧ isSn e
  hl : A.length + B.length = i
structure SX2 (A B : List Edt) where
  k : Nat
  s : SD
  hk : k ≤ (A ++ B).length
  hs : s.Ok k
  hc : s = comb (A.take k) (B.take (k - A.length))
structure SX3 (A B : List Edt) where
  a : Nat
  b : Nat
  u : SD
  ha : a ≤ A.length
  hb : b ≤ B.length
  hu : u.Ok (a + b)
  hc : u = comb (A.take a) (B.take b)
theorem push1 {c : Nat} {A : List Edt} {p : Edt} {g : Nat → List IV} (hg : IVEs (g 0) (editI p)) : ChE (.rowc c 5 (A.length + 1) fun j => if j < A.length then edF A j else g (j - A.length)) (.rowc c 5 (A ++ [p]).length (edF (A ++ [p]))) :=
  ChE.rowE (by simp) fun i hi => edF_app rfl (fun j _ => IVEs.refl _) hg i (by simpa using hi)
set_option maxHeartbeats 8000000 in
theorem snaps_law (t : Tb) (l : List Edt) (hl : ∀ e ∈ l, e.In) (turns : List Bool) : LawT t 6 [rowE l, rowB turns] := by
  refine ACall.fin ?_
  refine ACall.walkF (C := cfgS 115 1) (cfgSOk _ _) sch6 (fn := Go.Proofs.Tryd.f6) (by kernel_rfl) (by kernel_rfl) rfl (by kernel_rfl) (by kernel_rfl) rfl rfl fun hlen hheap => ?_
  obtain ⟨hl1, hl2, _⟩ := hlen
  simp only [lenF] at hl1 hl2
  generalize hmm : min l.length 60 = m
  (conv => whnf); repeat ((first | (refine And.intro ?_ ?_; (focus ((repeat' (first | exact trivial | refine And.intro rfl ?_)); done))) | (refine And.intro ?_ ?_; (focus (first | omega | (dsimp -iota only; omega) | (simp -iota; omega) | (simp -iota; done) | decide)))); conv => whnf)
  refine AWP.merge (Y := SX1 m) (fun z => [(1, rowB turns), (5, .ptr 1 0)]) (fun z => ⟨4, [(0, t.C), (1, .cells 63 [.row 2 5 0 z.A.length, .row 3 5 0 z.B.length]), (2, .rowc 31 5 z.A.length (edF z.A)), (3, .rowc 31 5 z.B.length (edF z.B))]⟩) 0 (fun z => ?_) ?_
  · obtain ⟨i0, A, B, hi0, hm, hA, hB, hAB⟩ := z
    (conv => whnf); repeat ((first | (refine And.intro ?_ ?_; (focus ((repeat' (first | exact trivial | refine And.intro rfl ?_)); done))) | (refine And.intro ?_ ?_; (focus (first | omega | (dsimp -iota only; omega) | (simp -iota; omega) | (simp -iota; done) | decide)))); conv => whnf)
    refine AWP.of_ent (Ent.freezeIn 2 1 rfl [.iv (.sl 5 A.length (edF A)), .row 3 5 0 B.length] rfl ⟨AVF.sl (Nat.le_refl _), AVF.same _ _ _, rfl⟩) ?_
    refine AWP.of_ent (Ent.freezeIn 3 1 rfl [.iv (.sl 5 A.length (edF A)), .iv (.sl 5 B.length (edF B))] rfl ⟨AVF.same _ _ _, AVF.sl (Nat.le_refl _), rfl⟩) ?_
    refine AWP.reg (cfgSOk _ _) ?_
    (conv => whnf); repeat ((first | (refine And.intro ?_ ?_; (focus ((repeat' (first | exact trivial | refine And.intro rfl ?_)); done))) | (refine And.intro ?_ ?_; (focus (first | omega | (dsimp -iota only; omega) | (simp -iota; omega) | (simp -iota; done) | decide)))); conv => whnf)
    refine AFn.use [] (mnew_ok) (by kernel_rfl) rfl (by repeat' first | exact trivial | refine ⟨rfl, ?_⟩) fun _ => ?_
    (conv => whnf); repeat ((first | (refine And.intro ?_ ?_; (focus ((repeat' (first | exact trivial | refine And.intro rfl ?_)); done))) | (refine And.intro ?_ ?_; (focus (first | omega | (dsimp -iota only; omega) | (simp -iota; omega) | (simp -iota; done) | decide)))); conv => whnf)
    refine AFn.use [] (mnew_ok) (by kernel_rfl) rfl (by repeat' first | exact trivial | refine ⟨rfl, ?_⟩) fun _ => ?_
    (conv => whnf); repeat ((first | (refine And.intro ?_ ?_; (focus ((repeat' (first | exact trivial | refine And.intro rfl ?_)); done))) | (refine And.intro ?_ ?_; (focus (first | omega | (dsimp -iota only; omega) | (simp -iota; omega) | (simp -iota; done) | decide)))); conv => whnf)
    refine ACall.argsE [.iv (.sl 1 2 (two A B))] ⟨AVE.sl fun j hj => ?_, rfl⟩ ?_
    · have hj' : j = 0 ∨ j = 1 := by omega
      rcases hj' with rfl | rfl <;> exact IVEs.refl _
    refine AFn.use [] (concat_ok A B (by omega) (by omega)) (by kernel_rfl) rfl (by repeat' first | exact trivial | refine ⟨rfl, ?_⟩) fun _ => ?_
    (conv => whnf); repeat ((first | (refine And.intro ?_ ?_; (focus ((repeat' (first | exact trivial | refine And.intro rfl ?_)); done))) | (refine And.intro ?_ ?_; (focus (first | omega | (dsimp -iota only; omega) | (simp -iota; omega) | (simp -iota; done) | decide)))); conv => whnf)
    refine AWP.merge (Y := { s : SD // s.Ok 60 ∧ s = comb A B }) (fun z => [(1, rowB turns), (5, .ptr 1 0), (9, .ptr 2 0), (10, .ptr 3 0)]) (fun z => ⟨4, [(0, t.C), (1, .cells 63 [.iv (.sl 5 A.length (edF A)), .iv (.sl 5 B.length (edF B))]), (2, .sem (Nest z.1.H)), (3, .sem (Nest SD.nil.H))]⟩) 2 (fun z => ?_) ?_
    · obtain ⟨s, hs, hsc⟩ := z
      (conv => whnf); repeat ((first | (refine And.intro ?_ ?_; (focus ((repeat' (first | exact trivial | refine And.intro rfl ?_)); done))) | (refine And.intro ?_ ?_; (focus (first | omega | (dsimp -iota only; omega) | (simp -iota; omega) | (simp -iota; done) | decide)))); conv => whnf)
      refine AWP.loop (X := SX3 A B) (fun x => [(1, rowB turns), (5, .ptr 1 0), (9, .ptr 2 0), (10, .ptr 3 0), (13, AV.int .i64 (x.a + x.b : Nat))]) (fun x => ⟨4, [(0, t.C), (1, .cells 63 [.iv (.sl 5 (A.drop x.a).length (edF (A.drop x.a))), .iv (.sl 5 (B.drop x.b).length (edF (B.drop x.b)))]), (2, .sem (Nest s.H)), (3, .sem (Nest x.u.H))]⟩) (fun x => A.length + B.length - (x.a + x.b)) (⟨0, 0, SD.nil, Nat.zero_le _, Nat.zero_le _, SD.nilOk, rfl⟩) ?_ fun x => AWP.go (S := sch6) (cfgSOk _ _) (.of_eq (by kernel_rfl)) ?_
      · exact Ent.mk' [some 0, some 1, some 2, some 3] (by kernel_rfl) (by repeat' first | exact trivial | refine And.intro (AVE.refl _) ?_ | refine And.intro (AVE.int (by first | rfl | omega | (dsimp only; omega) | (simp -iota; omega) | (simp -iota; done))) ?_ | refine And.intro (AVE.bool (by assumption)) ?_ | refine And.intro (AVE.len (by first | rfl | omega | (dsimp only; omega) | (simp -iota; omega) | (simp -iota; done))) ?_) (by repeat' (first | exact trivial | refine ⟨⟨_, rfl, ChE.refl _⟩, ?_⟩))
      · obtain ⟨a, b, u, ha, hb, hu, huc⟩ := x
        have hda : (A.drop a).length = A.length - a := List.length_drop
        have hdb : (B.drop b).length = B.length - b := List.length_drop
        (conv => whnf); repeat ((first | (refine And.intro ?_ ?_; (focus ((repeat' (first | exact trivial | refine And.intro rfl ?_)); done))) | (refine And.intro ?_ ?_; (focus (first | omega | (dsimp -iota only; omega) | (simp -iota; omega) | (simp -iota; done) | decide)))); conv => whnf)
        refine branchB_of (fun h => ?_) (fun h => ?_) <;> (first | replace h := not_t h | replace h := not_f h | skip) <;> (first | replace h := of_decide_eq_true h | replace h := of_decide_eq_false h | skip) <;> (first | replace h := Classical.not_not.1 h | skip) <;> (try dsimp only at h)
        · (conv => whnf); repeat ((first | (refine And.intro ?_ ?_; (focus ((repeat' (first | exact trivial | refine And.intro rfl ?_)); done))) | (refine And.intro ?_ ?_; (focus (first | omega | (dsimp -iota only; omega) | (simp -iota; omega) | (simp -iota; done) | decide)))); conv => whnf)
          repeat' (first | (refine branchB_of (fun q => ?_) (fun q => ?_) <;> (first | replace q := not_t q | replace q := not_f q | skip) <;> (first | replace q := of_decide_eq_true q | replace q := of_decide_eq_false q | skip) <;> (first | replace q := Classical.not_not.1 q | skip) <;> (try dsimp only at q) <;> (first | (exfalso; omega) | ((conv => whnf); repeat ((first | (refine And.intro ?_ ?_; (focus ((repeat' (first | exact trivial | refine And.intro rfl ?_)); done))) | (refine And.intro ?_ ?_; (focus (first | omega | (dsimp -iota only; omega) | (simp -iota; omega) | (simp -iota; done) | decide)))); conv => whnf)))) | (refine And.intro ?_ ?_ <;> ((conv => whnf); repeat ((first | (refine And.intro ?_ ?_; (focus ((repeat' (first | exact trivial | refine And.intro rfl ?_)); done))) | (refine And.intro ?_ ?_; (focus (first | omega | (dsimp -iota only; omega) | (simp -iota; omega) | (simp -iota; done) | decide)))); conv => whnf))))
          all_goals first
            | (have hlt : a < A.length := by omega
               have heI : (A.getD a default).In := (hA _ (getD_mem hlt)).1
               have ka := apply_ok t u (A.getD a default) hu.in heI
               have hok := (app_Ok u (A.getD a default) hu (by omega)).ok
               have hst : u.app (A.getD a default) = comb (A.take (a + 1)) (B.take (b)) := by
                 rw [huc, take_snoc hlt]
                 exact comb_seg (hA _ (getD_mem hlt)).2
               generalize u.app (A.getD a default) = u' at *
               rw [← drop_getD] at ka
               refine AFn.use [3, 0] (ka) (by kernel_rfl) rfl (by repeat' first | exact trivial | refine ⟨rfl, ?_⟩) fun _ => ?_
               (conv => whnf); repeat ((first | (refine And.intro ?_ ?_; (focus ((repeat' (first | exact trivial | refine And.intro rfl ?_)); done))) | (refine And.intro ?_ ?_; (focus (first | omega | (dsimp -iota only; omega) | (simp -iota; omega) | (simp -iota; done) | decide)))); conv => whnf)
               refine ⟨⟨a + 1, b, u', by omega, by omega, hok.up (by omega), hst⟩, Ent.mk' [some 0, some 1, some 2, some 3] (by kernel_rfl) (by repeat' first | exact trivial | refine And.intro (AVE.refl _) ?_ | refine And.intro (AVE.int (by first | rfl | omega | (dsimp only; omega) | (simp -iota; omega) | (simp -iota; done))) ?_ | refine And.intro (AVE.bool (by assumption)) ?_ | refine And.intro (AVE.len (by first | rfl | omega | (dsimp only; omega) | (simp -iota; omega) | (simp -iota; done))) ?_) ?_, ?_⟩
               · exact ⟨⟨_, rfl, ChE.refl _⟩, ⟨_, rfl, ChE.cells ⟨AVE.slN (by simp only [List.length_drop]; omega) (fun i _ => by show edF (A.drop a) (Int.toNat 1 + i) = edF (A.drop (a + 1)) i; rw [← edF_drop, ← edF_drop, show a + (Int.toNat 1 + i) = a + 1 + i from by show a + (1 + i) = _; omega]), AVE.refl _, rfl⟩⟩, ⟨_, rfl, ChE.refl _⟩, ⟨_, rfl, ChE.refl _⟩, trivial⟩
               · show A.length + B.length - _ < A.length + B.length - (a + b)
                 dsimp only
                 omega)
            | (have hlt : b < B.length := by omega
               have heI : (B.getD b default).In := (hB _ (getD_mem hlt)).1
               have ka := apply_ok t u (B.getD b default) hu.in heI
               have hok := (app_Ok u (B.getD b default) hu (by omega)).ok
               have hst : u.app (B.getD b default) = comb (A.take (a)) (B.take (b + 1)) := by
                 rw [huc, take_snoc hlt]
                 exact comb_sn (hB _ (getD_mem hlt)).2
               generalize u.app (B.getD b default) = u' at *
               rw [← drop_getD] at ka
               refine AFn.use [3, 0] (ka) (by kernel_rfl) rfl (by repeat' first | exact trivial | refine ⟨rfl, ?_⟩) fun _ => ?_
               (conv => whnf); repeat ((first | (refine And.intro ?_ ?_; (focus ((repeat' (first | exact trivial | refine And.intro rfl ?_)); done))) | (refine And.intro ?_ ?_; (focus (first | omega | (dsimp -iota only; omega) | (simp -iota; omega) | (simp -iota; done) | decide)))); conv => whnf)
               refine ⟨⟨a, b + 1, u', by omega, by omega, hok.up (by omega), hst⟩, Ent.mk' [some 0, some 1, some 2, some 3] (by kernel_rfl) (by repeat' first | exact trivial | refine And.intro (AVE.refl _) ?_ | refine And.intro (AVE.int (by first | rfl | omega | (dsimp only; omega) | (simp -iota; omega) | (simp -iota; done))) ?_ | refine And.intro (AVE.bool (by assumption)) ?_ | refine And.intro (AVE.len (by first | rfl | omega | (dsimp only; omega) | (simp -iota; omega) | (simp -iota; done))) ?_) ?_, ?_⟩
               · exact ⟨⟨_, rfl, ChE.refl _⟩, ⟨_, rfl, ChE.cells ⟨AVE.refl _, AVE.slN (by simp only [List.length_drop]; omega) (fun i _ => by show edF (B.drop b) (Int.toNat 1 + i) = edF (B.drop (b + 1)) i; rw [← edF_drop, ← edF_drop, show b + (Int.toNat 1 + i) = b + 1 + i from by show b + (1 + i) = _; omega]), rfl⟩⟩, ⟨_, rfl, ChE.refl _⟩, ⟨_, rfl, ChE.refl _⟩, trivial⟩
               · show A.length + B.length - _ < A.length + B.length - (a + b)
                 dsimp only
                 omega)
        · have hus : u = s := by rw [huc, hsc, List.take_of_length_le (by omega), List.take_of_length_le (by omega)]
          subst hus
          (conv => whnf); repeat ((first | (refine And.intro ?_ ?_; (focus ((repeat' (first | exact trivial | refine And.intro rfl ?_)); done))) | (refine And.intro ?_ ?_; (focus (first | omega | (dsimp -iota only; omega) | (simp -iota; omega) | (simp -iota; done) | decide)))); conv => whnf)
          refine AFn.use [2, 3] (same_ok u u hs.in.len hs.in.len hs.sn hs.sn) (by kernel_rfl) rfl (by repeat' first | exact trivial | refine ⟨rfl, ?_⟩) fun _ => ?_
          rw [show u.same u = true from decide_eq_true ⟨rfl, rfl, rfl, rfl⟩]
          (conv => whnf); repeat ((first | (refine And.intro ?_ ?_; (focus ((repeat' (first | exact trivial | refine And.intro rfl ?_)); done))) | (refine And.intro ?_ ?_; (focus (first | omega | (dsimp -iota only; omega) | (simp -iota; omega) | (simp -iota; done) | decide)))); conv => whnf)
          refine AFn.use [2] (base_ok u) (by kernel_rfl) rfl (by repeat' first | exact trivial | refine ⟨rfl, ?_⟩) fun _ => ?_
          (conv => whnf); repeat ((first | (refine And.intro ?_ ?_; (focus ((repeat' (first | exact trivial | refine And.intro rfl ?_)); done))) | (refine And.intro ?_ ?_; (focus (first | omega | (dsimp -iota only; omega) | (simp -iota; omega) | (simp -iota; done) | decide)))); conv => whnf)
          refine AFn.use [3] (base_ok u) (by kernel_rfl) rfl (by repeat' first | exact trivial | refine ⟨rfl, ?_⟩) fun _ => ?_
          (conv => whnf); repeat ((first | (refine And.intro ?_ ?_; (focus ((repeat' (first | exact trivial | refine And.intro rfl ?_)); done))) | (refine And.intro ?_ ?_; (focus (first | omega | (dsimp -iota only; omega) | (simp -iota; omega) | (simp -iota; done) | decide)))); conv => whnf)
          refine branchB_of (fun q => ?_) (fun q => ?_) <;> (first | replace q := not_t q | replace q := not_f q | skip) <;> (first | replace q := of_decide_eq_true q | replace q := of_decide_eq_false q | skip) <;> (first | replace q := Classical.not_not.1 q | skip) <;> (try dsimp only at q)
          · (conv => whnf); repeat ((first | (refine And.intro ?_ ?_; (focus ((repeat' (first | exact trivial | refine And.intro rfl ?_)); done))) | (refine And.intro ?_ ?_; (focus (first | omega | (dsimp -iota only; omega) | (simp -iota; omega) | (simp -iota; done) | decide)))); conv => whnf)
            refine AFn.use [0] (wakes_ok t) (by kernel_rfl) rfl (by repeat' first | exact trivial | refine ⟨rfl, ?_⟩) fun _ => ?_
            (conv => whnf); repeat ((first | (refine And.intro ?_ ?_; (focus ((repeat' (first | exact trivial | refine And.intro rfl ?_)); done))) | (refine And.intro ?_ ?_; (focus (first | omega | (dsimp -iota only; omega) | (simp -iota; omega) | (simp -iota; done) | decide)))); conv => whnf)
            refine ⟨_, _, Ent.mk' (e' := [(0, AV.bool true)]) (H' := ⟨1, [(0, t.C)]⟩) [some 0] (by kernel_rfl) ?_ ?_, (), rfl, rfl⟩
            · exact ⟨AVE.refl _, trivial⟩
            · (repeat' first | exact trivial | refine ⟨⟨_, rfl, ChE.refl _⟩, ?_⟩)
          · exact absurd rfl q
    refine AWP.loop (X := SX2 A B) (fun x => [(1, rowB turns), (5, .ptr 1 0), (9, .ptr 2 0), (10, .ptr 3 0), (52, rowE (A ++ B)), (53, AV.int .i64 (A ++ B).length), (54, AV.int .i64 x.k)]) (fun x => ⟨4, [(0, t.C), (1, .cells 63 [.iv (.sl 5 A.length (edF A)), .iv (.sl 5 B.length (edF B))]), (2, .sem (Nest x.s.H)), (3, .sem (Nest SD.nil.H))]⟩) (fun x => (A ++ B).length - x.k) (⟨0, SD.nil, Nat.zero_le _, SD.nilOk, by simp; rfl⟩) ?_ fun x => AWP.go (S := sch6) (cfgSOk _ _) (.of_eq (by kernel_rfl)) ?_
    · exact Ent.mk' [some 0, some 1, some 4, some 5] (by kernel_rfl) (by repeat' first | exact trivial | refine And.intro (AVE.refl _) ?_ | refine And.intro (AVE.int (by first | rfl | omega | (dsimp only; omega) | (simp -iota; omega) | (simp -iota; done))) ?_ | refine And.intro (AVE.bool (by assumption)) ?_ | refine And.intro (AVE.len (by first | rfl | omega | (dsimp only; omega) | (simp -iota; omega) | (simp -iota; done))) ?_) (by repeat' (first | exact trivial | refine ⟨⟨_, rfl, ChE.refl _⟩, ?_⟩))
    · obtain ⟨k, s, hk, hs, hcm⟩ := x
      have hAl : (A ++ B).length = A.length + B.length := List.length_append
      have hkx : ((k : Nat) : Int).toNat = k := by simp
      (conv => whnf); repeat ((first | (refine And.intro ?_ ?_; (focus ((repeat' (first | exact trivial | refine And.intro rfl ?_)); done))) | (refine And.intro ?_ ?_; (focus (first | omega | (dsimp -iota only; omega) | (simp -iota; omega) | (simp -iota; done) | decide)))); conv => whnf)
      refine branchB_of (fun h => ?_) (fun h => ?_) <;> (first | replace h := not_t h | replace h := not_f h | skip) <;> (first | replace h := of_decide_eq_true h | replace h := of_decide_eq_false h | skip) <;> (first | replace h := Classical.not_not.1 h | skip) <;> (try dsimp only at h)
      rotate_left
      · (conv => whnf); repeat ((first | (refine And.intro ?_ ?_; (focus ((repeat' (first | exact trivial | refine And.intro rfl ?_)); done))) | (refine And.intro ?_ ?_; (focus (first | omega | (dsimp -iota only; omega) | (simp -iota; omega) | (simp -iota; done) | decide)))); conv => whnf)
        exact ⟨⟨s, hs.up (by omega), by rw [hcm, List.take_of_length_le (by omega), List.take_of_length_le (by omega)]⟩, Ent.mk' [some 0, some 1, some 2, some 3] (by kernel_rfl) (by repeat' first | exact trivial | refine And.intro (AVE.refl _) ?_ | refine And.intro (AVE.int (by first | rfl | omega | (dsimp only; omega) | (simp -iota; omega) | (simp -iota; done))) ?_ | refine And.intro (AVE.bool (by assumption)) ?_ | refine And.intro (AVE.len (by first | rfl | omega | (dsimp only; omega) | (simp -iota; omega) | (simp -iota; done))) ?_) (by repeat' (first | exact trivial | refine ⟨⟨_, rfl, ChE.refl _⟩, ?_⟩))⟩
      have hk' : k < (A ++ B).length := by omega
      have hstep := comb_step (fun e he => (hA e he).2) (fun e he => (hB e he).2) hk'
      have heI : ((A ++ B).getD k default).In := by
        rcases List.mem_append.1 (getD_mem hk') with g | g
        · exact (hA _ g).1
        · exact (hB _ g).1
      rw [← hcm] at hstep
      have hok := (app_Ok s ((A ++ B).getD k default) hs (by omega)).ok
      have ka := apply_ok t s ((A ++ B).getD k default) hs.in heI
      rw [hstep] at hok ka
      generalize hs' : comb (A.take (k + 1)) (B.take (k + 1 - A.length)) = s' at *
      (conv => whnf); repeat ((first | (refine And.intro ?_ ?_; (focus ((repeat' (first | exact trivial | refine And.intro rfl ?_)); done))) | (refine And.intro ?_ ?_; (focus (first | omega | (dsimp -iota only; omega) | (simp -iota; omega) | (simp -iota; done) | decide)))); conv => whnf)
      rw [hkx]
      refine AFn.use [2, 0] (ka) (by kernel_rfl) rfl (by repeat' first | exact trivial | refine ⟨rfl, ?_⟩) fun _ => ?_
      (conv => whnf); repeat ((first | (refine And.intro ?_ ?_; (focus ((repeat' (first | exact trivial | refine And.intro rfl ?_)); done))) | (refine And.intro ?_ ?_; (focus (first | omega | (dsimp -iota only; omega) | (simp -iota; omega) | (simp -iota; done) | decide)))); conv => whnf)
      refine ⟨⟨k + 1, s', by omega, hok, hs'.symm⟩, Ent.mk' [some 0, some 1, some 2, some 3] (by kernel_rfl) (by repeat' first | exact trivial | refine And.intro (AVE.refl _) ?_ | refine And.intro (AVE.int (by first | rfl | omega | (dsimp only; omega) | (simp -iota; omega) | (simp -iota; done))) ?_ | refine And.intro (AVE.bool (by assumption)) ?_ | refine And.intro (AVE.len (by first | rfl | omega | (dsimp only; omega) | (simp -iota; omega) | (simp -iota; done))) ?_) (by repeat' (first | exact trivial | refine ⟨⟨_, rfl, ChE.refl _⟩, ?_⟩)), ?_⟩
      show (A ++ B).length - (k + 1) < (A ++ B).length - k
      omega
  refine AWP.loop (X := SX1 m) (fun x => [(1, rowB turns), (5, .ptr 1 0), (20, .iv (.sl 5 m (edF l))), (21, AV.int .i64 m), (22, AV.int .i64 x.i)]) (fun x => ⟨4, [(0, t.C), (1, .cells 63 [.row 2 5 0 x.A.length, .row 3 5 0 x.B.length]), (2, .rowc 31 5 x.A.length (edF x.A)), (3, .rowc 31 5 x.B.length (edF x.B))]⟩) (fun x => m - x.i) (⟨0, [], [], Nat.zero_le _, by omega, (fun e he => by cases he), (fun e he => by cases he), rfl⟩) ?_ fun x => AWP.go (S := sch6) (cfgSOk _ _) (.of_eq (by kernel_rfl)) ?_
  · refine Ent.mk' [some 0, some 1, none, none] (by kernel_rfl) ?_ ?_
    · refine ⟨AVE.refl _, AVE.refl _, AVE.slN (by omega) (fun i _ => ?_), AVE.int (by omega), AVE.refl _, trivial⟩
      show edF l (Int.toNat 0 + i) = edF l i
      rw [show Int.toNat 0 + i = i from Nat.zero_add i]
    · exact ⟨⟨_, rfl, ChE.refl _⟩, ⟨_, rfl, ChE.cells ⟨AVE.nil _ _, AVE.nil _ _, rfl⟩⟩, trivial, trivial, trivial⟩
  · obtain ⟨i, A, B, hi, hm, hA, hB, hAB⟩ := x
    (conv => whnf); repeat ((first | (refine And.intro ?_ ?_; (focus ((repeat' (first | exact trivial | refine And.intro rfl ?_)); done))) | (refine And.intro ?_ ?_; (focus (first | omega | (dsimp -iota only; omega) | (simp -iota; omega) | (simp -iota; done) | decide)))); conv => whnf)
    refine branchB_of (fun h => ?_) (fun h => ?_) <;> (first | replace h := not_t h | replace h := not_f h | skip) <;> (first | replace h := of_decide_eq_true h | replace h := of_decide_eq_false h | skip) <;> (first | replace h := Classical.not_not.1 h | skip) <;> (try dsimp only at h)
    rotate_left
    · (conv => whnf); repeat ((first | (refine And.intro ?_ ?_; (focus ((repeat' (first | exact trivial | refine And.intro rfl ?_)); done))) | (refine And.intro ?_ ?_; (focus (first | omega | (dsimp -iota only; omega) | (simp -iota; omega) | (simp -iota; done) | decide)))); conv => whnf)
      exact ⟨⟨i, A, B, hi, hm, hA, hB, hAB⟩, Ent.mk' [some 0, some 1, some 2, some 3] (by kernel_rfl) (by repeat' first | exact trivial | refine And.intro (AVE.refl _) ?_ | refine And.intro (AVE.int (by first | rfl | omega | (dsimp only; omega) | (simp -iota; omega) | (simp -iota; done))) ?_ | refine And.intro (AVE.bool (by assumption)) ?_ | refine And.intro (AVE.len (by first | rfl | omega | (dsimp only; omega) | (simp -iota; omega) | (simp -iota; done))) ?_) (by repeat' (first | exact trivial | refine ⟨⟨_, rfl, ChE.refl _⟩, ?_⟩))⟩
    generalize hc : l.getD ((i : Nat) : Int).toNat default = c
    have hcI : c.In := hc ▸ getD_In hl _
    (conv => whnf); repeat ((first | (refine And.intro ?_ ?_; (focus ((repeat' (first | exact trivial | refine And.intro rfl ?_)); done))) | (refine And.intro ?_ ?_; (focus (first | omega | (dsimp -iota only; omega) | (simp -iota; omega) | (simp -iota; done) | decide)))); conv => whnf)
    rw [hc]
    refine AFn.use [] (few_ok c) (by kernel_rfl) rfl (by repeat' first | exact trivial | refine ⟨rfl, ?_⟩) fun _ => ?_
    have hcf := few_In hcI
    generalize c.few = e at *
    (conv => whnf); repeat ((first | (refine And.intro ?_ ?_; (focus ((repeat' (first | exact trivial | refine And.intro rfl ?_)); done))) | (refine And.intro ?_ ?_; (focus (first | omega | (dsimp -iota only; omega) | (simp -iota; omega) | (simp -iota; done) | decide)))); conv => whnf)
    refine branchB_of (fun q => ?_) (fun q => ?_) <;> (first | replace q := not_t q | replace q := not_f q | skip) <;> (first | replace q := of_decide_eq_true q | replace q := of_decide_eq_false q | skip) <;> (first | replace q := Classical.not_not.1 q | skip) <;> (try dsimp only at q)
    · have hs : isSn e := .inl q
      (conv => whnf); repeat ((first | (refine And.intro ?_ ?_; (focus ((repeat' (first | exact trivial | refine And.intro rfl ?_)); done))) | (refine And.intro ?_ ?_; (focus (first | omega | (dsimp -iota only; omega) | (simp -iota; omega) | (simp -iota; done) | decide)))); conv => whnf)
      repeat' (first | (refine And.intro ?_ ?_ <;> ((conv => whnf); repeat ((first | (refine And.intro ?_ ?_; (focus ((repeat' (first | exact trivial | refine And.intro rfl ?_)); done))) | (refine And.intro ?_ ?_; (focus (first | omega | (dsimp -iota only; omega) | (simp -iota; omega) | (simp -iota; done) | decide)))); conv => whnf))))
      all_goals
        refine ⟨⟨i + 1, A, B ++ [e], by omega, hm, hA, fun x hx => by
          rcases List.mem_append.1 hx with hx | hx
          · exact hB x hx
          · rw [List.mem_singleton.1 hx]; exact ⟨hcf, hs⟩, by rw [List.length_append, List.length_singleton]; omega⟩, Ent.mk' [some 0, some 1, some 2, some 5] (by kernel_rfl) (by repeat' first | exact trivial | refine And.intro (AVE.refl _) ?_ | refine And.intro (AVE.int (by first | rfl | omega | (dsimp only; omega) | (simp -iota; omega) | (simp -iota; done))) ?_ | refine And.intro (AVE.bool (by assumption)) ?_ | refine And.intro (AVE.len (by first | rfl | omega | (dsimp only; omega) | (simp -iota; omega) | (simp -iota; done))) ?_) ?_, ?_⟩
        · exact ⟨⟨_, rfl, ChE.refl _⟩, ⟨_, rfl, ChE.cells ⟨AVE.refl _, AVE.len (by simp), rfl⟩⟩, ⟨_, rfl, ChE.refl _⟩, ⟨_, rfl, push1 (IVEs.refl _)⟩, trivial⟩
        · show m - (i + 1) < m - i
          omega
    (conv => whnf); repeat ((first | (refine And.intro ?_ ?_; (focus ((repeat' (first | exact trivial | refine And.intro rfl ?_)); done))) | (refine And.intro ?_ ?_; (focus (first | omega | (dsimp -iota only; omega) | (simp -iota; omega) | (simp -iota; done) | decide)))); conv => whnf)
    refine branchB_of (fun q2 => ?_) (fun q2 => ?_) <;> (first | replace q2 := not_t q2 | replace q2 := not_f q2 | skip) <;> (first | replace q2 := of_decide_eq_true q2 | replace q2 := of_decide_eq_false q2 | skip) <;> (first | replace q2 := Classical.not_not.1 q2 | skip) <;> (try dsimp only at q2)
    · have hs : isSn e := .inr q2
      (conv => whnf); repeat ((first | (refine And.intro ?_ ?_; (focus ((repeat' (first | exact trivial | refine And.intro rfl ?_)); done))) | (refine And.intro ?_ ?_; (focus (first | omega | (dsimp -iota only; omega) | (simp -iota; omega) | (simp -iota; done) | decide)))); conv => whnf)
      repeat' (first | (refine And.intro ?_ ?_ <;> ((conv => whnf); repeat ((first | (refine And.intro ?_ ?_; (focus ((repeat' (first | exact trivial | refine And.intro rfl ?_)); done))) | (refine And.intro ?_ ?_; (focus (first | omega | (dsimp -iota only; omega) | (simp -iota; omega) | (simp -iota; done) | decide)))); conv => whnf))))
      all_goals
        refine ⟨⟨i + 1, A, B ++ [e], by omega, hm, hA, fun x hx => by
          rcases List.mem_append.1 hx with hx | hx
          · exact hB x hx
          · rw [List.mem_singleton.1 hx]; exact ⟨hcf, hs⟩, by rw [List.length_append, List.length_singleton]; omega⟩, Ent.mk' [some 0, some 1, some 2, some 5] (by kernel_rfl) (by repeat' first | exact trivial | refine And.intro (AVE.refl _) ?_ | refine And.intro (AVE.int (by first | rfl | omega | (dsimp only; omega) | (simp -iota; omega) | (simp -iota; done))) ?_ | refine And.intro (AVE.bool (by assumption)) ?_ | refine And.intro (AVE.len (by first | rfl | omega | (dsimp only; omega) | (simp -iota; omega) | (simp -iota; done))) ?_) ?_, ?_⟩
        · exact ⟨⟨_, rfl, ChE.refl _⟩, ⟨_, rfl, ChE.cells ⟨AVE.refl _, AVE.len (by simp), rfl⟩⟩, ⟨_, rfl, ChE.refl _⟩, ⟨_, rfl, push1 (IVEs.refl _)⟩, trivial⟩
        · show m - (i + 1) < m - i
          omega
    · have hs : ¬ isSn e := fun h => h.elim q q2
      (conv => whnf); repeat ((first | (refine And.intro ?_ ?_; (focus ((repeat' (first | exact trivial | refine And.intro rfl ?_)); done))) | (refine And.intro ?_ ?_; (focus (first | omega | (dsimp -iota only; omega) | (simp -iota; omega) | (simp -iota; done) | decide)))); conv => whnf)
      repeat' (first | (refine And.intro ?_ ?_ <;> ((conv => whnf); repeat ((first | (refine And.intro ?_ ?_; (focus ((repeat' (first | exact trivial | refine And.intro rfl ?_)); done))) | (refine And.intro ?_ ?_; (focus (first | omega | (dsimp -iota only; omega) | (simp -iota; omega) | (simp -iota; done) | decide)))); conv => whnf))))
      all_goals
        refine ⟨⟨i + 1, A ++ [e], B, by omega, hm, fun x hx => by
          rcases List.mem_append.1 hx with hx | hx
          · exact hA x hx
          · rw [List.mem_singleton.1 hx]; exact ⟨hcf, hs⟩, hB, by rw [List.length_append, List.length_singleton]; omega⟩, Ent.mk' [some 0, some 1, some 5, some 3] (by kernel_rfl) (by repeat' first | exact trivial | refine And.intro (AVE.refl _) ?_ | refine And.intro (AVE.int (by first | rfl | omega | (dsimp only; omega) | (simp -iota; omega) | (simp -iota; done))) ?_ | refine And.intro (AVE.bool (by assumption)) ?_ | refine And.intro (AVE.len (by first | rfl | omega | (dsimp only; omega) | (simp -iota; omega) | (simp -iota; done))) ?_) ?_, ?_⟩
        · exact ⟨⟨_, rfl, ChE.refl _⟩, ⟨_, rfl, ChE.cells ⟨AVE.len (by simp), AVE.refl _, rfl⟩⟩, ⟨_, rfl, push1 (IVEs.refl _)⟩, ⟨_, rfl, ChE.refl _⟩, trivial⟩
        · show m - (i + 1) < m - i
          omega
end Go.Proofs.YtmlhaellfpbcgaaDoor.Ax
