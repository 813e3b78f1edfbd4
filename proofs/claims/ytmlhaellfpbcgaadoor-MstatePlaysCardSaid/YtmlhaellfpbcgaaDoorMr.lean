/-
  Chapter 23: MstatePlays, the walk.
-/
import Derived.Test.YtmlhaellfpbcgaaDoorQi
import Derived.Test.YtmlhaellfpbcgaaDoorQf
namespace Go.Proofs.YtmlhaellfpbcgaaDoor.Ax
open Go.RowKit
set_option maxRecDepth 100000
noncomputable def cfgW (N b : Nat) : Cfg := { P := Go.Proofs.Tryd.prog, T := tt, wr := true, N := N, pure := [], base := b, cuts := [1009] }
theorem cfgWOk (N b : Nat) : (cfgW N b).Ok := ⟨ttOk, ttBytes, by kernel_rfl⟩
theorem wr64 {n : Int} (h1 : 0 ≤ n) (h2 : n ≤ 9223372036854775807) : wrK .i64 n = n := by
  rw [wrK_eq]
  exact inK_wrap (k := .i64) ⟨by omega, by omega, trivial⟩
structure WX (e : Edt) where
  k : Nat
  L : List Seal
  hk : k ≤ e.seals.length
  hL : L.length = e.seals.length
theorem slF_set {L : List Seal} {k : Nat} (hk : k < L.length) (x : Seal) (j : Nat) : slF (L.set k x) j = if j = k then sealI x else slF L j := by
  unfold slF
  by_cases h : j = k
  · subst h
    simp [List.getD, hk]
  · simp [List.getD, h, Ne.symm h]
structure PX (l : List Edt) where
  i : Nat
  s : SD
  hs : s.Ok i
  hb : SB s
  hi : i ≤ 80
  hil : i ≤ l.length
set_option maxHeartbeats 8000000 in
theorem plays_law (t : Tb) (l : List Edt) (hl : ∀ e ∈ l, e.In) (at' : Nat) (_hat : at' ≤ 255) : LawT t 4 [rowE l, AV.int .u8 at'] := by
  refine ACall.fin ?_
  refine ACall.walkF (C := cfgW 76 1) (cfgWOk _ _) sch4 (fn := Go.Proofs.Tryd.f4) (by kernel_rfl) (by kernel_rfl) rfl (by kernel_rfl) (by kernel_rfl) rfl rfl fun hlen hheap => ?_
  obtain ⟨hl1, _⟩ := hlen
  simp only [lenF] at hl1
  (conv => whnf); repeat ((first | (refine And.intro ?_ ?_; (focus ((repeat' (first | exact trivial | refine And.intro rfl ?_)); done))) | (refine And.intro ?_ ?_; (focus (first | omega | (dsimp -iota only; omega) | (simp -iota; omega) | (simp -iota; done) | decide)))); conv => whnf)
  refine AFn.use [] (mnew_ok) (by kernel_rfl) rfl (by repeat' first | exact trivial | refine ⟨rfl, ?_⟩) fun _ => ?_
  (conv => whnf); repeat ((first | (refine And.intro ?_ ?_; (focus ((repeat' (first | exact trivial | refine And.intro rfl ?_)); done))) | (refine And.intro ?_ ?_; (focus (first | omega | (dsimp -iota only; omega) | (simp -iota; omega) | (simp -iota; done) | decide)))); conv => whnf)
  refine AWP.merge (Y := Unit) (fun u => []) (fun u => ⟨1, [(0, t.C)]⟩) 0 (fun u => ?_) ?_
  · (conv => whnf); repeat ((first | (refine And.intro ?_ ?_; (focus ((repeat' (first | exact trivial | refine And.intro rfl ?_)); done))) | (refine And.intro ?_ ?_; (focus (first | omega | (dsimp -iota only; omega) | (simp -iota; omega) | (simp -iota; done) | decide)))); conv => whnf)
    refine AFn.use [0] (wakes_ok t) (by kernel_rfl) rfl (by repeat' first | exact trivial | refine ⟨rfl, ?_⟩) fun _ => ?_
    (conv => whnf); repeat ((first | (refine And.intro ?_ ?_; (focus ((repeat' (first | exact trivial | refine And.intro rfl ?_)); done))) | (refine And.intro ?_ ?_; (focus (first | omega | (dsimp -iota only; omega) | (simp -iota; omega) | (simp -iota; done) | decide)))); conv => whnf)
    refine ⟨_, _, Ent.mk' (e' := [(0, AV.bool true)]) (H' := ⟨1, [(0, t.C)]⟩) [some 0] (by kernel_rfl) ?_ ?_, (), rfl, rfl⟩
    · exact ⟨AVE.refl _, trivial⟩
    · (repeat' first | exact trivial | refine ⟨⟨_, rfl, ChE.refl _⟩, ?_⟩)
  refine AWP.loop (X := PX l) (fun x => [(1, AV.int .u8 at'), (5, .ptr 1 0), (6, .ptr 2 0), (15, rowE l), (16, AV.int .i64 l.length), (17, AV.int .i64 x.i)]) (fun x => ⟨3, [(0, t.C), (1, .sem (Nest x.s.H)), (2, .sem (Nest x.s.R))]⟩) (fun x => 80 - x.i) (⟨0, SD.nil, SD.nilOk, (fun x hx => by cases hx), by omega, by omega⟩) ?_ fun x => AWP.go (S := sch4) (cfgWOk _ _) (.of_eq (by kernel_rfl)) ?_
  · refine Ent.trans (e' := [(1, AV.int .u8 at'), (5, .ptr 1 0), (6, .ptr 2 0), (15, rowE l), (16, AV.int .i64 l.length), (17, AV.int .i64 (0 : Nat))]) (H' := ⟨5, [(0, t.C), (1, .sem (Nest SD.nil.H)), (2, .cells 46 [AV.int .u64 0, .row 3 3 0 0, AV.int .u64 0, .row 4 5 0 0, AV.int .u32 0]), (3, .rowc 98 3 0 (oF [])), (4, .rowc 49 5 0 (slF []))]⟩) (Ent.mk' [some 0, some 1, some 2, none, none] (by kernel_rfl) ?_ ?_) (Ent.trans (HEnt.ent (HEnt.close [2, 3, 4] 2 SD.nil.R ?_ ?_)) (Ent.mk' [some 0, some 1, some 2] ?_ ?_ ?_))
    · exact ⟨AVE.refl _, AVE.refl _, AVE.refl _, AVE.refl _, AVE.refl _, AVE.refl _, trivial⟩
    · exact ⟨⟨_, rfl, ChE.refl _⟩, ⟨_, rfl, ChE.refl _⟩, ⟨_, rfl, ChE.cells ⟨AVE.refl _, AVE.nil _ _, AVE.refl _, AVE.nil _ _, AVE.refl _, rfl⟩⟩, trivial, trivial, trivial⟩
    · kernel_rfl
    · repeat' first | exact trivial | refine ⟨rfl, ?_⟩
    · kernel_rfl
    · exact ⟨AVE.refl _, AVE.refl _, AVE.refl _, AVE.refl _, AVE.refl _, AVE.refl _, trivial⟩
    · (repeat' first | exact trivial | refine ⟨⟨_, rfl, ChE.refl _⟩, ?_⟩)
  · obtain ⟨i, s, hs, hb, hi, hil⟩ := x
    (conv => whnf); repeat ((first | (refine And.intro ?_ ?_; (focus ((repeat' (first | exact trivial | refine And.intro rfl ?_)); done))) | (refine And.intro ?_ ?_; (focus (first | omega | (dsimp -iota only; omega) | (simp -iota; omega) | (simp -iota; done) | decide)))); conv => whnf)
    refine branchB_of (fun h => ?_) (fun h => ?_) <;> (first | replace h := not_t h | replace h := not_f h | skip) <;> (first | replace h := of_decide_eq_true h | replace h := of_decide_eq_false h | skip) <;> (first | replace h := Classical.not_not.1 h | skip) <;> (try dsimp only at h)
    rotate_left
    · (conv => whnf); repeat ((first | (refine And.intro ?_ ?_; (focus ((repeat' (first | exact trivial | refine And.intro rfl ?_)); done))) | (refine And.intro ?_ ?_; (focus (first | omega | (dsimp -iota only; omega) | (simp -iota; omega) | (simp -iota; done) | decide)))); conv => whnf)
      exact ⟨(), Ent.mk' [some 0] (by kernel_rfl) (by repeat' first | exact trivial | refine And.intro (AVE.refl _) ?_ | refine And.intro (AVE.int (by first | rfl | omega | (dsimp only; omega) | (simp -iota; omega) | (simp -iota; done))) ?_ | refine And.intro (AVE.bool (by assumption)) ?_ | refine And.intro (AVE.len (by first | rfl | omega | (dsimp only; omega) | (simp -iota; omega) | (simp -iota; done))) ?_) (by repeat' (first | exact trivial | refine ⟨⟨_, rfl, ChE.refl _⟩, ?_⟩))⟩
    generalize hc : l.getD ((i : Nat) : Int).toNat default = c
    have hcI : c.In := hc ▸ getD_In hl _
    (conv => whnf); repeat ((first | (refine And.intro ?_ ?_; (focus ((repeat' (first | exact trivial | refine And.intro rfl ?_)); done))) | (refine And.intro ?_ ?_; (focus (first | omega | (dsimp -iota only; omega) | (simp -iota; omega) | (simp -iota; done) | decide)))); conv => whnf)
    rw [hc]
    refine branchB_of (fun h2 => ?_) (fun h2 => ?_) <;> (first | replace h2 := not_t h2 | replace h2 := not_f h2 | skip) <;> (first | replace h2 := of_decide_eq_true h2 | replace h2 := of_decide_eq_false h2 | skip) <;> (first | replace h2 := Classical.not_not.1 h2 | skip) <;> (try dsimp only at h2)
    · (conv => whnf); repeat ((first | (refine And.intro ?_ ?_; (focus ((repeat' (first | exact trivial | refine And.intro rfl ?_)); done))) | (refine And.intro ?_ ?_; (focus (first | omega | (dsimp -iota only; omega) | (simp -iota; omega) | (simp -iota; done) | decide)))); conv => whnf)
      exact ⟨(), Ent.mk' [some 0] (by kernel_rfl) (by repeat' first | exact trivial | refine And.intro (AVE.refl _) ?_ | refine And.intro (AVE.int (by first | rfl | omega | (dsimp only; omega) | (simp -iota; omega) | (simp -iota; done))) ?_ | refine And.intro (AVE.bool (by assumption)) ?_ | refine And.intro (AVE.len (by first | rfl | omega | (dsimp only; omega) | (simp -iota; omega) | (simp -iota; done))) ?_) (by repeat' (first | exact trivial | refine ⟨⟨_, rfl, ChE.refl _⟩, ?_⟩))⟩
    (conv => whnf); repeat ((first | (refine And.intro ?_ ?_; (focus ((repeat' (first | exact trivial | refine And.intro rfl ?_)); done))) | (refine And.intro ?_ ?_; (focus (first | omega | (dsimp -iota only; omega) | (simp -iota; omega) | (simp -iota; done) | decide)))); conv => whnf)
    refine AFn.use [] (few_ok c) (by kernel_rfl) rfl (by repeat' first | exact trivial | refine ⟨rfl, ?_⟩) fun _ => ?_
    have hcf := few_In hcI
    have hcn : c.few.seals.length ≤ 210 := by
      show (c.seals.take 210).length ≤ 210
      rw [List.length_take]
      omega
    generalize c.few = e at *
    (conv => whnf); repeat ((first | (refine And.intro ?_ ?_; (focus ((repeat' (first | exact trivial | refine And.intro rfl ?_)); done))) | (refine And.intro ?_ ?_; (focus (first | omega | (dsimp -iota only; omega) | (simp -iota; omega) | (simp -iota; done) | decide)))); conv => whnf)
    refine AFn.use [] (clI_ok e.seals.length (by omega) (slF e.seals)) (by kernel_rfl) rfl (by repeat' first | exact trivial | refine ⟨rfl, ?_⟩) fun _ => ?_
    (conv => whnf); repeat ((first | (refine And.intro ?_ ?_; (focus ((repeat' (first | exact trivial | refine And.intro rfl ?_)); done))) | (refine And.intro ?_ ?_; (focus (first | omega | (dsimp -iota only; omega) | (simp -iota; omega) | (simp -iota; done) | decide)))); conv => whnf)
    refine AWP.of_ent (e' := [(1, AV.int .u8 at'), (5, .ptr 1 0), (6, .ptr 2 0), (7, AV.int .i64 i), (8, .ptr 3 0), (9, .ptr 4 0), (15, rowE l), (16, AV.int .i64 l.length), (17, AV.int .i64 i)]) (H' := ⟨6, [(0, t.C), (1, .sem (Nest s.H)), (2, .sem (Nest s.R)), (3, .cells 31 [AV.int .i64 e.kind, AV.str e.name, AV.int .u64 e.seq, AV.int .u32 e.id, .iv (.sl 5 e.seals.length (slF e.seals))]), (4, .cells 31 [AV.int .i64 e.kind, AV.str e.name, AV.int .u64 e.seq, AV.int .u32 e.id, .row 5 5 0 e.seals.length]), (5, .rowc 49 5 e.seals.length (slF e.seals))]⟩) (Ent.mk' [some 0, some 1, some 2, some 3, some 4, some 5] (by kernel_rfl) ?_ ?_) ?_
    · repeat' first | exact trivial | refine And.intro (AVE.refl _) ?_
    · (repeat' first | exact trivial | refine ⟨⟨_, rfl, ChE.refl _⟩, ?_⟩)
    refine AWP.regD (cfgWOk _ _) sch4 (by kernel_rfl) ?_
    have hst := app_Ok s e hs (by omega)
    have hb2 := app_B hb hcf
    have ka := applyW_ok t s e hs.in hcf
    have kb := rapply_ok s e hs.in hcf (by have := hs.len; omega)
    generalize s.app e = s2 at *
    generalize s.appE e = w at *
    have hs2 := hst.ok
    apply AWP.ahead (C := cfgW 76 1) ([(1, AV.int .u8 at'), (5, .ptr 1 0), (6, .ptr 2 0), (7, AV.int .i64 i), (9, .ptr 3 0), (15, rowE l), (16, AV.int .i64 l.length), (17, AV.int .i64 i), (40, AV.int .i64 e.seals.length), (41, AV.int .i64 0)]) (⟨5, [(0, t.C), (1, .sem (Nest s2.H)), (2, .sem (Nest s2.R)), (3, .cells 31 [AV.int .i64 e.kind, AV.str e.name, AV.int .u64 e.seq, AV.int .u32 e.id, .row 4 5 0 e.seals.length]), (4, .rowc 49 5 e.seals.length (slF e.seals))]⟩)
    · intro key
      (conv => whnf); repeat ((first | (refine And.intro ?_ ?_; (focus ((repeat' (first | exact trivial | refine And.intro rfl ?_)); done))) | (refine And.intro ?_ ?_; (focus (first | omega | (dsimp -iota only; omega) | (simp -iota; omega) | (simp -iota; done) | decide)))); conv => whnf)
      repeat' (first | (refine branchB_of (fun q => ?_) (fun q => ?_) <;> (first | replace q := not_t q | replace q := not_f q | skip) <;> (first | replace q := of_decide_eq_true q | replace q := of_decide_eq_false q | skip) <;> (first | replace q := Classical.not_not.1 q | skip) <;> (try dsimp only at q) <;> (first | (exfalso; exact q rfl) | ((conv => whnf); repeat ((first | (refine And.intro ?_ ?_; (focus ((repeat' (first | exact trivial | refine And.intro rfl ?_)); done))) | (refine And.intro ?_ ?_; (focus (first | omega | (dsimp -iota only; omega) | (simp -iota; omega) | (simp -iota; done) | decide)))); conv => whnf)))) | (refine And.intro ?_ ?_ <;> ((conv => whnf); repeat ((first | (refine And.intro ?_ ?_; (focus ((repeat' (first | exact trivial | refine And.intro rfl ?_)); done))) | (refine And.intro ?_ ?_; (focus (first | omega | (dsimp -iota only; omega) | (simp -iota; omega) | (simp -iota; done) | decide)))); conv => whnf))) | (refine AFn.use [1, 0, 5] (ka) (by kernel_rfl) rfl (by repeat' first | exact trivial | refine ⟨rfl, ?_⟩) fun _ => ?_; ((conv => whnf); repeat ((first | (refine And.intro ?_ ?_; (focus ((repeat' (first | exact trivial | refine And.intro rfl ?_)); done))) | (refine And.intro ?_ ?_; (focus (first | omega | (dsimp -iota only; omega) | (simp -iota; omega) | (simp -iota; done) | decide)))); conv => whnf))) | (refine AFn.use [2] (kb) (by kernel_rfl) rfl (by repeat' first | exact trivial | refine ⟨rfl, ?_⟩) fun _ => ?_; ((conv => whnf); repeat ((first | (refine And.intro ?_ ?_; (focus ((repeat' (first | exact trivial | refine And.intro rfl ?_)); done))) | (refine And.intro ?_ ?_; (focus (first | omega | (dsimp -iota only; omega) | (simp -iota; omega) | (simp -iota; done) | decide)))); conv => whnf))))
      all_goals
        refine AWP.of_ent ?_ key
        exact Ent.mk' [some 0, some 1, some 2, some 4, some 5] (by kernel_rfl) (by repeat' first | exact trivial | refine And.intro (AVE.refl _) ?_ | refine And.intro (AVE.int (by first | rfl | omega | (dsimp only; omega) | (simp -iota; omega) | (simp -iota; done))) ?_ | refine And.intro (AVE.bool (by assumption)) ?_ | refine And.intro (AVE.len (by first | rfl | omega | (dsimp only; omega) | (simp -iota; omega) | (simp -iota; done))) ?_) (by repeat' (first | exact trivial | refine ⟨⟨_, rfl, ChE.refl _⟩, ?_⟩))
    refine AWP.loop (X := WX e) (fun x => [(1, AV.int .u8 at'), (5, .ptr 1 0), (6, .ptr 2 0), (7, AV.int .i64 i), (9, .ptr 3 0), (15, rowE l), (16, AV.int .i64 l.length), (17, AV.int .i64 i), (40, AV.int .i64 e.seals.length), (41, AV.int .i64 x.k)]) (fun x => ⟨5, [(0, t.C), (1, .sem (Nest s2.H)), (2, .sem (Nest s2.R)), (3, .cells 31 [AV.int .i64 e.kind, AV.str e.name, AV.int .u64 e.seq, AV.int .u32 e.id, .row 4 5 0 e.seals.length]), (4, .rowc 49 5 e.seals.length (slF x.L))]⟩) (fun x => e.seals.length - x.k) (⟨0, e.seals, Nat.zero_le _, rfl⟩) ?_ fun x => AWP.go (S := sch4) (cfgWOk _ _) (.of_eq (by kernel_rfl)) ?_
    · exact Ent.mk' [some 0, some 1, some 2, some 3, some 4] (by kernel_rfl) (by repeat' first | exact trivial | refine And.intro (AVE.refl _) ?_ | refine And.intro (AVE.int (by first | rfl | omega | (dsimp only; omega) | (simp -iota; omega) | (simp -iota; done))) ?_ | refine And.intro (AVE.bool (by assumption)) ?_ | refine And.intro (AVE.len (by first | rfl | omega | (dsimp only; omega) | (simp -iota; omega) | (simp -iota; done))) ?_) (by repeat' (first | exact trivial | refine ⟨⟨_, rfl, ChE.refl _⟩, ?_⟩))
    · obtain ⟨k, L, hk, hL⟩ := x
      have hkx : ((k : Nat) : Int).toNat = k := by simp
      (conv => whnf); repeat ((first | (refine And.intro ?_ ?_; (focus ((repeat' (first | exact trivial | refine And.intro rfl ?_)); done))) | (refine And.intro ?_ ?_; (focus (first | omega | (dsimp -iota only; omega) | (simp -iota; omega) | (simp -iota; done) | decide)))); conv => whnf)
      refine branchB_of (fun g => ?_) (fun g => ?_) <;> (first | replace g := not_t g | replace g := not_f g | skip) <;> (first | replace g := of_decide_eq_true g | replace g := of_decide_eq_false g | skip) <;> (first | replace g := Classical.not_not.1 g | skip) <;> (try dsimp only at g)
      · have hk' : k < L.length := by omega
        (conv => whnf); repeat ((first | (refine And.intro ?_ ?_; (focus ((repeat' (first | exact trivial | refine And.intro rfl ?_)); done))) | (refine And.intro ?_ ?_; (focus (first | omega | (dsimp -iota only; omega) | (simp -iota; omega) | (simp -iota; done) | decide)))); conv => whnf)
        rw [wr64 (n := (k : Int) + 1) (by omega) (by omega)]
        refine ⟨⟨k + 1, L.set k ⟨((L.getD k default).id + 1) % 4294967296, (L.getD k default).size, (L.getD k default).many, (L.getD k default).first, (L.getD k default).last⟩, by omega, by rw [List.length_set]; exact hL⟩, Ent.mk' [some 0, some 1, some 2, some 3, some 4] (by kernel_rfl) (by repeat' first | exact trivial | refine And.intro (AVE.refl _) ?_ | refine And.intro (AVE.int (by first | rfl | omega | (dsimp only; omega) | (simp -iota; omega) | (simp -iota; done))) ?_ | refine And.intro (AVE.bool (by assumption)) ?_ | refine And.intro (AVE.len (by first | rfl | omega | (dsimp only; omega) | (simp -iota; omega) | (simp -iota; done))) ?_) ?_, ?_⟩
        · refine ⟨⟨_, rfl, ChE.refl _⟩, ⟨_, rfl, ChE.refl _⟩, ⟨_, rfl, ChE.refl _⟩, ⟨_, rfl, ChE.refl _⟩, ⟨_, rfl, ChE.row (Nat.le_refl _) fun j hj => ?_⟩, trivial⟩
          show (if j = 0 + ((k : Nat) : Int).toNat then layI (slF L (0 + ((k : Nat) : Int).toNat)) (0 + 0) [IV.v (Value.int IntKind.u32 (wrK IntKind.u32 (((L.getD (0 + ((k : Nat) : Int).toNat) default).id : Int) + 1)))] else slF L j) = slF (L.set k _) j
          rw [slF_set hk', hkx, Nat.zero_add]
          by_cases hjk : j = k
          · rw [if_pos hjk, if_pos hjk, show wrK IntKind.u32 (((L.getD k default).id : Int) + 1) = ((((L.getD k default).id + 1) % 4294967296 : Nat) : Int) from by show (((L.getD k default).id : Int) + 1) % 4294967296 = _; omega]
            rfl
          · rw [if_neg hjk, if_neg hjk]
        · show e.seals.length - (k + 1) < e.seals.length - k
          omega
      · have hel := edits_len hs2
        have hes := fun x hx => (edits_In hs2 hb2 x hx).2
        have kl := like_ok s2 hs2.in (by omega) (fun x hx => by have := hes x hx; omega)
        (conv => whnf); repeat ((first | (refine And.intro ?_ ?_; (focus ((repeat' (first | exact trivial | refine And.intro rfl ?_)); done))) | (refine And.intro ?_ ?_; (focus (first | omega | (dsimp -iota only; omega) | (simp -iota; omega) | (simp -iota; done) | decide)))); conv => whnf)
        refine branchB_of (fun q => ?_) (fun q => ?_) <;> (first | replace q := not_t q | replace q := not_f q | skip) <;> (first | replace q := of_decide_eq_true q | replace q := of_decide_eq_false q | skip) <;> (first | replace q := Classical.not_not.1 q | skip) <;> (try dsimp only at q)
        · (conv => whnf); repeat ((first | (refine And.intro ?_ ?_; (focus ((repeat' (first | exact trivial | refine And.intro rfl ?_)); done))) | (refine And.intro ?_ ?_; (focus (first | omega | (dsimp -iota only; omega) | (simp -iota; omega) | (simp -iota; done) | decide)))); conv => whnf)
          refine AFn.use [1] (mcopy_ok s2 hs2.in.len) (by kernel_rfl) rfl (by repeat' first | exact trivial | refine ⟨rfl, ?_⟩) fun _ => ?_
          (conv => whnf); repeat ((first | (refine And.intro ?_ ?_; (focus ((repeat' (first | exact trivial | refine And.intro rfl ?_)); done))) | (refine And.intro ?_ ?_; (focus (first | omega | (dsimp -iota only; omega) | (simp -iota; omega) | (simp -iota; done) | decide)))); conv => whnf)
          have g0 := hs2
          refine ACall.argsE [.ptr 1 0, editA ⟨2, [110, 101, 118, 101, 114], 1, 0, []⟩] ⟨AVE.refl _, AVE.aggL ⟨AVE.refl _, AVE.refl _, AVE.refl _, AVE.refl _, AVE.nilSl' _ _, rfl⟩, rfl⟩ ?_
          have j0 : Edt.In ⟨2, [110, 101, 118, 101, 114], 1, 0, []⟩ := ⟨by decide, by decide, by simp⟩
          have g1 := (app_Ok s2 ⟨2, [110, 101, 118, 101, 114], 1, 0, []⟩ g0 (by omega)).ok
          have m0 := apply_ok t s2 ⟨2, [110, 101, 118, 101, 114], 1, 0, []⟩ g0.in j0
          generalize SD.app s2 ⟨2, [110, 101, 118, 101, 114], 1, 0, []⟩ = a1 at g1 m0
          refine AFn.use [1, 0] (m0) (by kernel_rfl) rfl (by repeat' first | exact trivial | refine ⟨rfl, ?_⟩) fun _ => ?_
          (conv => whnf); repeat ((first | (refine And.intro ?_ ?_; (focus ((repeat' (first | exact trivial | refine And.intro rfl ?_)); done))) | (refine And.intro ?_ ?_; (focus (first | omega | (dsimp -iota only; omega) | (simp -iota; omega) | (simp -iota; done) | decide)))); conv => whnf)
          refine ACall.argsE [.ptr 1 0, editA ⟨1, [], 1099511627776, 0, []⟩] ⟨AVE.refl _, AVE.aggL ⟨AVE.refl _, AVE.zs, AVE.refl _, AVE.refl _, AVE.nilSl' _ _, rfl⟩, rfl⟩ ?_
          have j1 : Edt.In ⟨1, [], 1099511627776, 0, []⟩ := ⟨by decide, by decide, by simp⟩
          have g2 := (app_Ok a1 ⟨1, [], 1099511627776, 0, []⟩ g1 (by omega)).ok
          have m1 := apply_ok t a1 ⟨1, [], 1099511627776, 0, []⟩ g1.in j1
          generalize SD.app a1 ⟨1, [], 1099511627776, 0, []⟩ = a2 at g2 m1
          refine AFn.use [1, 0] (m1) (by kernel_rfl) rfl (by repeat' first | exact trivial | refine ⟨rfl, ?_⟩) fun _ => ?_
          (conv => whnf); repeat ((first | (refine And.intro ?_ ?_; (focus ((repeat' (first | exact trivial | refine And.intro rfl ?_)); done))) | (refine And.intro ?_ ?_; (focus (first | omega | (dsimp -iota only; omega) | (simp -iota; omega) | (simp -iota; done) | decide)))); conv => whnf)
          refine ACall.argsE [.ptr 1 0, editA ⟨4, [], 0, 16777215, []⟩] ⟨AVE.refl _, AVE.aggL ⟨AVE.refl _, AVE.zs, AVE.refl _, AVE.refl _, AVE.nilSl' _ _, rfl⟩, rfl⟩ ?_
          have j2 : Edt.In ⟨4, [], 0, 16777215, []⟩ := ⟨by decide, by decide, by simp⟩
          have g3 := (app_Ok a2 ⟨4, [], 0, 16777215, []⟩ g2 (by omega)).ok
          have m2 := apply_ok t a2 ⟨4, [], 0, 16777215, []⟩ g2.in j2
          generalize SD.app a2 ⟨4, [], 0, 16777215, []⟩ = a3 at g3 m2
          refine AFn.use [1, 0] (m2) (by kernel_rfl) rfl (by repeat' first | exact trivial | refine ⟨rfl, ?_⟩) fun _ => ?_
          (conv => whnf); repeat ((first | (refine And.intro ?_ ?_; (focus ((repeat' (first | exact trivial | refine And.intro rfl ?_)); done))) | (refine And.intro ?_ ?_; (focus (first | omega | (dsimp -iota only; omega) | (simp -iota; omega) | (simp -iota; done) | decide)))); conv => whnf)
          refine AFn.use [5, 2] (kl) (by kernel_rfl) rfl (by repeat' first | exact trivial | refine ⟨rfl, ?_⟩) fun _ => ?_
          (conv => whnf); repeat ((first | (refine And.intro ?_ ?_; (focus ((repeat' (first | exact trivial | refine And.intro rfl ?_)); done))) | (refine And.intro ?_ ?_; (focus (first | omega | (dsimp -iota only; omega) | (simp -iota; omega) | (simp -iota; done) | decide)))); conv => whnf)
          rw [wr64 (n := (i : Int) + 1) (by omega) (by omega)]
          refine ⟨⟨i + 1, s2, hs2, hb2, by omega, by omega⟩, Ent.mk' [some 0, some 5, some 2] (by kernel_rfl) (by repeat' first | exact trivial | refine And.intro (AVE.refl _) ?_ | refine And.intro (AVE.int (by first | rfl | omega | (dsimp only; omega) | (simp -iota; omega) | (simp -iota; done))) ?_ | refine And.intro (AVE.bool (by assumption)) ?_ | refine And.intro (AVE.len (by first | rfl | omega | (dsimp only; omega) | (simp -iota; omega) | (simp -iota; done))) ?_) (by repeat' (first | exact trivial | refine ⟨⟨_, rfl, ChE.refl _⟩, ?_⟩)), ?_⟩
          show 80 - (i + 1) < 80 - i
          omega
        · (conv => whnf); repeat ((first | (refine And.intro ?_ ?_; (focus ((repeat' (first | exact trivial | refine And.intro rfl ?_)); done))) | (refine And.intro ?_ ?_; (focus (first | omega | (dsimp -iota only; omega) | (simp -iota; omega) | (simp -iota; done) | decide)))); conv => whnf)
          refine AFn.use [1, 2] (kl) (by kernel_rfl) rfl (by repeat' first | exact trivial | refine ⟨rfl, ?_⟩) fun _ => ?_
          (conv => whnf); repeat ((first | (refine And.intro ?_ ?_; (focus ((repeat' (first | exact trivial | refine And.intro rfl ?_)); done))) | (refine And.intro ?_ ?_; (focus (first | omega | (dsimp -iota only; omega) | (simp -iota; omega) | (simp -iota; done) | decide)))); conv => whnf)
          rw [wr64 (n := (i : Int) + 1) (by omega) (by omega)]
          refine ⟨⟨i + 1, s2, hs2, hb2, by omega, by omega⟩, Ent.mk' [some 0, some 1, some 2] (by kernel_rfl) (by repeat' first | exact trivial | refine And.intro (AVE.refl _) ?_ | refine And.intro (AVE.int (by first | rfl | omega | (dsimp only; omega) | (simp -iota; omega) | (simp -iota; done))) ?_ | refine And.intro (AVE.bool (by assumption)) ?_ | refine And.intro (AVE.len (by first | rfl | omega | (dsimp only; omega) | (simp -iota; omega) | (simp -iota; done))) ?_) (by repeat' (first | exact trivial | refine ⟨⟨_, rfl, ChE.refl _⟩, ?_⟩)), ?_⟩
          show 80 - (i + 1) < 80 - i
          omega
end Go.Proofs.YtmlhaellfpbcgaaDoor.Ax
