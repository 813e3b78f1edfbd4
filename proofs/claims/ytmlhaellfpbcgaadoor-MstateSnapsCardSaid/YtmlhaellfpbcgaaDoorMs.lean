/-
  Chapter 23: rows of edits one behind the other (slices.Concat).
-/
import Derived.Test.YtmlhaellfpbcgaaDoorQe
import Derived.Test.YtmlhaellfpbcgaaDoorLaysG
import Derived.Test.YtmlhaellfpbcgaaDoorBxZc
namespace Go.Proofs.YtmlhaellfpbcgaaDoor.Ax
open Go.RowKit Go.Shelf
set_option maxRecDepth 100000
noncomputable def i31 : TypeInfo := (Go.Proofs.Tryd.prog.info? 31).getD default
theorem i31_is : Go.Proofs.Tryd.prog.info? 31 = some i31 := by kernel_rfl
noncomputable def z31 : Value := .agg #[.int .i64 0, .string ⟨⟨[]⟩⟩, .int .u64 0, .int .u32 0, .slice none 0 0]
theorem z31_is : i31.zero = some z31 := by kernel_rfl
theorem s31_is : i31.size = 5 := by kernel_rfl
theorem b31_is : i31.bytes = 64 := by kernel_rfl
theorem grow_ok (n : Nat) (hn : n ≤ 1000) : AFn Go.Proofs.Tryd.prog 43 [AV.nilSl, AV.int .i64 n] ⟨0, []⟩ (fun _ : Unit => .row 0 5 0 0) (fun _ => ⟨1, [(0, .rowc 31 5 0 (edF []))]⟩) :=
  ⟨⟨_, Tryd.func43, by kernel_rfl, by kernel_rfl⟩, fun ρ ι w cargs hG hS hr => by
    simp only [AV.Rs, AV.R, IV.R] at hr
    obtain ⟨u, us, rfl, rfl, u', us', rfl, rfl, rfl⟩ := hr
    rcases Nat.eq_zero_or_pos n with h0 | h0
    · subst h0
      refine (Any8.slices_Grow_room (P := Go.Proofs.Tryd.prog) Tryd.growE none 0 0 0 w (Nat.le_refl _) (Nat.zero_le _) (Nat.zero_le _) (Nat.le_refl _)).mono fun e w' ⟨he, hw⟩ => ?_
      subst he hw
      obtain ⟨h1, h2⟩ := hS.add (.rowc 31 5 0 (edF [])) ⟨none, 0, fun _ => False⟩ (Touch.refl _ w') (fun k hk => hk.elim) (.inl ⟨rfl, rfl, fun _ h => h⟩)
      exact ⟨.row 0 5 0 0, _, _, ι, ⟨(), rfl, rfl⟩, by simp only [AV.R]; exact ⟨none, 0, rfl, Nat.le_refl _, Nat.zero_le _, fun h => absurd rfl h⟩, h1, h2⟩
    · refine (Any8.slices_Grow_grow (P := Go.Proofs.Tryd.prog) Tryd.growE i31 z31 i31_is z31_is (by rw [s31_is]; decide) none 0 0 n [] w (Nat.le_refl _) (by omega) (by rw [b31_is]; omega) (by omega) (by simp) (fun _ => rfl) (fun a ha => by cases ha)).mono fun e w' ⟨he, hw⟩ => ?_
      subst he hw
      have hmx : maxLen = 9223372036854775807 := by decide
      generalize hcap : grownCap w (0 + n) 0 (Tryd.growE_ren.t 25) = cap
      have hc1 : 0 + n ≤ cap := hcap ▸ grownCap_ge ..
      have hc2 : cap ≤ maxLen := hcap ▸ grownCap_le_maxLen _ _ _ _ (by omega)
      generalize harr : (([] : List Value).toArray ++ Builtin.zeroCells z31.cells (0 + n - 0) ++ Builtin.zeroCells z31.cells (cap - (0 + n))) = arr
      have hz : z31.cells.size = 5 := by decide
      have hsz : arr.size = cap * 5 := by
        rw [← harr]
        simp only [Array.size_append, size_zeroCells, hz]
        simp
        omega
      obtain ⟨s1, s2⟩ := hS.drew.alloc (.cells arr 31) arr.size (.rowc 31 5 0 (edF [])) (.inr ⟨w.heap.size, arr, (0, 0), rfl, fun _ => Iff.rfl, heap_alloc_new w.drew _, rfl, FrOk.zero _, by omega, fun i hi => absurd hi (Nat.not_lt_zero _)⟩)
      refine ⟨.row 0 5 0 0, _, _, ι, ⟨(), rfl, rfl⟩, ?_, s1, (Went.drew ρ ι _ w).trans s2⟩
      simp only [AV.R]
      refine ⟨_, cap, rfl, Nat.zero_le _, hc2, fun _ => ⟨_, _, Rho.upd_same _ _ _, rfl, by first | rfl | simp, ?_⟩⟩
      show (0 + cap) * 5 ≤ arr.size
      omega⟩
def two (A B : List Edt) (i : Nat) : List IV := if i = 0 then [.sl 5 A.length (edF A)] else [.sl 5 B.length (edF B)]
theorem edF_cat {A B : List Edt} {j : Nat} : edF (A ++ B) j = if j < A.length then edF A j else edF B (j - A.length) := by
  unfold edF
  by_cases h : j < A.length
  · rw [if_pos h, List.getD_eq_getElem?_getD, List.getElem?_append_left h, ← List.getD_eq_getElem?_getD]
  · rw [if_neg h, List.getD_eq_getElem?_getD, List.getElem?_append_right (Nat.le_of_not_lt h), ← List.getD_eq_getElem?_getD]
def cnt (A B : List Edt) (k : Nat) : Nat := if k = 0 then 0 else if k = 1 then A.length else A.length + B.length
def catK (A B : List Edt) (k : Nat) : List Edt := if k = 0 then [] else if k = 1 then A else A ++ B
theorem concat_ok (A B : List Edt) (hA : A.length ≤ 400) (hB : B.length ≤ 400) : AFn Go.Proofs.Tryd.prog 25 [.iv (.sl 1 2 (two A B))] ⟨0, []⟩ (fun _ : Unit => .iv (.sl 5 (A ++ B).length (edF (A ++ B)))) (fun _ => ⟨0, []⟩) := by
  refine ACall.fin ?_
  refine ACall.walk (C := cfg 36 0) (cfgOk _ _) [] (fn := Go.Proofs.Tryd.f25) (by kernel_rfl) (by kernel_rfl) rfl (by kernel_rfl) (by kernel_rfl) rfl rfl ?_
  (conv => whnf); repeat ((first | (refine And.intro ?_ ?_; (focus ((repeat' (first | exact trivial | refine And.intro rfl ?_)); done))) | (refine And.intro ?_ ?_; (focus (first | omega | (dsimp -iota only; omega) | (simp -iota; omega) | (simp -iota; done) | decide)))); conv => whnf)
  refine AWP.loop (X := { k : Nat // k ≤ 2 }) (fun x => [(0, .iv (.sl 1 2 (two A B))), (3, AV.int .i64 (cnt A B x.1)), (9, .iv (.sl 1 2 (two A B))), (10, AV.int .i64 2), (11, AV.int .i64 x.1)]) (fun x => ⟨0, []⟩) (fun x => 2 - x.1) (⟨0, Nat.zero_le _⟩) ?_ fun x => AWP.go (S := []) (cfgOk _ _) (.of_eq (by kernel_rfl)) ?_
  · exact Ent.mk' [] (by kernel_rfl) (by repeat' first | exact trivial | refine And.intro (AVE.refl _) ?_ | refine And.intro (AVE.int (by first | rfl | omega | (dsimp only; omega) | (simp -iota; omega) | (simp -iota; done))) ?_ | refine And.intro (AVE.bool (by assumption)) ?_ | refine And.intro (AVE.len (by first | rfl | omega | (dsimp only; omega) | (simp -iota; omega) | (simp -iota; done))) ?_) (by repeat' (first | exact trivial | refine ⟨⟨_, rfl, ChE.refl _⟩, ?_⟩))
  · obtain ⟨k, hk⟩ := x
    have hc : k = 0 ∨ k = 1 ∨ k = 2 := by omega
    rcases hc with rfl | rfl | rfl
    · have e1 : cnt A B 0 = 0 := rfl
      have e2 : cnt A B 1 = A.length := rfl
      (conv => whnf); repeat ((first | (refine And.intro ?_ ?_; (focus ((repeat' (first | exact trivial | refine And.intro rfl ?_)); done))) | (refine And.intro ?_ ?_; (focus (first | omega | (dsimp -iota only; omega) | (simp -iota; omega) | (simp -iota; done) | decide)))); conv => whnf)
      refine ⟨⟨1, by omega⟩, Ent.mk' [] (by kernel_rfl) ⟨AVE.refl _, AVE.int (by dsimp only; omega), AVE.refl _, AVE.refl _, AVE.int rfl, trivial⟩ trivial, by show 2 - 1 < 2 - 0; decide⟩
    · have e1 : cnt A B 1 = A.length := rfl
      have e2 : cnt A B 2 = A.length + B.length := rfl
      (conv => whnf); repeat ((first | (refine And.intro ?_ ?_; (focus ((repeat' (first | exact trivial | refine And.intro rfl ?_)); done))) | (refine And.intro ?_ ?_; (focus (first | omega | (dsimp -iota only; omega) | (simp -iota; omega) | (simp -iota; done) | decide)))); conv => whnf)
      refine ⟨⟨2, by omega⟩, Ent.mk' [] (by kernel_rfl) ⟨AVE.refl _, AVE.int (by dsimp only; omega), AVE.refl _, AVE.refl _, AVE.int rfl, trivial⟩ trivial, by show 2 - 2 < 2 - 1; decide⟩
    · have e1 : cnt A B 2 = A.length + B.length := rfl
      (conv => whnf); repeat ((first | (refine And.intro ?_ ?_; (focus ((repeat' (first | exact trivial | refine And.intro rfl ?_)); done))) | (refine And.intro ?_ ?_; (focus (first | omega | (dsimp -iota only; omega) | (simp -iota; omega) | (simp -iota; done) | decide)))); conv => whnf)
      rw [e1]
      refine AFn.use [] (grow_ok (A.length + B.length) (by omega)) (by kernel_rfl) rfl (by repeat' first | exact trivial | refine ⟨rfl, ?_⟩) fun _ => ?_
      (conv => whnf); repeat ((first | (refine And.intro ?_ ?_; (focus ((repeat' (first | exact trivial | refine And.intro rfl ?_)); done))) | (refine And.intro ?_ ?_; (focus (first | omega | (dsimp -iota only; omega) | (simp -iota; omega) | (simp -iota; done) | decide)))); conv => whnf)
      refine AWP.loop (X := { k : Nat // k ≤ 2 }) (fun x => [(6, .row 0 5 0 (catK A B x.1).length), (25, .iv (.sl 1 2 (two A B))), (26, AV.int .i64 2), (27, AV.int .i64 x.1)]) (fun x => ⟨1, [(0, .rowc 31 5 (catK A B x.1).length (edF (catK A B x.1)))]⟩) (fun x => 2 - x.1) (⟨0, Nat.zero_le _⟩) ?_ fun x => AWP.go (S := []) (cfgOk _ _) (.of_eq (by kernel_rfl)) ?_
      · exact Ent.mk' [some 0] (by kernel_rfl) (by repeat' first | exact trivial | refine And.intro (AVE.refl _) ?_ | refine And.intro (AVE.int (by first | rfl | omega | (dsimp only; omega) | (simp -iota; omega) | (simp -iota; done))) ?_ | refine And.intro (AVE.bool (by assumption)) ?_ | refine And.intro (AVE.len (by first | rfl | omega | (dsimp only; omega) | (simp -iota; omega) | (simp -iota; done))) ?_) (by repeat' (first | exact trivial | refine ⟨⟨_, rfl, ChE.refl _⟩, ?_⟩))
      · obtain ⟨j, hj⟩ := x
        have hc : j = 0 ∨ j = 1 ∨ j = 2 := by omega
        have c0 : (catK A B 0).length = 0 := rfl
        have c1 : (catK A B 1).length = A.length := rfl
        have c2 : (catK A B 2).length = A.length + B.length := List.length_append
        rcases hc with rfl | rfl | rfl
        · (conv => whnf); repeat ((first | (refine And.intro ?_ ?_; (focus ((repeat' (first | exact trivial | refine And.intro rfl ?_)); done))) | (refine And.intro ?_ ?_; (focus (first | omega | (dsimp -iota only; omega) | (simp -iota; omega) | (simp -iota; done) | decide)))); conv => whnf)
          refine ⟨⟨1, by omega⟩, Ent.mk' [some 1] (by kernel_rfl) ⟨AVE.len (by dsimp only; omega), AVE.refl _, AVE.refl _, AVE.int rfl, trivial⟩ ⟨⟨_, rfl, ChE.row (by dsimp only; omega) fun j _ => (edF_cat (A := catK A B 0) (B := A) (j := j)).symm⟩, trivial⟩, by show 2 - 1 < 2 - 0; decide⟩
        · (conv => whnf); repeat ((first | (refine And.intro ?_ ?_; (focus ((repeat' (first | exact trivial | refine And.intro rfl ?_)); done))) | (refine And.intro ?_ ?_; (focus (first | omega | (dsimp -iota only; omega) | (simp -iota; omega) | (simp -iota; done) | decide)))); conv => whnf)
          refine ⟨⟨2, by omega⟩, Ent.mk' [some 1] (by kernel_rfl) ⟨AVE.len (by dsimp only; omega), AVE.refl _, AVE.refl _, AVE.int rfl, trivial⟩ ⟨⟨_, rfl, ChE.row (by dsimp only; omega) fun j _ => (edF_cat (A := catK A B 1) (B := B) (j := j)).symm⟩, trivial⟩, by show 2 - 2 < 2 - 1; decide⟩
        · (conv => whnf); repeat ((first | (refine And.intro ?_ ?_; (focus ((repeat' (first | exact trivial | refine And.intro rfl ?_)); done))) | (refine And.intro ?_ ?_; (focus (first | omega | (dsimp -iota only; omega) | (simp -iota; omega) | (simp -iota; done) | decide)))); conv => whnf)
          refine ⟨_, _, (Ent.freeze 0 _ rfl rfl (e' := [(0, .iv (.sl 5 (A ++ B).length (edF (A ++ B))))]) ⟨AVF.sl (Nat.le_refl _), trivial⟩).trans (Ent.mk' (e' := [(0, .iv (.sl 5 (A ++ B).length (edF (A ++ B))))]) (H' := ⟨0, []⟩) [] (by kernel_rfl) ?_ ?_), (), rfl, rfl⟩
          · exact ⟨AVE.refl _, trivial⟩
          · trivial
end Go.Proofs.YtmlhaellfpbcgaaDoor.Ax
