/-
  Chapter 23: edits of snapshots and those of segments do not know of each other (plain words).
-/
import Derived.Test.YtmlhaellfpbcgaaDoorQf
import Derived.Test.YtmlhaellfpbcgaaDoorMs
namespace Go.Proofs.YtmlhaellfpbcgaaDoor.Ax
open Go.RowKit
set_option maxRecDepth 100000
def isSn (e : Edt) : Prop := e.kind = 2 ∨ e.kind = 3
def SD.setSn (s : SD) (n : SN) : SD := ⟨s.base, n, s.sealed, s.op⟩
theorem app_sn {e : Edt} (h : isSn e) (s : SD) : s.app e = s.setSn (s.app e).sn := by
  unfold SD.app
  cases e.may with
  | false => rfl
  | true =>
    simp only [cond_true]
    unfold SD.dd
    rcases h with h | h
    · simp only [h]
      rfl
    · simp only [h]
      rfl
theorem app_sn' {e : Edt} (h : isSn e) {s t : SD} (hst : s.sn = t.sn) : (s.app e).sn = (t.app e).sn := by
  unfold SD.app
  cases e.may with
  | false => exact hst
  | true =>
    simp only [cond_true]
    unfold SD.dd
    rcases h with h | h
    · simp only [h]
      show s.sn.add _ _ = t.sn.add _ _
      rw [hst]
    · simp only [h]
      show s.sn.drop _ = t.sn.drop _
      rw [hst]
theorem app_seg {e : Edt} (h : ¬ isSn e) (s : SD) (n : SN) : (s.setSn n).app e = (s.app e).setSn n := by
  unfold SD.app
  cases e.may with
  | false => rfl
  | true =>
    simp only [cond_true]
    unfold SD.dd
    have h2 : ¬ e.kind = 2 := fun g => h (.inl g)
    have h3 : ¬ e.kind = 3 := fun g => h (.inr g)
    simp only [if_neg h2, if_neg h3]
    split
    · unfold SD.d1
      rw [show (s.setSn n).f1 e = s.f1 e from rfl]
      cases s.f1 e <;> rfl
    split
    · unfold SD.d4
      rw [show (s.setSn n).f4 e = s.f4 e from rfl]
      cases s.f4 e <;> rfl
    split
    · unfold SD.d5
      rw [show (s.setSn n).f5 e = s.f5 e from rfl]
      cases s.f5 e <;> rfl
    · unfold SD.d6
      rw [show (s.setSn n).f6 e = s.f6 e from rfl]
      cases s.f6 e <;> rfl
/-- What rows of both make. -/
def comb (A B : List Edt) : SD := (runAll SD.nil A).setSn (runAll SD.nil B).sn
theorem comb_nil : comb [] [] = SD.nil := rfl
theorem runAll_snoc (s : SD) (l : List Edt) (e : Edt) : runAll s (l ++ [e]) = (runAll s l).app e := by
  unfold runAll
  rw [List.foldl_append]
  rfl
theorem comb_seg {A B : List Edt} {e : Edt} (h : ¬ isSn e) : (comb A B).app e = comb (A ++ [e]) B := by
  unfold comb
  rw [app_seg h, runAll_snoc]
theorem comb_sn {A B : List Edt} {e : Edt} (h : isSn e) : (comb A B).app e = comb A (B ++ [e]) := by
  have h1 := app_sn h (comb A B)
  have h2 : ((comb A B).app e).sn = ((runAll SD.nil B).app e).sn := app_sn' h rfl
  rw [h1, h2, ← runAll_snoc]
  rfl
theorem take_snoc {l : List Edt} {k : Nat} (h : k < l.length) : l.take (k + 1) = l.take k ++ [l.getD k default] := by
  rw [List.take_succ_eq_append_getElem h]
  simp [List.getD, h]
theorem getD_mem {l : List Edt} {k : Nat} (h : k < l.length) : l.getD k default ∈ l := by
  rw [List.getD_eq_getElem?_getD, List.getElem?_eq_getElem h]
  exact List.getElem_mem h
theorem comb_step {A B : List Edt} (hA : ∀ e ∈ A, ¬ isSn e) (hB : ∀ e ∈ B, isSn e) {k : Nat} (hk : k < (A ++ B).length) : (comb (A.take k) (B.take (k - A.length))).app ((A ++ B).getD k default) = comb (A.take (k + 1)) (B.take (k + 1 - A.length)) := by
  rw [List.length_append] at hk
  by_cases h : k < A.length
  · have e1 : (A ++ B).getD k default = A.getD k default := by
      rw [List.getD_eq_getElem?_getD, List.getElem?_append_left h, ← List.getD_eq_getElem?_getD]
    rw [e1, show k - A.length = 0 by omega, show k + 1 - A.length = 0 by omega, take_snoc h]
    exact comb_seg (hA _ (getD_mem h))
  · have h2 : k - A.length < B.length := by omega
    have e1 : (A ++ B).getD k default = B.getD (k - A.length) default := by
      rw [List.getD_eq_getElem?_getD, List.getElem?_append_right (by omega), ← List.getD_eq_getElem?_getD]
    rw [e1, List.take_of_length_le (show A.length ≤ k by omega), List.take_of_length_le (show A.length ≤ k + 1 by omega), show k + 1 - A.length = k - A.length + 1 by omega, take_snoc h2]
    exact comb_sn (hB _ (getD_mem h2))
theorem drop_getD {l : List Edt} {a : Nat} : (l.drop a).getD (Int.toNat 0) default = l.getD a default := by
  rw [List.getD_eq_getElem?_getD, List.getElem?_drop, ← List.getD_eq_getElem?_getD]
  rfl
theorem edF_drop (l : List Edt) (a i : Nat) : edF l (a + i) = edF (l.drop a) i := by
  unfold edF
  simp [List.getD, List.getElem?_drop]
end Go.Proofs.YtmlhaellfpbcgaaDoor.Ax
