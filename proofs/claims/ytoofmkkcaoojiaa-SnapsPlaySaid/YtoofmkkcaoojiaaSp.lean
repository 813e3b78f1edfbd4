/-
  Chapter 19: snapshots as lists, in plain words.
-/
import Derived.Test.YtoofmkkcaoojiaaBxZb
import Derived.Sort.Walk0
import Derived.Lib.Bytealg
namespace Go.Proofs.Ytoofmkkcaoojiaa.Ax
open Go.RowKit Go.Sort

theorem cmpB_lt : ∀ a b : List UInt8, Lib.compareBytes a b < 0 ↔ a < b
  | [], [] => by simp [Lib.compareBytes]
  | [], _ :: _ => by simp [Lib.compareBytes]
  | _ :: _, [] => by simp [Lib.compareBytes]
  | a :: x, b :: y => by
    unfold Lib.compareBytes
    rw [List.cons_lt_cons_iff]
    have ih := cmpB_lt x y
    by_cases h1 : a < b
    · simp [h1]
    · by_cases h2 : b < a
      · have h3 : a ≠ b := fun e => by subst e; exact h1 h2
        simp [h1, h2, h3]
      · have h3 : a = b := by
          have h4 : ¬ a.toNat < b.toNat := h1
          have h5 : ¬ b.toNat < a.toNat := h2
          exact UInt8.toNat_inj.1 (by omega)
        subst h3
        simp [h1, ih]
/-- A name and what it has. -/
abbrev NQ := List UInt8 × Nat
def nqLt : NQ → NQ → Bool := fun a b => decide (a.1 < b.1)
theorem nqLt_swo : SWO nqLt where
  irrefl x := by simp [nqLt, List.lt_irrefl]
  trans x y z h1 h2 := by simp only [nqLt, decide_eq_true_eq] at *; exact List.lt_trans h1 h2
  ntrans x y z h1 h2 := by
    simp only [nqLt, decide_eq_false_iff_not, List.not_lt] at *
    exact List.le_trans h2 h1
/-- Pairs in the order of their names: what there is for each name. -/
def listS (l : List NQ) : List NQ := (sortS (l.map (·.1))).map fun k => (k, (afind l k).getD 0)
theorem afind_of_mem {β : Type} : ∀ {l : List (List UInt8 × β)} {p : List UInt8 × β}, (l.map (·.1)).Nodup → p ∈ l → afind l p.1 = some p.2
  | q :: l, p, h, hp => by
    simp only [List.map_cons, List.nodup_cons] at h
    unfold afind
    rw [List.find?_cons]
    by_cases e : q.1 = p.1
    · simp only [e, decide_true, Option.map_some]
      rcases List.mem_cons.1 hp with rfl | hp
      · rfl
      · exact absurd (List.mem_map_of_mem (f := (·.1)) hp) (e ▸ h.1)
    · simp only [e, decide_false]
      rcases List.mem_cons.1 hp with rfl | hp
      · exact absurd rfl e
      · exact afind_of_mem h.2 hp
/-- **One list is sorted and has just these pairs.** -/
theorem listS_of {l d : List NQ} (hn : (l.map (·.1)).Nodup) (hp : d.Perm l) (hs : d.Pairwise fun a b => nqLt b a = false) : d = listS l := by
  have hk : d.map (·.1) = sortS (l.map (·.1)) := by
    refine List.Perm.eq_of_pairwise (le := fun x y : List UInt8 => x ≤ y) (fun a b _ _ h1 h2 => List.le_antisymm h1 h2) ?_ ?_ ?_
    · rw [List.pairwise_map]
      exact hs.imp fun h => by simpa [nqLt, List.not_lt] using h
    · have h := List.pairwise_mergeSort (le := fun x y : List UInt8 => decide (x ≤ y)) (fun a b c h1 h2 => by simp only [decide_eq_true_eq] at *; exact List.le_trans h1 h2) (fun a b => by simp only [Bool.or_eq_true, decide_eq_true_eq]; exact List.le_total a b) (l.map (·.1))
      exact h.imp fun h => by simpa using h
    · exact (hp.map _).trans (List.mergeSort_perm _ _).symm
  unfold listS
  rw [← hk, List.map_map]
  conv => lhs; rw [← List.map_id d]
  refine List.map_congr_left fun p hpd => ?_
  have := afind_of_mem hn (hp.mem_iff.1 hpd)
  simp [this]
theorem listS_length (l : List NQ) : (listS l).length = l.length := by simp [listS, sortS_length]

theorem listS_perm {l : List NQ} (h : (l.map (·.1)).Nodup) : (listS l).Perm l := by
  unfold listS sortS
  refine ((List.mergeSort_perm _ _).map _).trans (.of_eq ?_)
  rw [List.map_map]
  conv => rhs; rw [← List.map_id l]
  exact List.map_congr_left fun p hp => by simp [afind_of_mem h hp]
theorem listS_sorted (l : List NQ) : (listS l).Pairwise fun a b => nqLt b a = false := by
  unfold listS
  rw [List.pairwise_map]
  have h := List.pairwise_mergeSort (le := fun x y : List UInt8 => decide (x ≤ y)) (fun a b c h1 h2 => by simp only [decide_eq_true_eq] at *; exact List.le_trans h1 h2) (fun a b => by simp only [Bool.or_eq_true, decide_eq_true_eq]; exact List.le_total a b) (l.map (·.1))
  exact h.imp fun h => by simpa [nqLt, List.not_lt] using h
theorem listS_same {a b : List NQ} (ha : (a.map (·.1)).Nodup) (hb : (b.map (·.1)).Nodup) (h : a.Perm b) : listS a = listS b := listS_of hb ((listS_perm ha).trans h) (listS_sorted a)

/-! Maps with keys that are numbers, as lists. -/
section
variable {β : Type}
def imap (k : IntKind) (g : β → IV) (l : List (Nat × β)) : List (MK × IV) := l.map fun p => (MK.i k p.1, g p.2)
theorem imap_length (k : IntKind) (g : β → IV) (l : List (Nat × β)) : (imap k g l).length = l.length := by simp [imap]
end
end Go.Proofs.Ytoofmkkcaoojiaa.Ax
