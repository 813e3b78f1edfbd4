/-
  Chapter 23: types, schedules, plain lists, the small functions of snaps.
-/
import Derived.Test.YtmlhaellfpbcgaaDoorBxZb
import Derived.Sort.Walk0
import Derived.Lib.Bytealg
import Derived.Test.YtmlhaellfpbcgaaDoorBxZ
import Derived.Test.YtmlhaellfpbcgaaDoorProg
namespace Go.Proofs.YtmlhaellfpbcgaaDoor.Ax
open Go.RowKit Go.Sort

theorem cmpB_lt : ∀ a b : List UInt8, Lib.compareBytes a b < 0 ↔ a < b
  | [], [] => by simp [Lib.compareBytes]
  | [], _ :: _ => by simp [Lib.compareBytes]
  | _ :: _, [] => by simp [Lib.compareBytes]
  | a :: x, b :: y => by
    unfold Lib.compareBytes
    rw [List.cons_lt_cons_iff]
    have ih := cmpB_lt x y
    by_cases h1 : a < b
    · simp [h1]
    · by_cases h2 : b < a
      · have h3 : a ≠ b := fun e => by subst e; exact h1 h2
        simp [h1, h2, h3]
      · have h3 : a = b := by
          have h4 : ¬ a.toNat < b.toNat := h1
          have h5 : ¬ b.toNat < a.toNat := h2
          exact UInt8.toNat_inj.1 (by omega)
        subst h3
        simp [h1, ih]
/-- A name and what it has. -/
abbrev NQ := List UInt8 × Nat
def nqLt : NQ → NQ → Bool := fun a b => decide (a.1 < b.1)
theorem nqLt_swo : SWO nqLt where
  irrefl x := by simp [nqLt, List.lt_irrefl]
  trans x y z h1 h2 := by simp only [nqLt, decide_eq_true_eq] at *; exact List.lt_trans h1 h2
  ntrans x y z h1 h2 := by
    simp only [nqLt, decide_eq_false_iff_not, List.not_lt] at *
    exact List.le_trans h2 h1
/-- Pairs in the order of their names: what there is for each name. -/
def listS (l : List NQ) : List NQ := (sortS (l.map (·.1))).map fun k => (k, (afind l k).getD 0)
theorem afind_of_mem {β : Type} : ∀ {l : List (List UInt8 × β)} {p : List UInt8 × β}, (l.map (·.1)).Nodup → p ∈ l → afind l p.1 = some p.2
  | q :: l, p, h, hp => by
    simp only [List.map_cons, List.nodup_cons] at h
    unfold afind
    rw [List.find?_cons]
    by_cases e : q.1 = p.1
    · simp only [e, decide_true, Option.map_some]
      rcases List.mem_cons.1 hp with rfl | hp
      · rfl
      · exact absurd (List.mem_map_of_mem (f := (·.1)) hp) (e ▸ h.1)
    · simp only [e, decide_false]
      rcases List.mem_cons.1 hp with rfl | hp
      · exact absurd rfl e
      · exact afind_of_mem h.2 hp
/-- **One list is sorted and has just these pairs.** -/
theorem listS_of {l d : List NQ} (hn : (l.map (·.1)).Nodup) (hp : d.Perm l) (hs : d.Pairwise fun a b => nqLt b a = false) : d = listS l := by
  have hk : d.map (·.1) = sortS (l.map (·.1)) := by
    refine List.Perm.eq_of_pairwise (le := fun x y : List UInt8 => x ≤ y) (fun a b _ _ h1 h2 => List.le_antisymm h1 h2) ?_ ?_ ?_
    · rw [List.pairwise_map]
      exact hs.imp fun h => by simpa [nqLt, List.not_lt] using h
    · have h := List.pairwise_mergeSort (le := fun x y : List UInt8 => decide (x ≤ y)) (fun a b c h1 h2 => by simp only [decide_eq_true_eq] at *; exact List.le_trans h1 h2) (fun a b => by simp only [Bool.or_eq_true, decide_eq_true_eq]; exact List.le_total a b) (l.map (·.1))
      exact h.imp fun h => by simpa using h
    · exact (hp.map _).trans (List.mergeSort_perm _ _).symm
  unfold listS
  rw [← hk, List.map_map]
  conv => lhs; rw [← List.map_id d]
  refine List.map_congr_left fun p hpd => ?_
  have := afind_of_mem hn (hp.mem_iff.1 hpd)
  simp [this]
theorem listS_length (l : List NQ) : (listS l).length = l.length := by simp [listS, sortS_length]

theorem listS_perm {l : List NQ} (h : (l.map (·.1)).Nodup) : (listS l).Perm l := by
  unfold listS sortS
  refine ((List.mergeSort_perm _ _).map _).trans (.of_eq ?_)
  rw [List.map_map]
  conv => rhs; rw [← List.map_id l]
  exact List.map_congr_left fun p hp => by simp [afind_of_mem h hp]
theorem listS_sorted (l : List NQ) : (listS l).Pairwise fun a b => nqLt b a = false := by
  unfold listS
  rw [List.pairwise_map]
  have h := List.pairwise_mergeSort (le := fun x y : List UInt8 => decide (x ≤ y)) (fun a b c h1 h2 => by simp only [decide_eq_true_eq] at *; exact List.le_trans h1 h2) (fun a b => by simp only [Bool.or_eq_true, decide_eq_true_eq]; exact List.le_total a b) (l.map (·.1))
  exact h.imp fun h => by simpa [nqLt, List.not_lt] using h
theorem listS_same {a b : List NQ} (ha : (a.map (·.1)).Nodup) (hb : (b.map (·.1)).Nodup) (h : a.Perm b) : listS a = listS b := listS_of hb ((listS_perm ha).trans h) (listS_sorted a)

/-! Maps with keys that are numbers, as lists. -/
section
variable {β : Type}
def imap (k : IntKind) (g : β → IV) (l : List (Nat × β)) : List (MK × IV) := l.map fun p => (MK.i k p.1, g p.2)
theorem imap_length (k : IntKind) (g : β → IV) (l : List (Nat × β)) : (imap k g l).length = l.length := by simp [imap]
end
end Go.Proofs.YtmlhaellfpbcgaaDoor.Ax

namespace Go.Proofs.YtmlhaellfpbcgaaDoor.Ax
def tt : TT := [
  (0, { k := .other, size := 1, bytes := 0, zero := some (.tuple ⟨[]⟩) }),
  (3, { k := .int .i64, size := 1, bytes := 8, zero := some (.int .i64 (0)) }),
  (4, { k := .bool, size := 1, bytes := 1, zero := some (.bool false) }),
  (5, { k := .int .u8, size := 1, bytes := 1, zero := some (.int .u8 (0)) }),
  (9, { k := .str, size := 1, bytes := 16, zero := some (.string ⟨⟨[]⟩⟩) }),
  (20, { k := .ifc, size := 1, bytes := 16, zero := some .nilIface }),
  (22, { k := .sl 31, size := 1, bytes := 24, zero := some (.slice none 0 0) }),
  (23, { k := .ptr 69, size := 1, bytes := 8, zero := some (.pointer none) }),
  (27, { k := .int .u64, size := 1, bytes := 8, zero := some (.int .u64 (0)) }),
  (28, { k := .int .u32, size := 1, bytes := 4, zero := some (.int .u32 (0)) }),
  (29, { k := .sl 49, size := 1, bytes := 24, zero := some (.slice none 0 0) }),
  (31, { k := .st [(0, 3), (1, 9), (2, 27), (3, 28), (4, 29)], size := 5, bytes := 64, zero := some (.agg ⟨[.int .i64 (0), .string ⟨⟨[]⟩⟩, .int .u64 (0), .int .u32 (0), .slice none 0 0]⟩), eq := true }),
  (32, { k := .int .i64, size := 1, bytes := 8, zero := some (.int .i64 (0)) }),
  (41, { k := .ptr 46, size := 1, bytes := 8, zero := some (.pointer none) }),
  (42, { k := .sl 98, size := 1, bytes := 24, zero := some (.slice none 0 0) }),
  (44, { k := .st [(0, 42), (1, 27)], size := 2, bytes := 32, zero := some (.agg ⟨[.slice none 0 0, .int .u64 (0)]⟩), eq := true }),
  (46, { k := .st [(0, 27), (1, 44), (3, 29), (4, 28)], size := 5, bytes := 72, zero := some (.agg ⟨[.int .u64 (0), .slice none 0 0, .int .u64 (0), .slice none 0 0, .int .u32 (0)]⟩), eq := true }),
  (49, { k := .st [(0, 28), (1, 28), (2, 28), (3, 27), (4, 27)], size := 5, bytes := 32, zero := some (.agg ⟨[.int .u32 (0), .int .u32 (0), .int .u32 (0), .int .u64 (0), .int .u64 (0)]⟩), eq := true }),
  (51, { k := .st [(0, 3), (1, 9), (2, 27), (3, 28), (4, 29)], size := 5, bytes := 64, zero := some (.agg ⟨[.int .i64 (0), .string ⟨⟨[]⟩⟩, .int .u64 (0), .int .u32 (0), .slice none 0 0]⟩), eq := true }),
  (55, { k := .other, size := 1, bytes := 0, zero := some (.tuple ⟨[.int .u32 (0), .bool false]⟩) }),
  (57, { k := .sl 60, size := 1, bytes := 24, zero := some (.slice none 0 0) }),
  (60, { k := .st [(0, 9), (1, 27)], size := 2, bytes := 24, zero := some (.agg ⟨[.string ⟨⟨[]⟩⟩, .int .u64 (0)]⟩), eq := true }),
  (62, { k := .sl 4, size := 1, bytes := 24, zero := some (.slice none 0 0) }),
  (63, { k := .arr 2 22, size := 2, bytes := 48, zero := some (.agg ⟨[.slice none 0 0, .slice none 0 0]⟩) }),
  (66, { k := .ptr 87, size := 1, bytes := 8, zero := some (.pointer none) }),
  (69, { k := .st [(0, 27), (1, 66), (2, 29), (3, 28)], size := 4, bytes := 48, zero := some (.agg ⟨[.int .u64 (0), .pointer none, .slice none 0 0, .int .u32 (0)]⟩), eq := true }),
  (71, { k := .other, size := 1, bytes := 8, zero := some .nilFunc }),
  (72, { k := .mp 3 71, size := 1, bytes := 8, zero := some (.map none) }),
  (77, { k := .other, size := 1, bytes := 0, zero := some (.tuple ⟨[.int .u64 (0), .int .i64 (0)]⟩) }),
  (80, { k := .sl 51, size := 1, bytes := 24, zero := some (.slice none 0 0) }),
  (83, { k := .sl 22, size := 1, bytes := 24, zero := some (.slice none 0 0) }),
  (85, { k := .mp 9 101, size := 1, bytes := 8, zero := some (.map none) }),
  (87, { k := .st [(0, 85), (1, 27)], size := 2, bytes := 16, zero := some (.agg ⟨[.map none, .int .u64 (0)]⟩), eq := true }),
  (89, { k := .st [(0, 4), (1, 4), (2, 4), (3, 4)], size := 4, bytes := 4, zero := some (.agg ⟨[.bool false, .bool false, .bool false, .bool false]⟩), eq := true }),
  (90, { k := .other, size := 1, bytes := 0, zero := some (.tuple ⟨[.agg ⟨[.bool false, .bool false, .bool false, .bool false]⟩, .bool false]⟩) }),
  (94, { k := .other, size := 1, bytes := 0, zero := some (.tuple ⟨[.bool false, .bool false, .bool false, .bool false]⟩) }),
  (96, { k := .ptr 44, size := 1, bytes := 8, zero := some (.pointer none) }),
  (98, { k := .st [(0, 9), (1, 27), (2, 27)], size := 3, bytes := 32, zero := some (.agg ⟨[.string ⟨⟨[]⟩⟩, .int .u64 (0), .int .u64 (0)]⟩), eq := true }),
  (101, { k := .st [(0, 27), (1, 27)], size := 2, bytes := 16, zero := some (.agg ⟨[.int .u64 (0), .int .u64 (0)]⟩), eq := true }),
  (104, { k := .other, size := 1, bytes := 8, zero := some .nilFunc }),
  (108, { k := .int .u64, size := 1, bytes := 8, zero := some (.int .u64 (0)) }),
  (110, { k := .int .i64, size := 1, bytes := 8, zero := some (.int .i64 (0)) }),
  (111, { k := .other, size := 1, bytes := 0, zero := some (.tuple ⟨[.int .i64 (0), .int .i64 (0)]⟩) }),
  (115, { k := .other, size := 1, bytes := 0, zero := some (.tuple ⟨[.int .i64 (0), .bool false]⟩) }),
  (119, { k := .int .u64, size := 1, bytes := 8, zero := some (.int .u64 (0)) }),
  (122, { k := .ptr 3, size := 1, bytes := 8, zero := some (.pointer none) }),
  (124, { k := .ptr 119, size := 1, bytes := 8, zero := some (.pointer none) }),
  (125, { k := .other, size := 1, bytes := 0, zero := some (.tuple ⟨[.int .i64 (0), .int .i64 (0)]⟩) }),
  (143, { k := .other, size := 1, bytes := 0, zero := some (.tuple ⟨[.int .u64 (0), .int .i64 (0)]⟩) }),
  (147, { k := .other, size := 1, bytes := 0, zero := some (.tuple ⟨[.agg ⟨[.int .u64 (0), .int .u64 (0)]⟩, .bool false]⟩) }),
  (148, { k := .other, size := 1, bytes := 0, zero := some (.tuple ⟨[.agg ⟨[.int .u64 (0), .int .u64 (0)]⟩, .int .i64 (0)]⟩) })]
theorem ttOk : TOk Go.Proofs.Tryd.prog tt := TOk.of_eq (by kernel_rfl)
theorem ttBytes : TBytes tt := TBytes.of_all (by decide)
end Go.Proofs.YtmlhaellfpbcgaaDoor.Ax

namespace Go.Proofs.YtmlhaellfpbcgaaDoor.Ax
/-- hourbook/hourbooklaw23.MstateBack -/
def sch3 : List (Nat × Sched) := [(14, .take 0 (.take 4 (.two 1 (.two 2 (.two 3 (.take 5 (.take 6 (.take 7 (.take 8 (.take 9 (.take 10 (.take 11 (.take 12 (.take 13 (.take 14 (.done))))))))))) (.take 5 (.take 3 (.take 6 (.take 7 (.take 8 (.take 9 (.take 10 (.take 11 (.take 12 (.take 13 (.take 14 (.done))))))))))))) (.take 5 (.take 2 (.take 3 (.take 6 (.take 7 (.take 8 (.take 9 (.take 10 (.take 11 (.take 12 (.take 13 (.take 14 (.done)))))))))))))) (.take 5 (.take 1 (.take 2 (.take 3 (.take 6 (.take 7 (.take 8 (.take 9 (.take 10 (.take 11 (.take 12 (.take 13 (.take 14 (.done))))))))))))))))), (23, .take 0 (.take 1 (.take 2 (.take 3 (.take 4 (.take 5 (.take 6 (.take 7 (.take 8 (.take 9 (.done)))))))))))]
/-- hourbook/hourbooklaw23.MstatePlays -/
def sch4 : List (Nat × Sched) := [(9, .take 0 (.take 3 (.two 1 (.two 2 (.take 4 (.take 5 (.take 6 (.done)))) (.take 4 (.take 2 (.take 5 (.take 6 (.done)))))) (.take 4 (.take 1 (.take 2 (.take 5 (.take 6 (.done)))))))))]
/-- hourbook/hourbooklaw23.MstateHolds -/
def sch5 : List (Nat × Sched) := [(16, .take 0 (.take 1 (.take 2 (.take 3 (.take 4 (.take 5 (.take 6 (.take 7 (.done))))))))), (25, .take 0 (.take 1 (.take 2 (.take 3 (.take 4 (.take 5 (.take 6 (.take 7 (.take 8 (.take 9 (.take 10 (.take 11 (.done)))))))))))))]
/-- hourbook/hourbooklaw23.MstateSnaps -/
def sch6 : List (Nat × Sched) := [(10, .take 0 (.take 1 (.take 2 (.take 3 (.take 4 (.take 5 (.take 6 (.take 7 (.take 8 (.done))))))))))]
/-- hourbook/hourbooklaw23.few -/
def sch15 : List (Nat × Sched) := [(1, .take 0 (.take 1 (.take 2 (.take 3 (.take 4 (.take 5 (.take 6 (.take 7 (.take 8 (.take 9 (.take 10 (.take 11 (.take 12 (.take 13 (.take 14 (.take 15 (.take 16 (.take 17 (.done)))))))))))))))))))]
/-- (*hourbook/hourbookref23.State).Apply -/
def sch19 : List (Nat × Sched) := [(9, .take 0 (.take 1 (.take 2 (.take 3 (.take 4 (.take 5 (.take 6 (.take 7 (.done))))))))), (11, .take 0 (.take 1 (.take 2 (.take 3 (.take 4 (.take 5 (.done))))))), (15, .take 0 (.take 1 (.take 2 (.take 3 (.take 4 (.take 5 (.take 6 (.take 7 (.take 8 (.take 9 (.take 10 (.take 11 (.take 12 (.take 13 (.done))))))))))))))), (19, .take 0 (.take 1 (.take 2 (.take 3 (.take 4 (.take 5 (.take 6 (.take 7 (.take 8 (.take 9 (.take 10 (.done))))))))))))]
/-- (*hourbook/mstate.State).Copy -/
def sch20 : List (Nat × Sched) := [(3, .take 0 (.take 1 (.take 2 (.take 4 (.take 5 (.take 6 (.take 9 (.take 11 (.take 12 (.take 13 (.two 3 (.two 7 (.two 8 (.two 10 (.take 14 (.take 15 (.take 16 (.take 17 (.done))))) (.take 14 (.take 10 (.take 15 (.take 16 (.take 17 (.done))))))) (.take 14 (.take 8 (.take 10 (.take 15 (.take 16 (.take 17 (.done)))))))) (.take 14 (.take 7 (.take 8 (.take 10 (.take 15 (.take 16 (.take 17 (.done))))))))) (.two 7 (.two 3 (.two 8 (.two 10 (.take 14 (.take 15 (.take 16 (.take 17 (.done))))) (.take 14 (.take 10 (.take 15 (.take 16 (.take 17 (.done))))))) (.take 14 (.take 8 (.take 10 (.take 15 (.take 16 (.take 17 (.done)))))))) (.two 8 (.two 3 (.two 10 (.take 14 (.take 15 (.take 16 (.take 17 (.done))))) (.take 14 (.take 10 (.take 15 (.take 16 (.take 17 (.done))))))) (.two 10 (.take 3 (.take 14 (.take 15 (.take 16 (.take 17 (.done)))))) (.take 14 (.two 3 (.take 10 (.take 15 (.take 16 (.take 17 (.done))))) (.take 10 (.take 3 (.take 15 (.take 16 (.take 17 (.done)))))))))) (.take 14 (.two 3 (.take 8 (.take 10 (.take 15 (.take 16 (.take 17 (.done)))))) (.take 8 (.two 3 (.take 10 (.take 15 (.take 16 (.take 17 (.done))))) (.take 10 (.take 3 (.take 15 (.take 16 (.take 17 (.done)))))))))))) (.take 14 (.two 3 (.take 7 (.take 8 (.take 10 (.take 15 (.take 16 (.take 17 (.done))))))) (.take 7 (.two 3 (.take 8 (.take 10 (.take 15 (.take 16 (.take 17 (.done)))))) (.take 8 (.two 3 (.take 10 (.take 15 (.take 16 (.take 17 (.done))))) (.take 10 (.take 3 (.take 15 (.take 16 (.take 17 (.done))))))))))))))))))))))))]
/-- hourbook/hourbooklaw23.like -/
def sch21 : List (Nat × Sched) := [(3, .take 0 (.take 2 (.take 3 (.take 4 (.two 1 (.take 5 (.take 6 (.take 7 (.take 8 (.take 10 (.take 9 (.take 11 (.take 12 (.take 13 (.take 14 (.take 15 (.take 17 (.take 16 (.take 18 (.take 19 (.take 20 (.take 21 (.take 22 (.take 23 (.take 24 (.take 25 (.take 26 (.take 27 (.take 28 (.take 29 (.take 30 (.take 31 (.take 32 (.take 33 (.take 34 (.take 35 (.take 36 (.take 37 (.take 38 (.take 39 (.take 41 (.take 42 (.take 43 (.take 40 (.take 44 (.take 45 (.take 46 (.take 47 (.take 48 (.take 49 (.take 51 (.take 52 (.take 53 (.two 50 (.take 54 (.take 55 (.take 56 (.take 57 (.take 58 (.take 59 (.take 60 (.take 61 (.take 62 (.take 63 (.take 64 (.done)))))))))))) (.take 54 (.take 50 (.take 55 (.take 56 (.take 57 (.take 58 (.take 59 (.take 60 (.take 61 (.take 62 (.take 63 (.take 64 (.done)))))))))))))))))))))))))))))))))))))))))))))))))))))))))))))) (.take 5 (.take 1 (.take 6 (.take 7 (.take 8 (.take 10 (.take 9 (.take 11 (.take 12 (.take 13 (.take 14 (.take 15 (.take 17 (.take 16 (.take 18 (.take 19 (.take 20 (.take 21 (.take 22 (.take 23 (.take 24 (.take 25 (.take 26 (.take 27 (.take 28 (.take 29 (.take 30 (.take 31 (.take 32 (.take 33 (.take 34 (.take 35 (.take 36 (.take 37 (.take 38 (.take 39 (.take 41 (.take 42 (.take 43 (.take 40 (.take 44 (.take 45 (.take 46 (.take 47 (.take 48 (.take 49 (.take 51 (.take 52 (.take 53 (.two 50 (.take 54 (.take 55 (.take 56 (.take 57 (.take 58 (.take 59 (.take 60 (.take 61 (.take 62 (.take 63 (.take 64 (.done)))))))))))) (.take 54 (.take 50 (.take 55 (.take 56 (.take 57 (.take 58 (.take 59 (.take 60 (.take 61 (.take 62 (.take 63 (.take 64 (.done)))))))))))))))))))))))))))))))))))))))))))))))))))))))))))))))))))), (8, .take 0 (.take 1 (.take 2 (.take 3 (.take 4 (.take 5 (.take 6 (.take 7 (.take 8 (.take 9 (.done)))))))))))]
/-- (*hourbook/mstate.State).Open -/
def sch23 : List (Nat × Sched) := [(3, .take 0 (.take 1 (.take 2 (.take 3 (.take 4 (.take 5 (.take 6 (.take 7 (.take 8 (.take 9 (.take 10 (.done))))))))))))]
/-- hourbook/edit.May -/
def sch28 : List (Nat × Sched) := [(9, .take 0 (.take 1 (.take 2 (.take 3 (.take 4 (.take 5 (.take 6 (.take 7 (.take 8 (.take 9 (.take 10 (.take 11 (.take 12 (.take 13 (.take 14 (.take 15 (.take 16 (.take 17 (.take 18 (.done))))))))))))))))))))]
/-- slices.Equal[[]hourbook/api.Snap,hourbook/api.Snap] -/
def sch29 : List (Nat × Sched) := [(6, .take 0 (.take 1 (.take 2 (.take 3 (.take 4 (.take 5 (.take 6 (.take 7 (.take 8 (.done))))))))))]
/-- slices.Equal[[]hourbook/api.Seal,hourbook/api.Seal] -/
def sch30 : List (Nat × Sched) := [(6, .take 0 (.take 1 (.take 2 (.take 3 (.take 4 (.take 5 (.take 6 (.take 7 (.take 8 (.done))))))))))]
/-- hourbook/hourbookref09.May -/
def sch32 : List (Nat × Sched) := [(17, .take 0 (.take 1 (.take 2 (.take 3 (.take 4 (.take 5 (.take 6 (.take 7 (.take 8 (.take 9 (.take 10 (.take 11 (.take 12 (.take 13 (.take 14 (.take 15 (.take 16 (.take 17 (.done)))))))))))))))))))]
/-- (*hourbook/hourbookref23.State).Follows -/
def sch33 : List (Nat × Sched) := [(3, .take 0 (.take 2 (.two 1 (.take 3 (.take 4 (.take 5 (.done)))) (.take 3 (.take 1 (.take 4 (.take 5 (.done)))))))), (5, .take 0 (.take 1 (.take 2 (.take 3 (.take 4 (.take 5 (.take 6 (.take 7 (.take 8 (.take 9 (.take 10 (.take 11 (.take 12 (.take 13 (.take 14 (.take 15 (.take 16 (.done)))))))))))))))))), (7, .take 0 (.take 1 (.take 2 (.take 3 (.take 4 (.take 5 (.take 6 (.take 7 (.done))))))))), (9, .take 0 (.take 1 (.take 2 (.take 3 (.take 4 (.take 5 (.take 6 (.take 8 (.two 7 (.take 9 (.take 10 (.take 11 (.take 12 (.take 13 (.take 14 (.take 15 (.take 16 (.take 17 (.take 18 (.take 19 (.take 20 (.done))))))))))))) (.take 9 (.take 7 (.take 10 (.take 11 (.take 12 (.take 13 (.take 14 (.take 15 (.take 16 (.take 17 (.take 18 (.take 19 (.take 20 (.done))))))))))))))))))))))), (11, .take 0 (.take 5 (.take 6 (.take 7 (.two 1 (.take 2 (.take 3 (.two 4 (.take 8 (.take 9 (.take 10 (.take 11 (.take 12 (.take 13 (.take 14 (.take 15 (.take 16 (.take 17 (.take 18 (.take 23 (.two 19 (.take 20 (.take 21 (.two 22 (.take 24 (.take 25 (.take 26 (.take 27 (.take 28 (.done)))))) (.take 24 (.take 22 (.take 25 (.take 26 (.take 27 (.take 28 (.done)))))))))) (.take 24 (.take 19 (.take 20 (.take 21 (.take 22 (.take 25 (.take 26 (.take 27 (.take 28 (.done))))))))))))))))))))))) (.take 8 (.take 4 (.take 9 (.take 10 (.take 11 (.take 12 (.take 13 (.take 14 (.take 15 (.take 16 (.take 17 (.take 18 (.take 23 (.two 19 (.take 20 (.take 21 (.two 22 (.take 24 (.take 25 (.take 26 (.take 27 (.take 28 (.done)))))) (.take 24 (.take 22 (.take 25 (.take 26 (.take 27 (.take 28 (.done)))))))))) (.take 24 (.take 19 (.take 20 (.take 21 (.take 22 (.take 25 (.take 26 (.take 27 (.take 28 (.done))))))))))))))))))))))))))) (.take 8 (.take 1 (.take 2 (.take 3 (.take 4 (.take 9 (.take 10 (.take 11 (.take 12 (.take 13 (.take 14 (.take 15 (.take 16 (.take 17 (.take 18 (.take 23 (.two 19 (.take 20 (.take 21 (.two 22 (.take 24 (.take 25 (.take 26 (.take 27 (.take 28 (.done)))))) (.take 24 (.take 22 (.take 25 (.take 26 (.take 27 (.take 28 (.done)))))))))) (.take 24 (.take 19 (.take 20 (.take 21 (.take 22 (.take 25 (.take 26 (.take 27 (.take 28 (.done)))))))))))))))))))))))))))))))), (12, .take 0 (.take 1 (.take 2 (.take 3 (.take 4 (.take 5 (.take 6 (.take 8 (.two 7 (.take 9 (.take 10 (.take 11 (.done)))) (.take 9 (.take 7 (.take 10 (.take 11 (.done)))))))))))))), (19, .take 0 (.take 2 (.two 1 (.take 3 (.take 4 (.take 5 (.take 6 (.take 7 (.take 8 (.take 9 (.take 10 (.take 11 (.done)))))))))) (.take 3 (.take 1 (.take 4 (.take 5 (.take 6 (.take 7 (.take 8 (.take 9 (.take 10 (.take 11 (.done))))))))))))))]
/-- (*hourbook/hourbookref19.Snaps).Add -/
def sch34 : List (Nat × Sched) := [(10, .take 0 (.take 1 (.take 2 (.take 3 (.take 4 (.take 5 (.take 6 (.take 7 (.take 8 (.take 9 (.take 10 (.take 11 (.take 12 (.take 13 (.take 14 (.take 15 (.take 16 (.done))))))))))))))))))]
/-- (*hourbook/snaps.Snaps).Copy -/
def sch36 : List (Nat × Sched) := [(3, .take 0 (.take 1 (.take 2 (.take 3 (.take 5 (.take 6 (.take 7 (.two 4 (.take 8 (.take 9 (.take 10 (.take 11 (.done))))) (.take 8 (.take 4 (.take 9 (.take 10 (.take 11 (.done))))))))))))))]
/-- (*hourbook/hourbookref23.State).Edits -/
def sch37 : List (Nat × Sched) := [(6, .take 0 (.take 1 (.take 2 (.take 3 (.take 4 (.take 6 (.take 7 (.take 8 (.take 9 (.two 5 (.take 10 (.take 11 (.take 12 (.take 13 (.take 14 (.done)))))) (.take 10 (.take 5 (.take 11 (.take 12 (.take 13 (.take 14 (.done))))))))))))))))), (9, .take 0 (.take 1 (.take 2 (.take 3 (.take 4 (.take 5 (.take 6 (.take 7 (.take 8 (.done))))))))))]
/-- (*hourbook/hourbookref19.Snaps).List -/
def sch40 : List (Nat × Sched) := [(7, .take 0 (.take 1 (.take 2 (.take 3 (.take 4 (.take 5 (.take 6 (.take 7 (.take 8 (.take 9 (.take 10 (.take 11 (.take 12 (.take 13 (.take 14 (.take 15 (.take 16 (.take 17 (.take 18 (.take 19 (.take 20 (.take 21 (.take 22 (.take 23 (.take 24 (.take 25 (.take 26 (.take 27 (.take 28 (.take 29 (.take 30 (.take 31 (.take 32 (.done))))))))))))))))))))))))))))))))))]
/-- hourbook/hourbookref09.Same -/
def sch41 : List (Nat × Sched) := [(6, .take 0 (.take 1 (.take 2 (.take 3 (.take 4 (.take 5 (.take 6 (.take 7 (.take 8 (.take 9 (.take 10 (.done))))))))))))]
/-- slices.pdqsortCmpFunc[hourbook/api.Snap] -/
def sch57 : List (Nat × Sched) := [(17, .take 0 (.take 1 (.take 2 (.take 3 (.take 4 (.take 5 (.take 6 (.take 7 (.take 8 (.take 9 (.take 10 (.take 11 (.take 12 (.take 13 (.take 14 (.take 15 (.take 16 (.done))))))))))))))))))]
/-- slices.insertionSortCmpFunc[hourbook/api.Snap] -/
def sch60 : List (Nat × Sched) := [(4, .take 0 (.take 1 (.take 2 (.take 3 (.take 4 (.take 5 (.take 6 (.take 7 (.take 8 (.take 9 (.take 10 (.take 11 (.take 12 (.take 13 (.take 14 (.take 15 (.take 16 (.done)))))))))))))))))), (6, .take 0 (.take 1 (.take 2 (.take 3 (.take 4 (.take 5 (.take 6 (.take 7 (.take 8 (.take 9 (.take 10 (.take 11 (.take 12 (.take 13 (.take 14 (.take 15 (.take 16 (.take 17 (.done)))))))))))))))))))]
/-- slices.heapSortCmpFunc[hourbook/api.Snap] -/
def sch61 : List (Nat × Sched) := [(10, .take 0 (.take 1 (.take 2 (.take 3 (.take 4 (.take 5 (.take 6 (.take 7 (.take 8 (.take 9 (.take 10 (.take 11 (.take 12 (.take 13 (.take 14 (.take 15 (.take 16 (.take 17 (.take 18 (.take 19 (.done)))))))))))))))))))))]
/-- slices.breakPatternsCmpFunc[hourbook/api.Snap] -/
def sch62 : List (Nat × Sched) := [(10, .take 0 (.take 1 (.take 2 (.take 3 (.take 4 (.take 5 (.take 6 (.take 7 (.take 8 (.take 9 (.take 10 (.take 11 (.take 12 (.take 13 (.take 14 (.take 15 (.take 16 (.take 17 (.take 18 (.take 19 (.done)))))))))))))))))))))]
/-- slices.reverseRangeCmpFunc[hourbook/api.Snap] -/
def sch64 : List (Nat × Sched) := [(3, .take 0 (.take 1 (.take 2 (.take 3 (.take 4 (.take 5 (.take 6 (.take 7 (.take 8 (.take 9 (.take 10 (.take 11 (.take 12 (.take 13 (.take 14 (.take 15 (.done)))))))))))))))))]
/-- slices.partialInsertionSortCmpFunc[hourbook/api.Snap] -/
def sch65 : List (Nat × Sched) := [(5, .take 0 (.take 1 (.take 2 (.take 3 (.take 4 (.take 5 (.take 6 (.take 7 (.take 8 (.take 9 (.take 10 (.take 11 (.take 12 (.take 13 (.take 14 (.take 15 (.take 16 (.take 17 (.done))))))))))))))))))), (11, .take 0 (.take 1 (.take 2 (.take 3 (.take 4 (.take 5 (.take 6 (.take 7 (.take 8 (.take 9 (.take 10 (.take 11 (.take 12 (.take 13 (.take 14 (.take 15 (.take 16 (.take 17 (.done))))))))))))))))))), (16, .take 0 (.take 1 (.take 2 (.take 3 (.take 4 (.take 5 (.take 6 (.take 7 (.take 8 (.take 9 (.take 10 (.take 11 (.take 12 (.done)))))))))))))), (17, .take 0 (.take 1 (.take 2 (.take 3 (.take 4 (.take 5 (.take 6 (.take 7 (.take 8 (.take 9 (.take 10 (.take 11 (.take 12 (.take 13 (.take 14 (.take 15 (.take 16 (.take 17 (.done))))))))))))))))))), (22, .take 0 (.take 1 (.take 2 (.take 3 (.take 4 (.take 5 (.take 6 (.take 7 (.take 8 (.take 9 (.take 10 (.take 11 (.take 12 (.done)))))))))))))), (23, .take 0 (.take 1 (.take 2 (.take 3 (.take 4 (.take 5 (.take 6 (.take 7 (.take 8 (.take 9 (.take 10 (.take 11 (.take 12 (.take 13 (.take 14 (.take 15 (.take 16 (.take 17 (.done)))))))))))))))))))]
/-- slices.partitionEqualCmpFunc[hourbook/api.Snap] -/
def sch66 : List (Nat × Sched) := [(1, .take 0 (.take 1 (.take 2 (.take 3 (.take 4 (.take 5 (.take 6 (.take 7 (.take 8 (.take 9 (.take 10 (.take 11 (.take 12 (.take 13 (.take 14 (.take 15 (.done))))))))))))))))), (3, .take 0 (.take 1 (.take 2 (.take 3 (.take 4 (.take 5 (.take 6 (.take 7 (.take 8 (.take 9 (.take 10 (.take 11 (.take 12 (.take 13 (.take 14 (.take 15 (.take 16 (.done)))))))))))))))))), (5, .take 0 (.take 1 (.take 2 (.take 3 (.take 4 (.take 5 (.take 6 (.take 7 (.take 8 (.take 9 (.take 10 (.take 11 (.take 12 (.take 13 (.take 14 (.take 15 (.done))))))))))))))))), (8, .take 0 (.take 1 (.take 2 (.take 3 (.take 4 (.take 5 (.take 6 (.take 7 (.take 8 (.take 9 (.take 10 (.take 11 (.take 12 (.take 13 (.take 14 (.take 15 (.done)))))))))))))))))]
/-- slices.partitionCmpFunc[hourbook/api.Snap] -/
def sch67 : List (Nat × Sched) := [(1, .take 0 (.take 1 (.take 2 (.take 3 (.take 4 (.take 5 (.take 6 (.take 7 (.take 8 (.take 9 (.take 10 (.take 11 (.take 12 (.take 13 (.take 14 (.take 15 (.done))))))))))))))))), (3, .take 0 (.take 1 (.take 2 (.take 3 (.take 4 (.take 5 (.take 6 (.take 7 (.take 8 (.take 9 (.take 10 (.take 11 (.take 12 (.take 13 (.take 14 (.take 15 (.done))))))))))))))))), (5, .take 0 (.take 1 (.take 2 (.take 3 (.take 4 (.take 5 (.take 6 (.take 7 (.take 8 (.take 9 (.take 10 (.take 11 (.take 12 (.take 13 (.take 14 (.take 15 (.take 16 (.done)))))))))))))))))), (8, .take 0 (.take 1 (.take 2 (.take 3 (.take 4 (.take 5 (.take 6 (.take 7 (.take 8 (.take 9 (.take 10 (.take 11 (.take 12 (.take 13 (.take 14 (.take 15 (.done))))))))))))))))), (10, .take 0 (.take 1 (.take 2 (.take 3 (.take 4 (.take 5 (.take 6 (.take 7 (.take 8 (.take 9 (.take 10 (.take 11 (.take 12 (.take 13 (.take 14 (.take 15 (.done))))))))))))))))), (13, .take 0 (.take 1 (.take 2 (.take 3 (.take 4 (.take 5 (.take 6 (.take 7 (.take 8 (.take 9 (.take 10 (.take 11 (.take 12 (.take 13 (.take 14 (.take 15 (.done))))))))))))))))), (15, .take 0 (.take 1 (.take 2 (.take 3 (.take 4 (.take 5 (.take 6 (.take 7 (.take 8 (.take 9 (.take 10 (.take 11 (.take 12 (.take 13 (.take 14 (.take 15 (.take 16 (.done)))))))))))))))))), (18, .take 0 (.take 1 (.take 2 (.take 3 (.take 4 (.take 5 (.take 6 (.take 7 (.take 8 (.take 9 (.take 10 (.take 11 (.take 12 (.take 13 (.take 14 (.take 15 (.done))))))))))))))))), (21, .take 0 (.take 1 (.take 2 (.take 3 (.take 4 (.take 5 (.take 6 (.take 7 (.take 8 (.take 9 (.take 10 (.take 11 (.take 12 (.take 13 (.take 14 (.take 15 (.done)))))))))))))))))]
/-- slices.siftDownCmpFunc[hourbook/api.Snap] -/
def sch71 : List (Nat × Sched) := [(3, .take 0 (.take 1 (.take 2 (.take 3 (.take 4 (.take 5 (.take 6 (.take 7 (.take 8 (.take 9 (.take 10 (.take 11 (.take 12 (.take 13 (.take 14 (.take 15 (.take 16 (.take 17 (.take 18 (.take 19 (.take 20 (.take 21 (.done))))))))))))))))))))))), (5, .take 0 (.take 1 (.take 2 (.take 3 (.take 4 (.take 5 (.take 6 (.take 7 (.take 8 (.take 9 (.take 10 (.take 11 (.take 12 (.take 13 (.take 14 (.take 15 (.done))))))))))))))))), (6, .take 0 (.take 1 (.take 2 (.take 3 (.take 4 (.take 5 (.take 6 (.take 7 (.take 8 (.take 9 (.take 10 (.take 11 (.take 12 (.take 13 (.take 14 (.take 15 (.take 16 (.take 17 (.take 18 (.take 19 (.take 20 (.take 21 (.take 22 (.take 23 (.done)))))))))))))))))))))))))]
/-- (*slices.xorshift).Next -/
def sch73 : List (Nat × Sched) := [(1, .take 0 (.take 1 (.take 2 (.take 3 (.take 4 (.take 5 (.take 6 (.take 7 (.take 8 (.take 9 (.done))))))))))), (2, .take 0 (.take 1 (.take 2 (.take 3 (.take 4 (.take 5 (.take 6 (.take 7 (.take 8 (.take 9 (.done))))))))))), (3, .take 0 (.take 1 (.take 2 (.take 3 (.take 4 (.take 5 (.take 6 (.take 7 (.take 8 (.take 9 (.done)))))))))))]
/-- slices.order2CmpFunc[hourbook/api.Snap] -/
def sch76 : List (Nat × Sched) := [(1, .take 0 (.take 1 (.take 2 (.take 3 (.take 4 (.take 5 (.take 6 (.take 7 (.take 8 (.take 9 (.take 10 (.done))))))))))))]
/-- hourbook/mstate.does$1 -/
def sch94 : List (Nat × Sched) := [(1, .take 0 (.take 2 (.two 1 (.take 3 (.take 4 (.take 5 (.done)))) (.take 3 (.take 1 (.take 4 (.take 5 (.done))))))))]
/-- hourbook/mstate.does$2 -/
def sch95 : List (Nat × Sched) := [(1, .take 0 (.take 1 (.take 2 (.take 3 (.take 4 (.take 5 (.take 6 (.take 7 (.take 8 (.take 9 (.take 10 (.take 11 (.take 12 (.take 13 (.done)))))))))))))))]
/-- (*hourbook/snaps.Snaps).Add -/
def sch96 : List (Nat × Sched) := [(12, .take 0 (.take 1 (.take 2 (.take 3 (.take 4 (.take 5 (.take 6 (.take 7 (.take 8 (.take 9 (.take 10 (.take 11 (.done)))))))))))))]
/-- hourbook/mstate.does$3 -/
def sch97 : List (Nat × Sched) := [(1, .take 0 (.take 1 (.take 2 (.take 3 (.take 4 (.take 5 (.take 6 (.take 7 (.take 8 (.done))))))))))]
/-- hourbook/mstate.does$4 -/
def sch99 : List (Nat × Sched) := [(1, .take 0 (.take 1 (.take 2 (.take 3 (.take 4 (.take 5 (.take 6 (.take 8 (.two 7 (.take 9 (.take 10 (.take 11 (.take 12 (.take 13 (.take 14 (.take 15 (.take 16 (.take 17 (.take 18 (.take 19 (.take 20 (.done))))))))))))) (.take 9 (.take 7 (.take 10 (.take 11 (.take 12 (.take 13 (.take 14 (.take 15 (.take 16 (.take 17 (.take 18 (.take 19 (.take 20 (.done)))))))))))))))))))))))]
/-- hourbook/mstate.does$5 -/
def sch100 : List (Nat × Sched) := [(2, .take 0 (.take 2 (.take 3 (.take 4 (.two 1 (.take 5 (.take 6 (.take 7 (.take 8 (.take 9 (.take 10 (.take 11 (.take 12 (.take 14 (.two 13 (.take 15 (.take 16 (.take 17 (.take 18 (.take 19 (.done)))))) (.take 15 (.take 13 (.take 16 (.take 17 (.take 18 (.take 19 (.done))))))))))))))))) (.take 5 (.take 1 (.take 6 (.take 7 (.take 8 (.take 9 (.take 10 (.take 11 (.take 12 (.take 14 (.two 13 (.take 15 (.take 16 (.take 17 (.take 18 (.take 19 (.done)))))) (.take 15 (.take 13 (.take 16 (.take 17 (.take 18 (.take 19 (.done))))))))))))))))))))))), (4, .take 0 (.take 1 (.take 2 (.take 3 (.take 4 (.take 5 (.take 6 (.take 7 (.take 8 (.take 9 (.take 10 (.take 11 (.take 12 (.take 13 (.take 14 (.done))))))))))))))))]
/-- hourbook/mstate.does$6 -/
def sch101 : List (Nat × Sched) := [(1, .take 0 (.take 1 (.take 2 (.take 3 (.take 4 (.take 5 (.take 6 (.take 8 (.two 7 (.take 9 (.take 10 (.take 11 (.take 12 (.take 13 (.take 15 (.take 17 (.two 14 (.two 16 (.take 18 (.take 19 (.take 20 (.take 21 (.done))))) (.take 18 (.take 16 (.take 19 (.take 20 (.take 21 (.done))))))) (.two 16 (.take 14 (.take 18 (.take 19 (.take 20 (.take 21 (.done)))))) (.take 18 (.two 14 (.take 16 (.take 19 (.take 20 (.take 21 (.done))))) (.take 16 (.take 14 (.take 19 (.take 20 (.take 21 (.done))))))))))))))))) (.take 9 (.take 7 (.take 10 (.take 11 (.take 12 (.take 13 (.take 15 (.take 17 (.two 14 (.two 16 (.take 18 (.take 19 (.take 20 (.take 21 (.done))))) (.take 18 (.take 16 (.take 19 (.take 20 (.take 21 (.done))))))) (.two 16 (.take 14 (.take 18 (.take 19 (.take 20 (.take 21 (.done)))))) (.take 18 (.two 14 (.take 16 (.take 19 (.take 20 (.take 21 (.done))))) (.take 16 (.take 14 (.take 19 (.take 20 (.take 21 (.done))))))))))))))))))))))))))), (3, .take 0 (.take 1 (.take 2 (.take 3 (.take 5 (.two 4 (.take 7 (.take 8 (.two 6 (.take 9 (.take 10 (.take 11 (.take 12 (.done))))) (.take 9 (.take 6 (.take 10 (.take 11 (.take 12 (.done))))))))) (.take 6 (.take 4 (.take 7 (.take 8 (.take 9 (.take 10 (.take 11 (.take 12 (.done)))))))))))))))]
/-- hourbook/mstate.follows -/
def sch102 : List (Nat × Sched) := [(6, .take 0 (.take 1 (.take 2 (.take 3 (.take 4 (.take 5 (.take 6 (.take 7 (.done)))))))))]
end Go.Proofs.YtmlhaellfpbcgaaDoor.Ax

namespace Go.Proofs.YtmlhaellfpbcgaaDoor.Ax
open Go.RowKit
set_option maxRecDepth 100000
noncomputable def cfg (N b : Nat) : Cfg := { P := Go.Proofs.Tryd.prog, T := tt, wr := false, N := N, pure := [], base := b }
theorem cfgOk (N b : Nat) : (cfg N b).Ok := ⟨ttOk, ttBytes, by kernel_rfl⟩
/-- What a snapshot pins, and its mark. -/
abbrev Pin := Nat × Nat
def pg (p : Pin) : IV := .agg [.v (.int .u64 p.1), .v (.int .u64 p.2)]
/-- Snapshots: pins in the order in which they were added; how many marks were told. -/
structure SN where
  l : List (List UInt8 × Pin)
  n : Nat
@[reducible] def SN.H (s : SN) : AH := ⟨2, [(0, .cells 87 [.mp 1, .int .u64 s.n]), (1, .map none (smap pg s.l))]⟩
def okN (k : List UInt8) : Bool := decide (1 ≤ k.length ∧ k.length ≤ 32)
theorem mayName_ok (l : List UInt8) : AFn Go.Proofs.Tryd.prog 45 [.str l] ⟨0, []⟩ (fun _ : Unit => AV.bool (okN l)) (fun _ => ⟨0, []⟩) := by
  refine ACall.walk (C := cfg 11 0) (cfgOk _ _) [] (fn := Go.Proofs.Tryd.f45) (by kernel_rfl) (by kernel_rfl) rfl (by kernel_rfl) (by kernel_rfl) rfl rfl ?_
  conv => whnf
  refine branchB_of (fun h => ?_) (fun h => ?_)
  · conv => whnf
    refine ⟨(), ?_, rfl⟩
    simp only [decide_eq_true_eq] at h
    congr 3
    exact decide_eq_decide.2 (by omega)
  · conv => whnf
    refine ⟨(), ?_, rfl⟩
    simp only [decide_eq_false_iff_not] at h
    congr 3
    exact (decide_eq_false (by omega)).symm
section
variable (s : SN)
def SN.asks (x : List UInt8) : Int := bif !okN x then 32 else 0
def SN.findE (s : SN) (x : List UInt8) : Int := bif !okN x then 32 else bif (afind s.l x).isSome then 0 else 33
def SN.findP (s : SN) (x : List UInt8) : Pin := bif okN x then (afind s.l x).getD (0, 0) else (0, 0)
theorem none_in : AFn Go.Proofs.Tryd.prog 51 [.ptr 0 0] s.H (fun _ : Unit => AV.bool false) (fun _ => s.H) := by
  refine ACall.walk (C := cfg 12 2) (cfgOk _ _) [] (fn := Go.Proofs.Tryd.f51) (by kernel_rfl) (by kernel_rfl) rfl (by kernel_rfl) (by kernel_rfl) rfl rfl ?_
  conv => whnf
  exact ⟨(), rfl, rfl⟩
theorem asks_in (x : List UInt8) : AFn Go.Proofs.Tryd.prog 103 [.ptr 0 0, .str x] s.H (fun _ : Unit => AV.int .i64 (SN.asks x)) (fun _ => s.H) := by
  refine ACall.walk (C := cfg 12 2) (cfgOk _ _) [] (fn := Go.Proofs.Tryd.f103) (by kernel_rfl) (by kernel_rfl) rfl (by kernel_rfl) (by kernel_rfl) rfl rfl ?_
  conv => whnf
  refine AFn.use [0, 1] (none_in s) (by kernel_rfl) rfl (by repeat' first | exact trivial | refine ⟨rfl, ?_⟩) fun _ => ?_
  conv => whnf
  refine AFn.use [] (mayName_ok x) (by kernel_rfl) rfl (by repeat' first | exact trivial | refine ⟨rfl, ?_⟩) fun _ => ?_
  conv => whnf
  refine branchB_of (fun h => ?_) (fun h => ?_)
  · conv => whnf
    exact ⟨(), by simp [SN.asks, not_t h], rfl⟩
  · conv => whnf
    exact ⟨(), by simp [SN.asks, not_f h], rfl⟩
theorem find_in (x : List UInt8) : AFn Go.Proofs.Tryd.prog 104 [.ptr 0 0, .str x] s.H (fun _ : Unit => .tup [.agg [.int .u64 (s.findP x).1, .int .u64 (s.findP x).2], AV.int .i64 (s.findE x)]) (fun _ => s.H) := by
  refine ACall.fin ?_
  refine ACall.walk (C := cfg 29 2) (cfgOk _ _) [] (fn := Go.Proofs.Tryd.f104) (by kernel_rfl) (by kernel_rfl) rfl (by kernel_rfl) (by kernel_rfl) rfl rfl ?_
  (conv => whnf); repeat ((first | (refine And.intro ?_ ?_; (focus ((repeat' (first | exact trivial | refine And.intro rfl ?_)); done))) | (refine And.intro ?_ ?_; (focus (first | omega | (dsimp -iota only; omega) | (simp -iota; omega) | (simp -iota; done) | decide)))); conv => whnf)
  refine AFn.use [0, 1] (asks_in s x) (by kernel_rfl) rfl (by repeat' first | exact trivial | refine ⟨rfl, ?_⟩) fun _ => ?_
  (conv => whnf); repeat ((first | (refine And.intro ?_ ?_; (focus ((repeat' (first | exact trivial | refine And.intro rfl ?_)); done))) | (refine And.intro ?_ ?_; (focus (first | omega | (dsimp -iota only; omega) | (simp -iota; omega) | (simp -iota; done) | decide)))); conv => whnf)
  refine branchB_of (fun h => ?_) (fun h => ?_) <;> (first | replace h := not_t h | replace h := not_f h | skip) <;> (first | replace h := of_decide_eq_true h | replace h := of_decide_eq_false h | skip) <;> (first | replace h := Classical.not_not.1 h | skip) <;> (try dsimp only at h)
  · have hk : okN x = false := by
      cases hk : okN x with
      | false => rfl
      | true => simp [SN.asks, hk] at h
    have e1 : s.findP x = (0, 0) := by simp [SN.findP, hk]
    have e2 : s.findE x = 32 := by simp [SN.findE, hk]
    have e3 : SN.asks x = 32 := by simp [SN.asks, hk]
    rw [e1, e2, e3]
    (conv => whnf); repeat ((first | (refine And.intro ?_ ?_; (focus ((repeat' (first | exact trivial | refine And.intro rfl ?_)); done))) | (refine And.intro ?_ ?_; (focus (first | omega | (dsimp -iota only; omega) | (simp -iota; omega) | (simp -iota; done) | decide)))); conv => whnf)
    refine ⟨_, _, Ent.mk' (e' := [(0, .tup [.agg [AV.int .u64 0, AV.int .u64 0], AV.int .i64 32])]) (H' := s.H) [some 0, some 1] (by kernel_rfl) ?_ ?_, (), rfl, rfl⟩
    · exact ⟨AVE.refl _, trivial⟩
    · (repeat' first | exact trivial | refine ⟨⟨_, rfl, ChE.refl _⟩, ?_⟩)
  · have hk : okN x = true := by
      cases hk : okN x with
      | true => rfl
      | false => simp [SN.asks, hk] at h
    (conv => whnf); repeat ((first | (refine And.intro ?_ ?_; (focus ((repeat' (first | exact trivial | refine And.intro rfl ?_)); done))) | (refine And.intro ?_ ?_; (focus (first | omega | (dsimp -iota only; omega) | (simp -iota; omega) | (simp -iota; done) | decide)))); conv => whnf)
    rw [mfind_smap]
    refine ⟨fun y hy => ?_, fun hy => ?_⟩
    · obtain ⟨z, hz, hz2⟩ := Option.map_eq_some_iff.1 hy
      obtain ⟨p, hp, rfl⟩ := Option.map_eq_some_iff.1 hz
      subst hz2
      have e1 : s.findP x = p := by simp [SN.findP, hk, hp]
      have e2 : s.findE x = 0 := by simp [SN.findE, hk, hp]
      rw [e1, e2]
      (conv => whnf); repeat ((first | (refine And.intro ?_ ?_; (focus ((repeat' (first | exact trivial | refine And.intro rfl ?_)); done))) | (refine And.intro ?_ ?_; (focus (first | omega | (dsimp -iota only; omega) | (simp -iota; omega) | (simp -iota; done) | decide)))); conv => whnf)
      refine ⟨_, _, Ent.mk' (e' := [(0, .tup [.agg [AV.int .u64 p.1, AV.int .u64 p.2], AV.int .i64 0])]) (H' := s.H) [some 0, some 1] (by kernel_rfl) ?_ ?_, (), rfl, rfl⟩
      · exact ⟨AVE.refl _, trivial⟩
      · (repeat' first | exact trivial | refine ⟨⟨_, rfl, ChE.refl _⟩, ?_⟩)
    · have hy := Option.map_eq_none_iff.1 (Option.map_eq_none_iff.1 hy)
      have e1 : s.findP x = (0, 0) := by simp [SN.findP, hk, hy]
      have e2 : s.findE x = 33 := by simp [SN.findE, hk, hy]
      rw [e1, e2]
      (conv => whnf); repeat ((first | (refine And.intro ?_ ?_; (focus ((repeat' (first | exact trivial | refine And.intro rfl ?_)); done))) | (refine And.intro ?_ ?_; (focus (first | omega | (dsimp -iota only; omega) | (simp -iota; omega) | (simp -iota; done) | decide)))); conv => whnf)
      refine ⟨_, _, Ent.mk' (e' := [(0, .tup [.agg [AV.int .u64 0, AV.int .u64 0], AV.int .i64 33])]) (H' := s.H) [some 0, some 1] (by kernel_rfl) ?_ ?_, (), rfl, rfl⟩
      · exact ⟨AVE.refl _, trivial⟩
      · (repeat' first | exact trivial | refine ⟨⟨_, rfl, ChE.refl _⟩, ?_⟩)
end
end Go.Proofs.YtmlhaellfpbcgaaDoor.Ax
