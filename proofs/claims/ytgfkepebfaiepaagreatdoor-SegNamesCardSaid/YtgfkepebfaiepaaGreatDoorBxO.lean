/-
  Operations that write memory: append.
-/
import Derived.Test.YtgfkepebfaiepaaGreatDoorBxNa
namespace Go.Proofs.YtgfkepebfaiepaaGreatDoor.Ax
open Go.RowKit
section
variable {ρ : Rho} {ι : Imm} {P : Program} {w : World} {T : TT} {H : AH}
theorem app_room {t t2 ty e : TypeId} {u2 : TypeDesc} (ht : P.underlying t = some (.slice e)) (h2 : P.underlying t2 = some u2) (hn : (∃ e2, u2 = .slice e2) ∨ u2 = .string) {i : TypeInfo} (hi : P.info? e = some i) (A : Option Addr) (len cap : Nat) (x : Value) (m : Nat) (news : Array Value)
 (hlen : (Builtin.lenOf x).run P w = .ok m w) (hf : (Builtin.firstCells i.size m x).run P w = .ok news w) (hroom : len + m ≤ cap) (w' : World) (hst : ∀ a, A = some a → (storeCells (a.add (len * i.size)) news.toList).run P w = .ok () w') (hnone : A = none → w' = w) :
 (Builtin.append_ #[t, t2] ty #[.slice A len cap, x]).run P w = .ok (.slice A (len + m) cap) w' := by
 cases A with
 | none =>
   have := hnone rfl
   subst this
   rcases hn with ⟨e2, rfl⟩ | rfl
   ·simp [Builtin.append_, run_underlying ht, run_underlying h2, sizeOf, typeInfo, hi, hlen, hroom, hf]
   ·simp [Builtin.append_, run_underlying ht, run_underlying h2, sizeOf, typeInfo, hi, hlen, hroom, hf]
 | some a =>
   have hs := hst a rfl
   rcases hn with ⟨e2, rfl⟩ | rfl
   ·simp [Builtin.append_, run_underlying ht, run_underlying h2, sizeOf, typeInfo, hi, hlen, hroom, hf, hs]
   ·simp [Builtin.append_, run_underlying ht, run_underlying h2, sizeOf, typeInfo, hi, hlen, hroom, hf, hs]
theorem app_grow {t t2 ty e : TypeId} {u2 : TypeDesc} (ht : P.underlying t = some (.slice e)) (h2 : P.underlying t2 = some u2) (hn : (∃ e2, u2 = .slice e2) ∨ u2 = .string) {i : TypeInfo} {z : Value} (hi : P.info? e = some i) (hz : i.zero = some z) (A : Option Addr) (len cap : Nat) (x : Value) (m : Nat) (olds news : Array Value)
 (hlen : (Builtin.lenOf x).run P w = .ok m w) (hfo : (Builtin.firstCells i.size len (.slice A len cap)).run P w.drew = .ok olds w.drew) (hf : (Builtin.firstCells i.size m x).run P w.drew = .ok news w.drew) (hg : cap < len + m) (h63 : len + m ≤ 9223372036854775807) (hfit : Builtin.nextslicecap (len + m) cap * i.bytes ≤ 281474976710656) :
 (Builtin.append_ #[t, t2] ty #[.slice A len cap, x]).run P w = .ok (.slice (some ⟨w.heap.size, 0, none⟩) (len + m) (grownCap w (len + m) cap e))
   (w.drew.alloc (.cells (olds ++ news ++ Builtin.zeroCells z.cells (grownCap w (len + m) cap e - (len + m))) e)) := by
 have hn' : ¬ (len + m ≤ cap) := by omega
 have h63' : ¬ (9223372036854775807 < ((len : Int) + (m : Int))) := by omega
 have h48' : ¬ (281474976710656 < Builtin.nextslicecap (len + m) cap * i.bytes) := by omega
 rcases hn with ⟨e2, rfl⟩ | rfl
 ·simp [Builtin.append_, run_underlying ht, run_underlying h2, sizeOf, typeInfo, zeroValue, hi, hz, hlen, hn', h63', h48', Question.forced, hf, hfo, newRow, grownCap]
 ·simp [Builtin.append_, run_underlying ht, run_underlying h2, sizeOf, typeInfo, zeroValue, hi, hz, hlen, hn', h63', h48', Question.forced, hf, hfo, newRow, grownCap]
structure News (P : Program) (w : World) (size : Nat) (x : Value) (m : Nat) (news : List Value) : Prop where
 lenR : (Builtin.lenOf x).run P w = .ok m w
 first : (Builtin.firstCells size m x).run P w = .ok news.toArray w
 firstD : (Builtin.firstCells size m x).run P w.drew = .ok news.toArray w.drew
 many : news.length = m * size
 one : ∀ v ∈ news, v.oneCell' = true
theorem News.of_cells {size m c : Nat} {B : Option Addr} {news : List Value} (hl : news.length = m * size) (h1 : ∀ v ∈ news, v.oneCell' = true) (hc : ∀ j u, news[j]? = some u → ∃ ad, B = some ad ∧ ad.spot = none ∧ w.cell? ⟨ad.block, ad.off + j, none⟩ = some u) : News P w size (.slice B m c) m news := by
 cases B with
 | none =>
   have : news = [] := by
    cases news with
    | nil => rfl
    | cons u us => obtain ⟨_, e, _⟩ := hc 0 u rfl; cases e
   subst this
   exact ⟨by simp [Builtin.lenOf], by simp [Builtin.firstCells], by simp [Builtin.firstCells], hl, h1⟩
 | some ad =>
   have hc' : ∀ j v, news[j]? = some v → w.cell? (ad.add j) = some v := fun j v hv => by
    obtain ⟨ad', e, s, r⟩ := hc j v hv
    injection e with e
    subst e
    rw [add_none' s]; exact r
   exact ⟨by simp [Builtin.lenOf], run_firstCells_some w size m ad m c news hl hc', run_firstCells_some w.drew size m ad m c news hl (by simpa using hc'), hl, h1⟩
structure Olds (w : World) (size len : Nat) (A : Option Addr) (cap : Nat) (hv : HV) (e : TypeId) (olds : List Value) : Prop where
 le : len ≤ cap
 max : cap ≤ maxLen
 many : olds.length = len * size
 at_ : cap ≠ 0 → ∃ (b : Nat) (arr : Array Value) (fr : Nat × Nat), hv.blk = some b ∧ A = some ⟨b, 0, none⟩ ∧ cap * size ≤ hv.room ∧ w.heap[b]? = some (.cells arr e fr) ∧ arr.size = hv.room ∧ FrOk fr arr.size ∧ (∀ k, hv.foot k ↔ k = b) ∧ ∀ (j : Nat) (u : Value), olds[j]? = some u → arr[j]? = some u
theorem app_any (hT : TOk P T) {t t2 ty e : TypeId} {de : TD} {u2 : TypeDesc} (he : elemOfT T t = some (e, de)) (h2 : P.underlying t2 = some u2) (hn : (∃ e2, u2 = .slice e2) ∨ u2 = .string) (hz : (zeroA de).isSome = true) (_ : de.size ≠ 0) (hzl : ∀ z, de.zero = some z → z.cells.size = de.size)
 {A : Option Addr} {len cap m : Nat} {x : Value} {hv : HV} {olds news : List Value} (ho : Olds w de.size len A cap hv e olds) (hx : News P w de.size x m news) (hbytes : (len + m) * de.bytes ≤ 140737488355328) (hmany : len + m ≤ 140737488355328) :
 ∃ A' cap' w', (Builtin.append_ #[t, t2] ty #[.slice A len cap, x]).run P w = .ok (.slice A' (len + m) cap') w' ∧ len + m ≤ cap' ∧ cap' ≤ maxLen ∧
   ((len + m ≤ cap ∧ A' = A ∧ cap' = cap ∧ ((cap = 0 ∧ w' = w) ∨ ∃ (b : Nat) (arr : Array Value) (fr : Nat × Nat), hv.blk = some b ∧ A = some ⟨b, 0, none⟩ ∧ cap * de.size ≤ hv.room ∧ arr.size = hv.room ∧ FrOk fr arr.size ∧ w.heap[b]? = some (.cells arr e fr) ∧ (∀ k, hv.foot k ↔ k = b) ∧ w' = putObj w b (.cells (layArr arr (len * de.size) news) e fr) ∧ ∀ (j : Nat) (u : Value), olds[j]? = some u → arr[j]? = some u)) ∨
    (A' = some ⟨w.heap.size, 0, none⟩ ∧ ∃ rest : List Value, w' = w.drew.alloc (.cells (olds ++ news ++ rest).toArray e) ∧ (olds ++ news ++ rest).length = cap' * de.size)) := by
 obtain ⟨hu, hde⟩ := elemOfT_spec hT he
 obtain ⟨i, hi1, hi2, hi3, hi4⟩ := td_info hT hde
 obtain ⟨zs, hzs⟩ := Option.isSome_iff_exists.1 hz
 obtain ⟨z, hz1, _⟩ := zeroA_spec hzs
 have hzc := hzl z hz1
 by_cases hroom : len + m ≤ cap
 ·by_cases hc0 : cap = 0
  ·have hm0 : m = 0 := by omega
   have hnews : news = [] := List.eq_nil_of_length_eq_zero (by rw [hx.many, hm0]; simp)
   refine ⟨A, cap, w, app_room hu h2 hn hi1 A len cap x m news.toArray hx.lenR (by rw [hi2]; exact hx.first) hroom w (fun a _ => by rw [hnews]; rfl) (fun _ => rfl), hroom, ho.max, .inl ⟨hroom, rfl, rfl, .inl ⟨hc0, rfl⟩⟩⟩
  ·obtain ⟨b, arr, fr, q1, q2, q3, q4, q5, q6, q7, q8⟩ := ho.at_ hc0
   have hfit : len * de.size + news.length ≤ arr.size := by
    rw [hx.many, ← Nat.add_mul, q5]
    exact Nat.le_trans (Nat.mul_le_mul_right _ hroom) q3
   have hst := run_stores (P := P) (b := b) (e := e) (fr := fr) (len * de.size) news 0 arr w q4 q6 (by simpa using hfit) hx.one
   rw [Nat.add_zero] at hst
   refine ⟨A, cap, _, app_room hu h2 hn hi1 A len cap x m news.toArray hx.lenR (by rw [hi2]; exact hx.first) hroom (putObj w b (.cells (layArr arr (len * de.size) news) e fr)) (fun a ha => ?_) (fun h => by rw [q2] at h; cases h), hroom, ho.max, .inl ⟨hroom, rfl, rfl, .inr ⟨b, arr, fr, q1, q2, q3, q5, q6, q4, q7, rfl, q8⟩⟩⟩
   rw [q2] at ha
   injection ha with ha
   subst ha
   rw [add_none, hi2, Nat.zero_add]
   exact hst
 ·have hfo : (Builtin.firstCells i.size len (.slice A len cap)).run P w.drew = .ok olds.toArray w.drew := by
   rw [hi2]
   by_cases hc0 : cap = 0
   ·have hl0 : len = 0 := by have := ho.le; omega
    have holds : olds = [] := List.eq_nil_of_length_eq_zero (by rw [ho.many, hl0]; simp)
    subst hl0
    subst holds
    cases A with
    | none => simp [Builtin.firstCells]
    | some a => simp [Builtin.firstCells, loadCells, loadCellsFrom]
   ·obtain ⟨b, arr, fr, q1, q2, q3, q4, q5, q6, q7, q8⟩ := ho.at_ hc0
    subst q2
    refine run_firstCells_some w.drew de.size len ⟨b, 0, none⟩ len cap olds ho.many (fun j v hv => ?_)
    rw [add_none, Nat.zero_add, World.cell?_drew, heap_cell q4]
    exact q8 j v hv
  have hfit := growslice_fits (need := len + m) (old := cap) (bytes := i.bytes) (by omega) (by rw [hi3]; exact hbytes)
  have hrun := app_grow (ty := ty) hu h2 hn hi1 (by rw [hi4]; exact hz1) A len cap x m olds.toArray news.toArray hx.lenR hfo (by rw [hi2]; exact hx.firstD) (by omega) (by omega) hfit
  have hge := grownCap_ge w (len + m) cap e
  have hle := grownCap_le_maxLen w (len + m) cap e (by unfold maxLen; omega)
  refine ⟨_, _, _, hrun, hge, hle, .inr ⟨rfl, (Builtin.zeroCells z.cells (grownCap w (len + m) cap e - (len + m))).toList, ?_, ?_⟩⟩
  ·congr 2
   apply Array.ext'
   simp
  ·rw [List.length_append, List.length_append, ho.many, hx.many, Array.length_toList, size_zeroCells, hzc, ← Nat.add_mul, ← Nat.add_mul]
   congr 1
   omega
end
end Go.Proofs.YtgfkepebfaiepaaGreatDoor.Ax
