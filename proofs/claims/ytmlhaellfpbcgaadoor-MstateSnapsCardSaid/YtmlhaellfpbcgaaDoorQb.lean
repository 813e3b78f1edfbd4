/-
  Chapter 23: what snaps do.
-/
import Derived.Shelf.SlSortCmp.NoneTotal
import Derived.Shelf.Small.Strs
import Derived.Ground.SlsfProg
import Derived.Ground.NamesProg
import Derived.Shelf.SlMaps.Clone
import Derived.Ground.SlmcProg
import Derived.Test.YtmlhaellfpbcgaaDoorProg
import Derived.Test.YtmlhaellfpbcgaaDoorQa
namespace Go.Proofs
open Go.Shelf
def Tryd.sortfn_ren : Go.Shelf.Ren := ⟨fun | 6 => 53 | 15 => 58 | 14 => 57 | 28 => 68 | 29 => 69 | 20 => 60 | 21 => 61 | 22 => 62 | 23 => 63 | 24 => 64 | 25 => 65 | 26 => 66 | 27 => 67 | 46 => 71 | 47 => 72 | 48 => 73 | 49 => 74 | 50 => 75 | 57 => 76 | n => n, fun | 22 => 57 | 24 => 60 | 25 => 104 | 3 => 3 | 39 => 108 | 0 => 0 | 53 => 28 | 55 => 27 | 4 => 4 | 46 => 111 | 45 => 110 | 50 => 115 | 5 => 5 | 9 => 9 | 66 => 119 | 70 => 122 | 76 => 124 | 77 => 125 | n => n, fun | n => n⟩
theorem Tryd.sortfn : Go.Proofs.SlLaysF0.n6 Tryd.prog Tryd.sortfn_ren := {
  mixed := by kernel_rfl
  f6 := ⟨Tryd.f53.name, by decide, Tryd.func53.trans (congrArg some (by kernel_rfl))⟩
  f14 := ⟨Tryd.f57.name, by decide, Tryd.func57.trans (congrArg some (by kernel_rfl))⟩
  f15 := Tryd.func58.trans (congrArg some (by kernel_rfl))
  f20 := ⟨Tryd.f60.name, by decide, Tryd.func60.trans (congrArg some (by kernel_rfl))⟩
  f21 := ⟨Tryd.f61.name, by decide, Tryd.func61.trans (congrArg some (by kernel_rfl))⟩
  f22 := ⟨Tryd.f62.name, by decide, Tryd.func62.trans (congrArg some (by kernel_rfl))⟩
  f23 := ⟨Tryd.f63.name, by decide, Tryd.func63.trans (congrArg some (by kernel_rfl))⟩
  f24 := ⟨Tryd.f64.name, by decide, Tryd.func64.trans (congrArg some (by kernel_rfl))⟩
  f25 := ⟨Tryd.f65.name, by decide, Tryd.func65.trans (congrArg some (by kernel_rfl))⟩
  f26 := ⟨Tryd.f66.name, by decide, Tryd.func66.trans (congrArg some (by kernel_rfl))⟩
  f27 := ⟨Tryd.f67.name, by decide, Tryd.func67.trans (congrArg some (by kernel_rfl))⟩
  f28 := Tryd.func68.trans (congrArg some (by kernel_rfl))
  f29 := Tryd.func69.trans (congrArg some (by kernel_rfl))
  f46 := ⟨Tryd.f71.name, by decide, Tryd.func71.trans (congrArg some (by kernel_rfl))⟩
  f47 := Tryd.func72.trans (congrArg some (by kernel_rfl))
  f48 := Tryd.func73.trans (congrArg some (by kernel_rfl))
  f49 := ⟨Tryd.f74.name, by decide, Tryd.func74.trans (congrArg some (by kernel_rfl))⟩
  f50 := ⟨Tryd.f75.name, by decide, Tryd.func75.trans (congrArg some (by kernel_rfl))⟩
  f57 := ⟨Tryd.f76.name, by decide, Tryd.func76.trans (congrArg some (by kernel_rfl))⟩
  t0 := Tryd.underlying0
  a0 := Tryd.isAgg0
  z0 := Tryd.sizeOf0
  v0 := Tryd.zeroValue0
  t3 := Tryd.underlying3
  a3 := Tryd.isAgg3
  z3 := Tryd.sizeOf3
  v3 := Tryd.zeroValue3
  t4 := Tryd.underlying4
  a4 := Tryd.isAgg4
  z4 := Tryd.sizeOf4
  v4 := Tryd.zeroValue4
  t5 := Tryd.underlying5
  a5 := Tryd.isAgg5
  z5 := Tryd.sizeOf5
  v5 := Tryd.zeroValue5
  t9 := Tryd.underlying9
  a9 := Tryd.isAgg9
  z9 := Tryd.sizeOf9
  v9 := Tryd.zeroValue9
  t22 := Tryd.underlying57
  a22 := Tryd.isAgg57
  z22 := Tryd.sizeOf57
  v22 := Tryd.zeroValue57
  t25 := Tryd.underlying104
  a25 := Tryd.isAgg104
  z25 := Tryd.sizeOf104
  v25 := Tryd.zeroValue104
  t39 := Tryd.underlying108
  a39 := Tryd.isAgg108
  z39 := Tryd.sizeOf108
  v39 := Tryd.zeroValue108
  t45 := Tryd.underlying110
  a45 := Tryd.isAgg110
  z45 := Tryd.sizeOf110
  v45 := Tryd.zeroValue110
  t46 := Tryd.underlying111
  a46 := Tryd.isAgg111
  z46 := Tryd.sizeOf111
  v46 := Tryd.zeroValue111
  t50 := Tryd.underlying115
  a50 := Tryd.isAgg115
  z50 := Tryd.sizeOf115
  v50 := Tryd.zeroValue115
  t53 := Tryd.underlying28
  a53 := Tryd.isAgg28
  z53 := Tryd.sizeOf28
  v53 := Tryd.zeroValue28
  t55 := Tryd.underlying27
  a55 := Tryd.isAgg27
  z55 := Tryd.sizeOf27
  v55 := Tryd.zeroValue27
  t66 := Tryd.underlying119
  a66 := Tryd.isAgg119
  z66 := Tryd.sizeOf119
  v66 := Tryd.zeroValue119
  t70 := Tryd.underlying122
  a70 := Tryd.isAgg122
  z70 := Tryd.sizeOf122
  v70 := Tryd.zeroValue122
  t76 := Tryd.underlying124
  a76 := Tryd.isAgg124
  z76 := Tryd.sizeOf124
  v76 := Tryd.zeroValue124
  t77 := Tryd.underlying125
  a77 := Tryd.isAgg125
  z77 := Tryd.sizeOf125
  v77 := Tryd.zeroValue125 }
def Tryd.strcmp_ren : Go.Shelf.Ren := ⟨fun | 106 => 55 | 213 => 59 | 265 => 70 | n => n, fun | 9 => 9 | 3 => 3 | n => n, fun | n => n⟩
theorem Tryd.strcmp : Go.Proofs.Lays.n106 Tryd.prog Tryd.strcmp_ren := {
  mixed := by kernel_rfl
  f106 := Tryd.func55.trans (congrArg some (by kernel_rfl))
  f213 := Tryd.func59.trans (congrArg some (by kernel_rfl))
  f265 := Tryd.func70.trans (congrArg some (by kernel_rfl))
  t3 := Tryd.underlying3
  a3 := Tryd.isAgg3
  z3 := Tryd.sizeOf3
  v3 := Tryd.zeroValue3
  t9 := Tryd.underlying9
  a9 := Tryd.isAgg9
  z9 := Tryd.sizeOf9
  v9 := Tryd.zeroValue9 }
def Tryd.mclone_ren : Go.Shelf.Ren := ⟨fun | 5 => 52 | 7 => 56 | n => n, fun | 23 => 85 | 25 => 9 | 3 => 101 | 4 => 4 | 20 => 20 | n => n, fun | n => n⟩
theorem Tryd.mclone : Go.Proofs.SlLaysW.n5 Tryd.prog Tryd.mclone_ren := {
  mixed := by kernel_rfl
  f5 := ⟨Tryd.f52.name, by decide, Tryd.func52.trans (congrArg some (by kernel_rfl))⟩
  f7 := Tryd.func56.trans (congrArg some (by kernel_rfl))
  t4 := Tryd.underlying4
  a4 := Tryd.isAgg4
  z4 := Tryd.sizeOf4
  v4 := Tryd.zeroValue4
  t20 := Tryd.underlying20
  a20 := Tryd.isAgg20
  z20 := Tryd.sizeOf20
  v20 := Tryd.zeroValue20
  t23 := Tryd.underlying85
  a23 := Tryd.isAgg85
  z23 := Tryd.sizeOf85
  v23 := Tryd.zeroValue85 }
end Go.Proofs

namespace Go.Proofs.YtmlhaellfpbcgaaDoor.Ax
open Go.RowKit Go.Sort Go.Shelf
set_option maxRecDepth 100000

def nqF (l : List NQ) (i : Nat) : List IV := [.str (l.getD i ([], 0)).1, .v (.int .u64 (l.getD i ([], 0)).2)]
def encNQ (p : NQ) : List Value := [.string ⟨p.1.toArray⟩, .int .u64 p.2]
theorem encNQ_R {ι : Imm} (l : List NQ) (i : Nat) : IV.Rs ι (nqF l i) (encNQ (l.getD i ([], 0))) := by
  simp only [nqF, encNQ, IV.Rs, IV.R]
  exact ⟨_, _, rfl, rfl, _, _, rfl, rfl, rfl⟩
theorem encNQ_of {ι : Imm} {l : List NQ} {i : Nat} {vs : List Value} (h : IV.Rs ι (nqF l i) vs) : vs = encNQ (l.getD i ([], 0)) := by
  simp only [nqF, IV.Rs, IV.R] at h
  obtain ⟨u, us, rfl, rfl, u', us', rfl, rfl, rfl⟩ := h
  rfl
instance : Inhabited NQ := ⟨([], 0)⟩
theorem getD_bang (l : List NQ) (i : Nat) (h : i < l.length) : l.toArray[i]! = l.getD i ([], 0) := by
  simp [List.getD, h]
/-- The row of an array of pairs, behind a sort. -/
theorem row_of_put {w : World} {b n : Nat} {e : TypeId} {arr : Array Value} {fr : Nat × Nat} {d : List NQ} {os : Array Obj} (hb : w.heap[b]? = some (.cells arr e fr)) (hn : d.length * 2 ≤ arr.size) :
    ∃ arr', (grow (putRowK encNQ 2 (Sort.ahead w n) b 0 d.toArray) os).heap[b]? = some (.cells arr' e fr) ∧ arr'.size = arr.size ∧ ∀ i, i < d.length → ∀ j u, (encNQ (d.getD i ([], 0)))[j]? = some u → arr'[i * 2 + j]? = some u := by
  have hlt : b < w.heap.size := (Array.getElem?_eq_some_iff.1 hb).1
  refine ⟨putCells id 0 (flatK encNQ 2 d.toArray) arr, ?_, by simp [putCells], fun i hi j u hj => ?_⟩
  · have h1 : (putRowK encNQ 2 (Sort.ahead w n) b 0 d.toArray).heap[b]? = some (.cells (putCells id 0 (flatK encNQ 2 d.toArray) arr) e fr) := by
      simp [putRowK, putRow, mapBlock, Array.getElem?_modify, Sort.ahead, hb, onCells]
    unfold grow
    rw [Array.getElem?_append_left (by
      have := (Array.getElem?_eq_some_iff.1 h1).1
      exact this)]
    exact h1
  · have hj2 : j < 2 := by
      have := (List.getElem?_eq_some_iff.1 hj).1
      simpa [encNQ] using this
    have hlt2 : i * 2 + j < d.length * 2 := by omega
    have ha : ∃ x, arr[i * 2 + j]? = some x := ⟨_, Array.getElem?_eq_getElem (by omega)⟩
    obtain ⟨x, hx⟩ := ha
    simp only [putCells, Array.getElem?_mapIdx, hx, Option.map_some]
    rw [if_pos ⟨by omega, by rw [size_flatK]; simp; omega⟩, id, Nat.sub_zero, get_flatK _ _ _ _ (by simpa using hlt2), show (i * 2 + j) / 2 = i by omega, show (i * 2 + j) % 2 = j by omega, getD_bang d i hi]
    rw [← hj, List.getElem!_eq_getElem?_getD, hj]
    rfl
theorem closure_ok (x y : NQ) (W : World) : Calls Go.Proofs.Tryd.prog 54 #[.agg (encNQ x).toArray, .agg (encNQ y).toArray] W fun e w' => e = .returned (.int .i64 (Lib.compareBytes x.1 y.1)) ∧ ∃ q os', w' = grow (W.drewN q) os' := by
  have hcon := fun W' => Any.strings_Compare Tryd.strcmp ⟨x.1.toArray⟩ ⟨y.1.toArray⟩ W'
  change ∀ W', Calls Go.Proofs.Tryd.prog 55 _ _ (fun e w' => e = .returned (.int .i64 (Lib.compareBytes x.1 y.1)) ∧ w' = W') at hcon
  unfold encNQ
  generalize Lib.compareBytes x.1 y.1 = r at hcon ⊢
  go_enter Go.Proofs.Tryd.func54, Go.Proofs.Tryd.ntmps54
  go_wp2_with (go_at_call 55; refine (hcon _).mono ?_; rintro e w' ⟨rfl, rfl⟩)
  go_ret
  exact ⟨rfl, 0, _, by rw [alloc_eq_grow, alloc_eq_grow, grow_grow]; rfl⟩
theorem ltOf_nq : (ltOf fun x y : NQ => Lib.compareBytes x.1 y.1) = nqLt := by
  funext x y
  unfold ltOf nqLt
  exact decide_eq_decide.2 (cmpB_lt _ _)
/-- **slices.SortFunc of snapshots by names.** -/
theorem sortF_ok (l : List NQ) (hdup : (l.map (·.1)).Nodup) (hlen : l.length ≤ 1000) : AFn Go.Proofs.Tryd.prog 53 [.row 0 2 0 l.length, .iv (.v (.func (.func 54) ⟨[]⟩ ⟨[]⟩))] ⟨1, [(0, .rowc 60 2 l.length (nqF l))]⟩ (fun _ : Unit => .tup []) (fun _ => ⟨1, [(0, .rowc 60 2 (listS l).length (nqF (listS l)))]⟩) := by
  refine ⟨⟨_, Go.Proofs.Tryd.func53, by kernel_rfl, by kernel_rfl⟩, fun ρ ι w cargs hG hS hr => ?_⟩
  simp only [AV.Rs, AV.R, IV.R] at hr
  obtain ⟨u, us, rfl, ⟨A, c, rfl, hc1, hc2, hc3⟩, u', us', rfl, rfl, rfl⟩ := hr
  obtain ⟨hv, g1, g2⟩ := hS.hv (k := 0) (c := .rowc 60 2 l.length (nqF l)) rfl
  rcases Nat.eq_zero_or_pos l.length with h0 | h0
  · have hl : l = [] := List.eq_nil_of_length_eq_zero h0
    subst hl
    have hC := AnyF.slices_SortFunc_none (P := Go.Proofs.Tryd.prog) Tryd.sortfn A c (.func (.func 54) #[] #[]) w
    refine Calls.mono hC fun e w' ⟨he, hw⟩ => ?_
    subst he hw
    exact ⟨.tup [], _, ρ, ι, ⟨(), rfl, by simp [listS, sortS]⟩, by simp [AV.R, AV.Rs], hS, Went.refl _ _ _ _⟩
  · obtain ⟨hv', b, q1, q2, rfl, q4⟩ := hc3 (by omega)
    rw [g1] at q1; injection q1 with q1; subst q1
    rcases g2 with ⟨k1, _, _⟩ | ⟨b', arr, fr, k1, k2, k3, k4, k5, k6, k7⟩
    · rw [q2] at k1; cases k1
    rw [q2] at k1; injection k1 with k1; subst k1
    have hlt : b < w.heap.size := (Array.getElem?_eq_some_iff.1 k3).1
    have hsz : l.toArray.size = l.length := by simp
    have hH : HoldsK encNQ 2 w b 0 l.toArray := fun j hj => by
      rw [size_flatK, hsz] at hj
      have hi : j / 2 < l.length := by omega
      obtain ⟨vs, v1, v2, v3, v4⟩ := k7 (j / 2) hi
      have hvs := encNQ_of v1
      subst hvs
      rw [get_flatK _ _ _ _ (by rw [hsz]; exact hj), getD_bang l _ hi]
      have hjm : j % 2 < (encNQ (l.getD (j / 2) ([], 0))).length := by rw [v2]; omega
      have h5 := v4 (j % 2) _ (List.getElem?_eq_getElem hjm)
      rw [show j / 2 * 2 + j % 2 = j by omega] at h5
      refine ⟨?_, ?_⟩
      · rw [Nat.zero_add]
        rw [cellOf k3 h5]
        simp only [List.getElem!_eq_getElem?_getD, List.getElem?_eq_getElem hjm, Option.getD_some]
        rfl
      · simp only [World.frozen?, k3]
        have := k5.2 j (by omega)
        simpa using this
    have eg : ∀ args w, (callFunc 54 args).run Go.Proofs.Tryd.prog w = .ok (.enter 54 args) w := enters_of Go.Proofs.Tryd.func54 (by kernel_rfl) rfl
    have hC := AnyQ.slices_SortFunc Tryd.sortfn 2 Tryd.isAgg60 Tryd.sizeOf60 encNQ (fun _ => rfl) (fun x v hv => by simp [encNQ] at hv; rcases hv with rfl | rfl <;> rfl) (fun x y => Lib.compareBytes x.1 y.1) (by rw [ltOf_nq]; exact nqLt_swo) 54 #[] b 0 c l.toArray w eg (fun _ _ _ _ x y => closure_ok x y _) hH hlt (by rw [hsz]; omega)
    rw [hsz] at hC
    refine Calls.mono (show Calls Go.Proofs.Tryd.prog 53 _ _ _ from hC) fun e w' ⟨he, d', n, os, hp, hs, hw⟩ => ?_
    subst he
    rw [ltOf_nq] at hs
    have hd : d'.toList = listS l := by
      refine listS_of hdup ?_ ?_
      · have h1 := hp.2.2
        have h2 := hp.1
        have e1 : (d'.extract 0 l.length) = d' := by rw [← hsz, ← h2]; simp
        have e2 : (l.toArray.extract 0 l.length) = l.toArray := by rw [← hsz]; simp
        rw [e1, e2] at h1
        simpa using h1
      · rw [List.pairwise_iff_getElem]
        intro i j hi hj hij
        have h1 := hs i j (Nat.zero_le _) hij (by have := hp.1; rw [hsz] at this; simp at hj; omega)
        have hj' : j < d'.size := by simpa using hj
        have hi' : i < d'.size := by simpa using hi
        rw [getElem!_pos d' j hj', getElem!_pos d' i hi'] at h1
        simpa using h1
    have hd2 : d' = (listS l).toArray := by rw [← hd]
    subst hd2
    have hll := listS_length l
    obtain ⟨arr', r1, r2, r3⟩ := row_of_put (n := n) (os := os) (d := listS l) k3 (by rw [hll]; exact k6)
    have ht : Touch hv.foot w w' := by
      subst hw
      refine ⟨rfl, rfl, rfl, ?_, fun k hk hs => ?_⟩
      · simp [sortWorldK, grow, putRowK, putRow, mapBlock, Sort.ahead]
      · have hkb : k ≠ b := fun e => hs ((k2 k).2 e)
        simp only [sortWorldK, grow]
        rw [Array.getElem?_append_left (by simp [putRowK, putRow, mapBlock, Sort.ahead]; exact hk)]
        simp [putRowK, putRow, mapBlock, Array.getElem?_modify, Sort.ahead, Ne.symm hkb]
    obtain ⟨t1, t2⟩ := hS.turn (c' := .rowc 60 2 (listS l).length (nqF (listS l))) rfl g1 ht (.inr ⟨b, arr', fr, q2, k2, by rw [hw]; exact r1, r2.trans k4, by rw [r2]; exact k5, by rw [r2, hll]; exact k6, fun i hi => ⟨encNQ ((listS l).getD i ([], 0)), encNQ_R _ _, rfl, fun v hv => by simp [encNQ] at hv; rcases hv with rfl | rfl <;> rfl, fun j u hj => r3 i hi j u hj⟩⟩)
    exact ⟨.tup [], _, ρ, ι, ⟨(), rfl, rfl⟩, by simp [AV.R, AV.Rs], t1, t2⟩
end Go.Proofs.YtmlhaellfpbcgaaDoor.Ax

namespace Go.Proofs.YtmlhaellfpbcgaaDoor.Ax
open Go.RowKit
set_option maxRecDepth 100000
/-- A map that is gone through: the entry at which it stands is forgotten. -/
theorem ChE.stand {kk : Option IntKind} {m : List (MK × IV)} {left : List MK} {i : Nat} {la : Option (MK × IV)} : ChE (.mapit kk m left i la) (.mapit kk m left i none) := ⟨fun ρ ι hv w h => by
  obtain ⟨b, it, hi, es, clock, since, seen, last, h1, h2, h3, h4, h5, h6, h7, h8, h9, h10, h11, _⟩ := h
  exact ⟨b, it, hi, es, clock, since, seen, last, h1, h2, h3, h4, h5, h6, h7, h8, h9, h10, h11, fun p hp => by cases hp⟩⟩
theorem left_lt {l : List MK} {k : MK} (h : k ∈ l) : (l.filter fun j => decide (j ≠ k)).length < l.length := List.length_filter_lt_length_iff_exists.2 ⟨k, h, by simp⟩
theorem left_mem {l : List MK} {k j : MK} : j ∉ l.filter (fun j => decide (j ≠ k)) ↔ j ∉ l ∨ j = k := by
  simp only [List.mem_filter, decide_eq_true_eq, not_and, Classical.not_not]
  constructor
  · intro h
    by_cases hj : j ∈ l
    · exact .inr (h hj)
    · exact .inl hj
  · rintro (h | h) hj
    · exact absurd hj h
    · exact h
theorem AVE.zs : AVE (.iv (.v (.string ⟨⟨[]⟩⟩))) (.str []) := ⟨fun ρ ι v h => by
  simp only [AV.R, IV.R] at h ⊢
  exact h⟩
theorem AVE.tup2 {x y x' y' : AV} (h1 : AVE x x') (h2 : AVE y y') : AVE (.tup [x, y]) (.tup [x', y']) := ⟨fun ρ ι v h => by
  simp only [AV.R, AV.Rs] at h ⊢
  obtain ⟨vs, rfl, u, us, rfl, g1, u', us', rfl, g2, rfl⟩ := h
  exact ⟨_, rfl, _, _, rfl, h1.run _ _ _ g1, _, _, rfl, h2.run _ _ _ g2, rfl⟩⟩
theorem AVE.agg2 {x y x' y' : AV} (h1 : AVE x x') (h2 : AVE y y') : AVE (.agg [x, y]) (.agg [x', y']) := ⟨fun ρ ι v h => by
  simp only [AV.R, AV.Rs] at h ⊢
  obtain ⟨vs, rfl, u, us, rfl, g1, u', us', rfl, g2, rfl⟩ := h
  exact ⟨_, rfl, _, _, rfl, h1.run _ _ _ g1, _, _, rfl, h2.run _ _ _ g2, rfl⟩⟩
theorem nodup_len {α : Type} [DecidableEq α] : ∀ {l m : List α}, l.Nodup → (∀ x ∈ l, x ∈ m) → l.length ≤ m.length
  | [], _, _, _ => Nat.zero_le _
  | x :: l, m, h, hs => by
    rw [List.nodup_cons] at h
    have hx := hs x (List.mem_cons_self ..)
    have h1 : l.length ≤ (m.erase x).length := nodup_len h.2 fun y hy => (List.mem_erase_of_ne (fun e => h.1 (by rw [← e]; exact hy))).2 (hs y (List.mem_cons_of_mem _ hy))
    have h2 := List.length_erase_of_mem hx
    have h3 := List.length_pos_of_mem hx
    simp only [List.length_cons]
    omega
theorem new_ok : AFn Go.Proofs.Tryd.prog 26 [] ⟨0, []⟩ (fun _ : Unit => .ptr 0 0) (fun _ => one (SN.H ⟨[], 0⟩)) := by
  refine ACall.fin ?_
  refine ACall.walk (C := cfg 4 0) (cfgOk _ _) [] (fn := Go.Proofs.Tryd.f26) (by kernel_rfl) (by kernel_rfl) rfl (by kernel_rfl) (by kernel_rfl) rfl rfl ?_
  (conv => whnf); repeat ((first | (refine And.intro ?_ ?_; (focus ((repeat' (first | exact trivial | refine And.intro rfl ?_)); done))) | (refine And.intro ?_ ?_; (focus (first | omega | (dsimp -iota only; omega) | (simp -iota; omega) | (simp -iota; done) | decide)))); conv => whnf)
  refine ⟨_, _, Ent.shutAt (r2 := .ptr 0 0) [some 1, some 0] (SN.H ⟨[], 0⟩) rfl (by kernel_rfl) (AVE.of_eq ?_) ?_ (by kernel_rfl) (by kernel_rfl) (by repeat' first | exact trivial | refine ⟨rfl, ?_⟩) rfl, (), ?_, ?_⟩
  all_goals first | rfl | (repeat' first | exact trivial | refine ⟨⟨_, rfl, ChE.refl _⟩, ?_⟩)
section
variable (s : SN)
structure SN.Ok (s : SN) : Prop where
  dup : (s.l.map (·.1)).Nodup
  mks : (s.l.map (·.2.2)).Nodup
  mark : ∀ p ∈ s.l, p.2.2 ≤ s.n
  mark0 : ∀ p ∈ s.l, 1 ≤ p.2.2
  len : s.l.length ≤ 16
  n : s.n ≤ 1000
  nm : ∀ p ∈ s.l, okN p.1 = true
  q : ∀ p ∈ s.l, p.2.1 ≤ 1099511627776
def SN.addE (x : List UInt8) (q : Nat) : Int := bif !okN x then 32 else bif decide (1099511627776 < q) then 1 else bif (afind s.l x).isSome then 34 else bif decide (16 ≤ s.l.length) then 39 else 0
def SN.addM (x : List UInt8) (q : Nat) : Nat := if s.addE x q = 0 then s.n + 1 else 0
def SN.add (x : List UInt8) (q : Nat) : SN := if s.addE x q = 0 then ⟨aput s.l x (q, s.n + 1), s.n + 1⟩ else s
theorem mput_pg (l : List (List UInt8 × Pin)) (x : List UInt8) (q n : Nat) : mput (smap pg l) (.s x) (.agg [.v (.int .u64 q), .v (.int .u64 ((n : Int) + 1))]) = smap pg (aput l x (q, n + 1)) := by
  rw [← mput_smap]
  rfl
theorem add_ok (hs : s.Ok) (x : List UInt8) (q : Nat) (hq : q ≤ 18446744073709551615) : AFn Go.Proofs.Tryd.prog 96 [.ptr 0 0, .str x, AV.int .u64 q] (one s.H) (fun _ : Unit => .tup [AV.int .u64 (s.addM x q), AV.int .i64 (s.addE x q)]) (fun _ => one (s.add x q).H) := by
  have hn := hs.n
  refine ACall.fin ?_
  refine ACall.walkE (C := cfg 60 1) (cfgOk _ _) sch96 (fn := Go.Proofs.Tryd.f96) (by kernel_rfl) (by kernel_rfl) rfl (by kernel_rfl) (by kernel_rfl) rfl rfl (H1 := s.H) (fun _ _ => (HEnt.openOne (s.H) rfl rfl).ent) fun hlen hheap => ?_
  (conv => whnf); repeat ((first | (refine And.intro ?_ ?_; (focus ((repeat' (first | exact trivial | refine And.intro rfl ?_)); done))) | (refine And.intro ?_ ?_; (focus (first | omega | (dsimp -iota only; omega) | (simp -iota; omega) | (simp -iota; done) | decide)))); conv => whnf)
  refine AFn.use [0, 1] (asks_in s x) (by kernel_rfl) rfl (by repeat' first | exact trivial | refine ⟨rfl, ?_⟩) fun _ => ?_
  (conv => whnf); repeat ((first | (refine And.intro ?_ ?_; (focus ((repeat' (first | exact trivial | refine And.intro rfl ?_)); done))) | (refine And.intro ?_ ?_; (focus (first | omega | (dsimp -iota only; omega) | (simp -iota; omega) | (simp -iota; done) | decide)))); conv => whnf)
  have hl : (smap pg s.l).length = s.l.length := smap_length _ _
  cases hk : okN x with
  | false =>
    have e3 : SN.asks x = 32 := by simp [SN.asks, hk]
    rw [e3]
    (conv => whnf); repeat ((first | (refine And.intro ?_ ?_; (focus ((repeat' (first | exact trivial | refine And.intro rfl ?_)); done))) | (refine And.intro ?_ ?_; (focus (first | omega | (dsimp -iota only; omega) | (simp -iota; omega) | (simp -iota; done) | decide)))); conv => whnf)
    have ha : s.addE x q = 32 := by simp [SN.addE, hk]
    have e1 : s.addM x q = 0 := by simp [SN.addM, ha]
    have e2 : s.add x q = s := by simp [SN.add, ha]
    rw [e1, e2, ha]
    (conv => whnf); repeat ((first | (refine And.intro ?_ ?_; (focus ((repeat' (first | exact trivial | refine And.intro rfl ?_)); done))) | (refine And.intro ?_ ?_; (focus (first | omega | (dsimp -iota only; omega) | (simp -iota; omega) | (simp -iota; done) | decide)))); conv => whnf)
    refine ⟨_, _, Ent.shutAt (r2 := .tup [AV.int .u64 0, AV.int .i64 32]) [some 0, some 1] (s.H) rfl (by kernel_rfl) (AVE.of_eq ?_) ?_ (by kernel_rfl) (by kernel_rfl) (by repeat' first | exact trivial | refine ⟨rfl, ?_⟩) rfl, (), ?_, ?_⟩
    all_goals first | rfl | (repeat' first | exact trivial | refine ⟨⟨_, rfl, ChE.refl _⟩, ?_⟩)
  | true =>
    have e3 : SN.asks x = 0 := by simp [SN.asks, hk]
    rw [e3]
    (conv => whnf); repeat ((first | (refine And.intro ?_ ?_; (focus ((repeat' (first | exact trivial | refine And.intro rfl ?_)); done))) | (refine And.intro ?_ ?_; (focus (first | omega | (dsimp -iota only; omega) | (simp -iota; omega) | (simp -iota; done) | decide)))); conv => whnf)
    rw [mfind_smap]
    refine ⟨fun y hy => ?_, fun hy => ?_⟩
    · obtain ⟨z, hz, hz2⟩ := Option.map_eq_some_iff.1 hy
      obtain ⟨p, hp, rfl⟩ := Option.map_eq_some_iff.1 hz
      subst hz2
      (conv => whnf); repeat ((first | (refine And.intro ?_ ?_; (focus ((repeat' (first | exact trivial | refine And.intro rfl ?_)); done))) | (refine And.intro ?_ ?_; (focus (first | omega | (dsimp -iota only; omega) | (simp -iota; omega) | (simp -iota; done) | decide)))); conv => whnf)
      refine branchB_of (fun g => ?_) (fun g => ?_) <;> (first | replace g := not_t g | replace g := not_f g | skip) <;> (first | replace g := of_decide_eq_true g | replace g := of_decide_eq_false g | skip) <;> (first | replace g := Classical.not_not.1 g | skip) <;> (try dsimp only at g)
      · have ha : s.addE x q = 1 := by simp [SN.addE, hk, show 1099511627776 < q from by omega]
        have e1 : s.addM x q = 0 := by simp [SN.addM, ha]
        have e2 : s.add x q = s := by simp [SN.add, ha]
        rw [e1, e2, ha]
        (conv => whnf); repeat ((first | (refine And.intro ?_ ?_; (focus ((repeat' (first | exact trivial | refine And.intro rfl ?_)); done))) | (refine And.intro ?_ ?_; (focus (first | omega | (dsimp -iota only; omega) | (simp -iota; omega) | (simp -iota; done) | decide)))); conv => whnf)
        refine ⟨_, _, Ent.shutAt (r2 := .tup [AV.int .u64 0, AV.int .i64 1]) [some 0, some 1] (s.H) rfl (by kernel_rfl) (AVE.of_eq ?_) ?_ (by kernel_rfl) (by kernel_rfl) (by repeat' first | exact trivial | refine ⟨rfl, ?_⟩) rfl, (), ?_, ?_⟩
        all_goals first | rfl | (repeat' first | exact trivial | refine ⟨⟨_, rfl, ChE.refl _⟩, ?_⟩)
      · have ha : s.addE x q = 34 := by simp [SN.addE, hk, hp, show ¬ 1099511627776 < q from by omega]
        have e1 : s.addM x q = 0 := by simp [SN.addM, ha]
        have e2 : s.add x q = s := by simp [SN.add, ha]
        rw [e1, e2, ha]
        (conv => whnf); repeat ((first | (refine And.intro ?_ ?_; (focus ((repeat' (first | exact trivial | refine And.intro rfl ?_)); done))) | (refine And.intro ?_ ?_; (focus (first | omega | (dsimp -iota only; omega) | (simp -iota; omega) | (simp -iota; done) | decide)))); conv => whnf)
        refine ⟨_, _, Ent.shutAt (r2 := .tup [AV.int .u64 0, AV.int .i64 34]) [some 0, some 1] (s.H) rfl (by kernel_rfl) (AVE.of_eq ?_) ?_ (by kernel_rfl) (by kernel_rfl) (by repeat' first | exact trivial | refine ⟨rfl, ?_⟩) rfl, (), ?_, ?_⟩
        all_goals first | rfl | (repeat' first | exact trivial | refine ⟨⟨_, rfl, ChE.refl _⟩, ?_⟩)
    · have hy := Option.map_eq_none_iff.1 (Option.map_eq_none_iff.1 hy)
      (conv => whnf); repeat ((first | (refine And.intro ?_ ?_; (focus ((repeat' (first | exact trivial | refine And.intro rfl ?_)); done))) | (refine And.intro ?_ ?_; (focus (first | omega | (dsimp -iota only; omega) | (simp -iota; omega) | (simp -iota; done) | decide)))); conv => whnf)
      refine branchB_of (fun g => ?_) (fun g => ?_) <;> (first | replace g := not_t g | replace g := not_f g | skip) <;> (first | replace g := of_decide_eq_true g | replace g := of_decide_eq_false g | skip) <;> (first | replace g := Classical.not_not.1 g | skip) <;> (try dsimp only at g)
      · have ha : s.addE x q = 1 := by simp [SN.addE, hk, show 1099511627776 < q from by omega]
        have e1 : s.addM x q = 0 := by simp [SN.addM, ha]
        have e2 : s.add x q = s := by simp [SN.add, ha]
        rw [e1, e2, ha]
        (conv => whnf); repeat ((first | (refine And.intro ?_ ?_; (focus ((repeat' (first | exact trivial | refine And.intro rfl ?_)); done))) | (refine And.intro ?_ ?_; (focus (first | omega | (dsimp -iota only; omega) | (simp -iota; omega) | (simp -iota; done) | decide)))); conv => whnf)
        refine ⟨_, _, Ent.shutAt (r2 := .tup [AV.int .u64 0, AV.int .i64 1]) [some 0, some 1] (s.H) rfl (by kernel_rfl) (AVE.of_eq ?_) ?_ (by kernel_rfl) (by kernel_rfl) (by repeat' first | exact trivial | refine ⟨rfl, ?_⟩) rfl, (), ?_, ?_⟩
        all_goals first | rfl | (repeat' first | exact trivial | refine ⟨⟨_, rfl, ChE.refl _⟩, ?_⟩)
      · (conv => whnf); repeat ((first | (refine And.intro ?_ ?_; (focus ((repeat' (first | exact trivial | refine And.intro rfl ?_)); done))) | (refine And.intro ?_ ?_; (focus (first | omega | (dsimp -iota only; omega) | (simp -iota; omega) | (simp -iota; done) | decide)))); conv => whnf)
        refine branchB_of (fun g2 => ?_) (fun g2 => ?_) <;> (first | replace g2 := not_t g2 | replace g2 := not_f g2 | skip) <;> (first | replace g2 := of_decide_eq_true g2 | replace g2 := of_decide_eq_false g2 | skip) <;> (first | replace g2 := Classical.not_not.1 g2 | skip) <;> (try dsimp only at g2)
        · have ha : s.addE x q = 39 := by simp [SN.addE, hk, hy, show ¬ 1099511627776 < q from by omega, show 16 ≤ s.l.length from by omega]
          have e1 : s.addM x q = 0 := by simp [SN.addM, ha]
          have e2 : s.add x q = s := by simp [SN.add, ha]
          rw [e1, e2, ha]
          (conv => whnf); repeat ((first | (refine And.intro ?_ ?_; (focus ((repeat' (first | exact trivial | refine And.intro rfl ?_)); done))) | (refine And.intro ?_ ?_; (focus (first | omega | (dsimp -iota only; omega) | (simp -iota; omega) | (simp -iota; done) | decide)))); conv => whnf)
          refine ⟨_, _, Ent.shutAt (r2 := .tup [AV.int .u64 0, AV.int .i64 39]) [some 0, some 1] (s.H) rfl (by kernel_rfl) (AVE.of_eq ?_) ?_ (by kernel_rfl) (by kernel_rfl) (by repeat' first | exact trivial | refine ⟨rfl, ?_⟩) rfl, (), ?_, ?_⟩
          all_goals first | rfl | (repeat' first | exact trivial | refine ⟨⟨_, rfl, ChE.refl _⟩, ?_⟩)
        · have ha : s.addE x q = 0 := by simp [SN.addE, hk, hy, show ¬ 1099511627776 < q from by omega, show ¬ 16 ≤ s.l.length from by omega]
          have e1 : s.addM x q = s.n + 1 := by simp [SN.addM, ha]
          have e2 : s.add x q = ⟨aput s.l x (q, s.n + 1), s.n + 1⟩ := by simp [SN.add, ha]
          rw [e1, e2, ha]
          (conv => whnf); repeat ((first | (refine And.intro ?_ ?_; (focus ((repeat' (first | exact trivial | refine And.intro rfl ?_)); done))) | (refine And.intro ?_ ?_; (focus (first | omega | (dsimp -iota only; omega) | (simp -iota; omega) | (simp -iota; done) | decide)))); conv => whnf)
          rw [mput_pg]
          (conv => whnf); repeat ((first | (refine And.intro ?_ ?_; (focus ((repeat' (first | exact trivial | refine And.intro rfl ?_)); done))) | (refine And.intro ?_ ?_; (focus (first | omega | (dsimp -iota only; omega) | (simp -iota; omega) | (simp -iota; done) | decide)))); conv => whnf)
          refine ⟨_, _, Ent.shutAt (r2 := .tup [AV.int .u64 (s.n + 1 : Nat), AV.int .i64 0]) [some 0, some 1] (SN.H ⟨aput s.l x (q, s.n + 1), s.n + 1⟩) rfl (by kernel_rfl) (AVE.of_eq ?_) ?_ (by kernel_rfl) (by kernel_rfl) (by repeat' first | exact trivial | refine ⟨rfl, ?_⟩) rfl, (), ?_, ?_⟩
          all_goals first | rfl | (repeat' first | exact trivial | refine ⟨⟨_, rfl, ChE.refl _⟩, ?_⟩)
def SN.drop (x : List UInt8) : SN := if s.findE x = 0 then ⟨adel s.l x, s.n⟩ else s
theorem drop_ok (x : List UInt8) : AFn Go.Proofs.Tryd.prog 98 [.ptr 0 0, .str x] (one s.H) (fun _ : Unit => AV.int .i64 (s.findE x)) (fun _ => one (s.drop x).H) := by
  refine ACall.fin ?_
  refine ACall.walkE (C := cfg 21 1) (cfgOk _ _) [] (fn := Go.Proofs.Tryd.f98) (by kernel_rfl) (by kernel_rfl) rfl (by kernel_rfl) (by kernel_rfl) rfl rfl (H1 := s.H) (fun _ _ => (HEnt.openOne (s.H) rfl rfl).ent) fun hlen hheap => ?_
  (conv => whnf); repeat ((first | (refine And.intro ?_ ?_; (focus ((repeat' (first | exact trivial | refine And.intro rfl ?_)); done))) | (refine And.intro ?_ ?_; (focus (first | omega | (dsimp -iota only; omega) | (simp -iota; omega) | (simp -iota; done) | decide)))); conv => whnf)
  refine AFn.use [0, 1] (find_in s x) (by kernel_rfl) rfl (by repeat' first | exact trivial | refine ⟨rfl, ?_⟩) fun _ => ?_
  (conv => whnf); repeat ((first | (refine And.intro ?_ ?_; (focus ((repeat' (first | exact trivial | refine And.intro rfl ?_)); done))) | (refine And.intro ?_ ?_; (focus (first | omega | (dsimp -iota only; omega) | (simp -iota; omega) | (simp -iota; done) | decide)))); conv => whnf)
  refine branchB_of (fun h => ?_) (fun h => ?_) <;> (first | replace h := not_t h | replace h := not_f h | skip) <;> (first | replace h := of_decide_eq_true h | replace h := of_decide_eq_false h | skip) <;> (first | replace h := Classical.not_not.1 h | skip) <;> (try dsimp only at h)
  · have e1 : s.drop x = ⟨adel s.l x, s.n⟩ := by simp [SN.drop, h]
    rw [e1, h]
    (conv => whnf); repeat ((first | (refine And.intro ?_ ?_; (focus ((repeat' (first | exact trivial | refine And.intro rfl ?_)); done))) | (refine And.intro ?_ ?_; (focus (first | omega | (dsimp -iota only; omega) | (simp -iota; omega) | (simp -iota; done) | decide)))); conv => whnf)
    rw [mdel_smap]
    (conv => whnf); repeat ((first | (refine And.intro ?_ ?_; (focus ((repeat' (first | exact trivial | refine And.intro rfl ?_)); done))) | (refine And.intro ?_ ?_; (focus (first | omega | (dsimp -iota only; omega) | (simp -iota; omega) | (simp -iota; done) | decide)))); conv => whnf)
    refine ⟨_, _, Ent.shutAt (r2 := AV.int .i64 0) [some 0, some 1] (SN.H ⟨adel s.l x, s.n⟩) rfl (by kernel_rfl) (AVE.of_eq ?_) ?_ (by kernel_rfl) (by kernel_rfl) (by repeat' first | exact trivial | refine ⟨rfl, ?_⟩) rfl, (), ?_, ?_⟩
    all_goals first | rfl | (repeat' first | exact trivial | refine ⟨⟨_, rfl, ChE.refl _⟩, ?_⟩)
  · have e1 : s.drop x = s := by simp [SN.drop, h]
    rw [e1]
    (conv => whnf); repeat ((first | (refine And.intro ?_ ?_; (focus ((repeat' (first | exact trivial | refine And.intro rfl ?_)); done))) | (refine And.intro ?_ ?_; (focus (first | omega | (dsimp -iota only; omega) | (simp -iota; omega) | (simp -iota; done) | decide)))); conv => whnf)
    refine ⟨_, _, Ent.shutAt (r2 := AV.int .i64 (s.findE x)) [some 0, some 1] (s.H) rfl (by kernel_rfl) (AVE.of_eq ?_) ?_ (by kernel_rfl) (by kernel_rfl) (by repeat' first | exact trivial | refine ⟨rfl, ?_⟩) rfl, (), ?_, ?_⟩
    all_goals first | rfl | (repeat' first | exact trivial | refine ⟨⟨_, rfl, ChE.refl _⟩, ?_⟩)
def SN.nqs : List NQ := s.l.map fun p => (p.1, p.2.1)
def SN.list : List NQ := listS s.nqs
theorem nqs_keys : s.nqs.map (·.1) = s.l.map (·.1) := by
  unfold SN.nqs
  rw [List.map_map]
  rfl
theorem nodup_eq {β : Type} {L : List (List UInt8 × β)} {p r : List UInt8 × β} (h : (L.map (·.1)).Nodup) (hp : p ∈ L) (hr : r ∈ L) (e : p.1 = r.1) : p = r := by
  have a1 := afind_of_mem h hp
  have a2 := afind_of_mem h hr
  rw [e, a2] at a1
  injection a1 with a1
  exact Prod.ext e a1.symm
theorem keys_nodup {β : Type} {L : List (List UInt8 × β)} (h : (L.map (·.1)).Nodup) : L.Nodup := (List.pairwise_map.1 h).imp fun h e => h (by rw [e])
structure VX (s : SN) where
  left : List MK
  A : List NQ
  nd : (A.map (·.1)).Nodup
  mem : ∀ p, p ∈ A ↔ p ∈ s.nqs ∧ MK.s p.1 ∉ left
theorem VX.len {s : SN} (hs : s.Ok) {left : List MK} {A : List NQ} (nd : (A.map (·.1)).Nodup) (mem : ∀ p, p ∈ A ↔ p ∈ s.nqs ∧ MK.s p.1 ∉ left) : A.length ≤ 16 := by
  have h1 : A.length ≤ s.nqs.length := nodup_len (keys_nodup nd) fun p hp => ((mem p).1 hp).1
  have h2 : s.nqs.length = s.l.length := by simp [SN.nqs]
  have := hs.len
  omega
theorem nqF_push (A : List NQ) (p : NQ) {j : Nat} (h : j < A.length) : nqF A j = nqF (A ++ [p]) j := by
  unfold nqF
  simp [List.getD, List.getElem?_append_left, h]
theorem ChE.pushN {e : Nat} {A : List NQ} {p : NQ} {g : Nat → List IV} (hg : g 0 = [.str p.1, .v (.int .u64 p.2)]) : ChE (.rowc e 2 (A.length + 1) fun j => if j < A.length then nqF A j else g (j - A.length)) (.rowc e 2 (A ++ [p]).length (nqF (A ++ [p]))) := by
  refine ChE.row (by simp) fun j hj => ?_
  by_cases h : j < A.length
  · simp only [if_pos h]
    exact nqF_push A p h
  · have : j = A.length := by simp at hj; omega
    subst this
    simp only [if_neg h, Nat.sub_self]
    rw [hg]
    simp [nqF]
theorem list_in (hs : s.Ok) : AFn Go.Proofs.Tryd.prog 42 [.ptr 0 0] s.H (fun _ : Unit => .iv (.sl 2 s.list.length (nqF s.list))) (fun _ => s.H) := by
  have hnk : (s.nqs.map (·.1)).Nodup := by rw [nqs_keys]; exact hs.dup
  refine ACall.fin ?_
  refine ACall.walk (C := cfg 28 2) (cfgOk _ _) [] (fn := Go.Proofs.Tryd.f42) (by kernel_rfl) (by kernel_rfl) rfl (by kernel_rfl) (by kernel_rfl) rfl rfl ?_
  (conv => whnf); repeat ((first | (refine And.intro ?_ ?_; (focus ((repeat' (first | exact trivial | refine And.intro rfl ?_)); done))) | (refine And.intro ?_ ?_; (focus (first | omega | (dsimp -iota only; omega) | (simp -iota; omega) | (simp -iota; done) | decide)))); conv => whnf)
  refine AFn.use [0, 1] (none_in s) (by kernel_rfl) rfl (by repeat' first | exact trivial | refine ⟨rfl, ?_⟩) fun _ => ?_
  (conv => whnf); repeat ((first | (refine And.intro ?_ ?_; (focus ((repeat' (first | exact trivial | refine And.intro rfl ?_)); done))) | (refine And.intro ?_ ?_; (focus (first | omega | (dsimp -iota only; omega) | (simp -iota; omega) | (simp -iota; done) | decide)))); conv => whnf)
  refine AWP.loop (X := VX s) (fun x => [(0, .ptr 0 0), (3, .row 3 2 0 x.A.length), (12, .ptr 2 0)]) (fun x => ⟨4, [(0, .cells 87 [.mp 1, AV.int .u64 s.n]), (1, .mapit none (smap pg s.l) x.left 2 none), (3, .rowc 60 2 x.A.length (nqF x.A))]⟩) (fun x => x.left.length) (⟨(smap pg s.l).map (·.1), [], by simp, fun p => ?_⟩) ?_ fun x => AWP.go (S := []) (cfgOk _ _) (.of_eq (by kernel_rfl)) ?_
  · simp only [List.not_mem_nil, false_iff, not_and, Classical.not_not]
    intro hp
    obtain ⟨q, hq, rfl⟩ := List.mem_map.1 hp
    exact List.mem_map.2 ⟨(MK.s q.1, pg q.2), List.mem_map.2 ⟨q, hq, rfl⟩, rfl⟩
  · refine Ent.mk' [some 0, some 1, some 2, none] (by kernel_rfl) ?_ ?_
    · exact ⟨AVE.refl _, AVE.nil _ _, AVE.refl _, trivial⟩
    · exact ⟨⟨_, rfl, ChE.refl _⟩, ⟨_, rfl, ChE.refl _⟩, trivial, trivial⟩
  · obtain ⟨left, A, hnd, hmem⟩ := x
    have hAl := VX.len hs hnd hmem
    (conv => whnf); repeat ((first | (refine And.intro ?_ ?_; (focus ((repeat' (first | exact trivial | refine And.intro rfl ?_)); done))) | (refine And.intro ?_ ?_; (focus (first | omega | (dsimp -iota only; omega) | (simp -iota; omega) | (simp -iota; done) | decide)))); conv => whnf)
    refine ⟨fun p hp hl => ?_, fun hend => ?_⟩
    · obtain ⟨q, hq, rfl⟩ := List.mem_map.1 hp
      have hl : MK.s q.1 ∈ left := hl
      (conv => whnf); repeat ((first | (refine And.intro ?_ ?_; (focus ((repeat' (first | exact trivial | refine And.intro rfl ?_)); done))) | (refine And.intro ?_ ?_; (focus (first | omega | (dsimp -iota only; omega) | (simp -iota; omega) | (simp -iota; done) | decide)))); conv => whnf)
      refine ⟨⟨left.filter fun j => decide (j ≠ MK.s q.1), A ++ [(q.1, q.2.1)], ?_, fun p => ?_⟩, Ent.mk' [some 0, some 1, some 2, some 6] (by kernel_rfl) (by repeat' first | exact trivial | refine And.intro (AVE.refl _) ?_ | refine And.intro (AVE.int (by first | rfl | omega | (dsimp only; omega) | (simp -iota; omega) | (simp -iota; done))) ?_ | refine And.intro (AVE.bool (by assumption)) ?_ | refine And.intro (AVE.len (by first | rfl | omega | (dsimp only; omega) | (simp -iota; omega) | (simp -iota; done))) ?_) ?_, ?_⟩
      · rw [List.map_append, List.nodup_append]
        refine ⟨hnd, by simp, fun a ha b hb => ?_⟩
        simp only [List.map_cons, List.map_nil, List.mem_singleton] at hb
        subst hb
        obtain ⟨r, hr, rfl⟩ := List.mem_map.1 ha
        intro e
        exact ((hmem r).1 hr).2 (e ▸ hl)
      · rw [left_mem, List.mem_append, List.mem_singleton, hmem p]
        constructor
        · rintro (⟨h1, h2⟩ | rfl)
          · exact ⟨h1, .inl h2⟩
          · exact ⟨List.mem_map.2 ⟨q, hq, rfl⟩, .inr rfl⟩
        · rintro ⟨h1, h2 | h2⟩
          · exact .inl ⟨h1, h2⟩
          · refine .inr (nodup_eq hnk h1 (List.mem_map.2 ⟨q, hq, rfl⟩) ?_)
            injection h2
      · exact ⟨⟨_, rfl, ChE.refl _⟩, ⟨_, rfl, ChE.stand⟩, ⟨_, rfl, ChE.pushN rfl⟩, trivial⟩
      · exact left_lt hl
    · have hpm : A.Perm s.nqs := (List.perm_ext_iff_of_nodup (keys_nodup hnd) (keys_nodup hnk)).2 fun p => by
        rw [hmem p]
        refine ⟨fun h => h.1, fun h => ⟨h, ?_⟩⟩
        obtain ⟨q, hq, rfl⟩ := List.mem_map.1 h
        exact hend (MK.s q.1, pg q.2) (List.mem_map.2 ⟨q, hq, rfl⟩)
      have hAs : listS A = s.list := listS_same hnd hnk hpm
      have hAn : A.length = s.list.length := by rw [← hAs, listS_length]
      (conv => whnf); repeat ((first | (refine And.intro ?_ ?_; (focus ((repeat' (first | exact trivial | refine And.intro rfl ?_)); done))) | (refine And.intro ?_ ?_; (focus (first | omega | (dsimp -iota only; omega) | (simp -iota; omega) | (simp -iota; done) | decide)))); conv => whnf)
      refine AFn.use [3] (sortF_ok A hnd (by omega)) (by kernel_rfl) rfl (by repeat' first | exact trivial | refine ⟨rfl, ?_⟩) fun _ => ?_
      (conv => whnf); repeat ((first | (refine And.intro ?_ ?_; (focus ((repeat' (first | exact trivial | refine And.intro rfl ?_)); done))) | (refine And.intro ?_ ?_; (focus (first | omega | (dsimp -iota only; omega) | (simp -iota; omega) | (simp -iota; done) | decide)))); conv => whnf)
      refine ⟨_, _, (Ent.freeze 3 _ rfl rfl (e' := [(0, .iv (.sl 2 A.length (nqF (listS A))))]) ⟨AVF.sl (by rw [listS_length]; exact Nat.le_refl _), trivial⟩).trans (Ent.mk' (e' := [(0, .iv (.sl 2 s.list.length (nqF s.list)))]) (H' := s.H) [some 0, some 1] (by kernel_rfl) ?_ ?_), (), rfl, rfl⟩
      · exact ⟨AVE.of_eq (by rw [hAs, hAn]; rfl), trivial⟩
      · (repeat' first | exact trivial | refine ⟨⟨_, rfl, ChE.refl _⟩, ?_⟩)
theorem list_ok (hs : s.Ok) : AFn Go.Proofs.Tryd.prog 42 [.ptr 0 0] (one s.H) (fun _ : Unit => .iv (.sl 2 s.list.length (nqF s.list))) (fun _ => one s.H) := AFn.shut (list_in s hs) rfl rfl (fun _ => ⟨by kernel_rfl, by kernel_rfl⟩) (fun _ => (by repeat' first | exact trivial | refine ⟨rfl, ?_⟩)) (fun _ => rfl)
/-! What always holds. -/
theorem aput_new {β : Type} {l : List (List UInt8 × β)} {s : List UInt8} {n : β} (h : s ∉ l.map (·.1)) : aput l s n = l ++ [(s, n)] := by
  induction l with
  | nil => rfl
  | cons p ps ih =>
    simp only [List.map_cons, List.mem_cons, not_or] at h
    unfold aput
    rw [if_neg (fun e => h.1 e.symm), ih h.2]
    rfl
theorem addE_zero {x : List UInt8} {q : Nat} (h : s.addE x q = 0) : okN x = true ∧ q ≤ 1099511627776 ∧ afind s.l x = none ∧ s.l.length < 16 := by
  unfold SN.addE at h
  cases h1 : okN x with
  | false => simp [h1] at h
  | true =>
    simp only [h1, Bool.not_true, cond_false] at h
    cases h2 : decide (1099511627776 < q) with
    | true => simp [h2] at h
    | false =>
      simp only [h2, cond_false] at h
      cases h3 : (afind s.l x).isSome with
      | true => simp [h3] at h
      | false =>
        simp only [h3, cond_false] at h
        cases h4 : decide (16 ≤ s.l.length) with
        | true => simp [h4] at h
        | false =>
          simp only [decide_eq_false_iff_not] at h2 h4
          simp only [Option.isSome_eq_false_iff, Option.isNone_iff_eq_none] at h3
          exact ⟨rfl, by omega, h3, by omega⟩
theorem add_l {x : List UInt8} {q : Nat} (h : s.addE x q = 0) : s.add x q = ⟨s.l ++ [(x, (q, s.n + 1))], s.n + 1⟩ := by
  have h3 := (addE_zero s h).2.2.1
  simp only [SN.add, if_pos h]
  rw [aput_new (afind_none.1 h3)]
theorem add_Ok (hs : s.Ok) {x : List UInt8} {q : Nat} (h : s.addE x q = 0) (hn : s.n < 1000) : (s.add x q).Ok := by
  obtain ⟨h1, h2, h3, h4⟩ := addE_zero s h
  rw [add_l s h]
  have hx := afind_none.1 h3
  refine ⟨?_, ?_, ?_, ?_, ?_, ?_, ?_, ?_⟩
  · simp only [List.map_append, List.map_cons, List.map_nil]
    rw [List.nodup_append]
    exact ⟨hs.dup, by simp, fun a ha b hb => by simp only [List.mem_singleton] at hb; subst hb; exact fun e => hx (e ▸ ha)⟩
  · simp only [List.map_append, List.map_cons, List.map_nil]
    rw [List.nodup_append]
    refine ⟨hs.mks, by simp, fun a ha b hb => ?_⟩
    simp only [List.mem_singleton] at hb
    subst hb
    obtain ⟨p, hp, rfl⟩ := List.mem_map.1 ha
    have := hs.mark p hp
    omega
  · intro p hp
    rcases List.mem_append.1 hp with hp | hp
    · have := hs.mark p hp; simp only; omega
    · simp only [List.mem_singleton] at hp; subst hp; simp
  · intro p hp
    rcases List.mem_append.1 hp with hp | hp
    · exact hs.mark0 p hp
    · simp only [List.mem_singleton] at hp; subst hp; simp
  · simp; omega
  · simp only; omega
  · intro p hp
    rcases List.mem_append.1 hp with hp | hp
    · exact hs.nm p hp
    · simp only [List.mem_singleton] at hp; subst hp; exact h1
  · intro p hp
    rcases List.mem_append.1 hp with hp | hp
    · exact hs.q p hp
    · simp only [List.mem_singleton] at hp; subst hp; exact h2
theorem drop_Ok (hs : s.Ok) (x : List UInt8) : (s.drop x).Ok := by
  unfold SN.drop
  split
  · have hsub : (adel s.l x).Sublist s.l := List.filter_sublist
    exact ⟨hs.dup.sublist (hsub.map _), hs.mks.sublist (hsub.map _), fun p hp => hs.mark p (hsub.subset hp), fun p hp => hs.mark0 p (hsub.subset hp), Nat.le_trans hsub.length_le hs.len, hs.n, fun p hp => hs.nm p (hsub.subset hp), fun p hp => hs.q p (hsub.subset hp)⟩
  · exact hs
theorem addE_there {x : List UInt8} {q : Nat} {p : Pin} (h : afind s.l x = some p) : s.addE x q ≠ 0 := fun e => by
  have := (addE_zero s e).2.2.1
  rw [h] at this
  cases this
theorem add_same {x : List UInt8} {q : Nat} (h : s.addE x q ≠ 0) : s.add x q = s := if_neg h
theorem findE_there (hs : s.Ok) {x : List UInt8} {p : Pin} (h : afind s.l x = some p) : s.findE x = 0 := by
  have hk := hs.nm _ (afind_mem h)
  simp only at hk
  simp [SN.findE, hk, h]
theorem findE_none {x : List UInt8} (h : afind s.l x = none) : s.findE x ≠ 0 := by
  unfold SN.findE
  cases okN x <;> simp [h]
end
end Go.Proofs.YtmlhaellfpbcgaaDoor.Ax

namespace Go.Proofs.YtmlhaellfpbcgaaDoor.Ax
open Go.RowKit
set_option maxRecDepth 100000
theorem mclone_ok (m : List (MK × IV)) : AFn Go.Proofs.Tryd.prog 52 [.mp 0] ⟨1, [(0, .map none m)]⟩ (fun _ : Unit => .mp 1) (fun _ => ⟨2, [(0, .map none m), (1, .map none m)]⟩) :=
  ⟨⟨_, Tryd.func52, by kernel_rfl, by kernel_rfl⟩, fun ρ ι w cargs hG hS hr => by
    simp only [AV.Rs, AV.R] at hr
    obtain ⟨u, us, rfl, ⟨hv, b, g1, g2, rfl⟩, rfl⟩ := hr
    obtain ⟨hv', q1, b', es, clock, k1, k2, k3, k4⟩ := hS.hv (k := 0) (c := .map none m) rfl
    rw [g1] at q1; injection q1 with q1; subst q1
    rw [g2] at k1; injection k1 with k1; subst k1
    have hC := AnyW.maps_Clone (P := Go.Proofs.Tryd.prog) Tryd.mclone b es clock w k3
    refine Calls.mono hC fun e w' ⟨he, hw⟩ => ?_
    subst he hw
    obtain ⟨s1, s2⟩ := hS.alloc (.map es clock) 0 (.map none m) ⟨w.heap.size, es, clock, rfl, fun _ => Iff.rfl, heap_alloc_new w _, k4⟩
    exact ⟨.mp 1, _, _, ι, ⟨(), rfl, rfl⟩, by simp only [AV.R]; exact ⟨_, _, Rho.upd_same _ _ _, rfl, rfl⟩, s1, s2⟩⟩
section
variable (s : SN)
theorem copy_ok : AFn Go.Proofs.Tryd.prog 36 [.ptr 0 0] (one s.H) (fun _ : Unit => .ptr 1 0) (fun _ => ⟨2, [(0, .sem (Nest s.H)), (1, .sem (Nest s.H))]⟩) := by
  refine ACall.fin ?_
  refine ACall.walkE (C := cfg 16 1) (cfgOk _ _) sch36 (fn := Go.Proofs.Tryd.f36) (by kernel_rfl) (by kernel_rfl) rfl (by kernel_rfl) (by kernel_rfl) rfl rfl (H1 := s.H) (fun _ _ => (HEnt.openOne (s.H) rfl rfl).ent) fun hlen hheap => ?_
  (conv => whnf); repeat ((first | (refine And.intro ?_ ?_; (focus ((repeat' (first | exact trivial | refine And.intro rfl ?_)); done))) | (refine And.intro ?_ ?_; (focus (first | omega | (dsimp -iota only; omega) | (simp -iota; omega) | (simp -iota; done) | decide)))); conv => whnf)
  refine AFn.use [0, 1] (none_in s) (by kernel_rfl) rfl (by repeat' first | exact trivial | refine ⟨rfl, ?_⟩) fun _ => ?_
  (conv => whnf); repeat ((first | (refine And.intro ?_ ?_; (focus ((repeat' (first | exact trivial | refine And.intro rfl ?_)); done))) | (refine And.intro ?_ ?_; (focus (first | omega | (dsimp -iota only; omega) | (simp -iota; omega) | (simp -iota; done) | decide)))); conv => whnf)
  refine And.intro ?_ ?_ <;> ((conv => whnf); repeat ((first | (refine And.intro ?_ ?_; (focus ((repeat' (first | exact trivial | refine And.intro rfl ?_)); done))) | (refine And.intro ?_ ?_; (focus (first | omega | (dsimp -iota only; omega) | (simp -iota; omega) | (simp -iota; done) | decide)))); conv => whnf))
  all_goals
    refine AFn.use [1] (mclone_ok (smap pg s.l)) (by kernel_rfl) rfl (by repeat' first | exact trivial | refine ⟨rfl, ?_⟩) fun _ => ?_
    (conv => whnf); repeat ((first | (refine And.intro ?_ ?_; (focus ((repeat' (first | exact trivial | refine And.intro rfl ?_)); done))) | (refine And.intro ?_ ?_; (focus (first | omega | (dsimp -iota only; omega) | (simp -iota; omega) | (simp -iota; done) | decide)))); conv => whnf)
    refine ⟨_, _, Ent.trans (HEnt.ent (HEnt.trans (HEnt.close [0, 1] 0 s.H ?_ ?_) (HEnt.close [3, 2] 3 s.H ?_ ?_))) (Ent.mk' (e' := [(0, .ptr 1 0)]) (H' := ⟨2, [(0, .sem (Nest s.H)), (1, .sem (Nest s.H))]⟩) [some 0, some 3] ?_ ?_ ?_), (), rfl, rfl⟩
    · kernel_rfl
    · repeat' first | exact trivial | refine ⟨rfl, ?_⟩
    · kernel_rfl
    · repeat' first | exact trivial | refine ⟨rfl, ?_⟩
    · kernel_rfl
    · exact ⟨AVE.refl _, trivial⟩
    · (repeat' first | exact trivial | refine ⟨⟨_, rfl, ChE.refl _⟩, ?_⟩)
end
end Go.Proofs.YtmlhaellfpbcgaaDoor.Ax
