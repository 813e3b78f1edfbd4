/-
  Chapter 19: slices.SortFunc at snapshots, as the abstract machine calls it.
-/
import Derived.Test.YtoofmkkcaoojiaaSa
import Derived.Test.YtoofmkkcaoojiaaLays19
namespace Go.Proofs.Ytoofmkkcaoojiaa.Ax
open Go.RowKit Go.Sort Go.Shelf
set_option maxRecDepth 100000

def nqF (l : List NQ) (i : Nat) : List IV := [.str (l.getD i ([], 0)).1, .v (.int .u64 (l.getD i ([], 0)).2)]
def encNQ (p : NQ) : List Value := [.string ⟨p.1.toArray⟩, .int .u64 p.2]
theorem encNQ_R {ι : Imm} (l : List NQ) (i : Nat) : IV.Rs ι (nqF l i) (encNQ (l.getD i ([], 0))) := by
  simp only [nqF, encNQ, IV.Rs, IV.R]
  exact ⟨_, _, rfl, rfl, _, _, rfl, rfl, rfl⟩
theorem encNQ_of {ι : Imm} {l : List NQ} {i : Nat} {vs : List Value} (h : IV.Rs ι (nqF l i) vs) : vs = encNQ (l.getD i ([], 0)) := by
  simp only [nqF, IV.Rs, IV.R] at h
  obtain ⟨u, us, rfl, rfl, u', us', rfl, rfl, rfl⟩ := h
  rfl
instance : Inhabited NQ := ⟨([], 0)⟩
theorem getD_bang (l : List NQ) (i : Nat) (h : i < l.length) : l.toArray[i]! = l.getD i ([], 0) := by
  simp [List.getD, h]
/-- The row of an array of pairs, behind a sort. -/
theorem row_of_put {w : World} {b n : Nat} {e : TypeId} {arr : Array Value} {fr : Nat × Nat} {d : List NQ} {os : Array Obj} (hb : w.heap[b]? = some (.cells arr e fr)) (hn : d.length * 2 ≤ arr.size) :
    ∃ arr', (grow (putRowK encNQ 2 (Sort.ahead w n) b 0 d.toArray) os).heap[b]? = some (.cells arr' e fr) ∧ arr'.size = arr.size ∧ ∀ i, i < d.length → ∀ j u, (encNQ (d.getD i ([], 0)))[j]? = some u → arr'[i * 2 + j]? = some u := by
  have hlt : b < w.heap.size := (Array.getElem?_eq_some_iff.1 hb).1
  refine ⟨putCells id 0 (flatK encNQ 2 d.toArray) arr, ?_, by simp [putCells], fun i hi j u hj => ?_⟩
  · have h1 : (putRowK encNQ 2 (Sort.ahead w n) b 0 d.toArray).heap[b]? = some (.cells (putCells id 0 (flatK encNQ 2 d.toArray) arr) e fr) := by
      simp [putRowK, putRow, mapBlock, Array.getElem?_modify, Sort.ahead, hb, onCells]
    unfold grow
    rw [Array.getElem?_append_left (by
      have := (Array.getElem?_eq_some_iff.1 h1).1
      exact this)]
    exact h1
  · have hj2 : j < 2 := by
      have := (List.getElem?_eq_some_iff.1 hj).1
      simpa [encNQ] using this
    have hlt2 : i * 2 + j < d.length * 2 := by omega
    have ha : ∃ x, arr[i * 2 + j]? = some x := ⟨_, Array.getElem?_eq_getElem (by omega)⟩
    obtain ⟨x, hx⟩ := ha
    simp only [putCells, Array.getElem?_mapIdx, hx, Option.map_some]
    rw [if_pos ⟨by omega, by rw [size_flatK]; simp; omega⟩, id, Nat.sub_zero, get_flatK _ _ _ _ (by simpa using hlt2), show (i * 2 + j) / 2 = i by omega, show (i * 2 + j) % 2 = j by omega, getD_bang d i hi]
    rw [← hj, List.getElem!_eq_getElem?_getD, hj]
    rfl
theorem closure_ok (x y : NQ) (W : World) : Calls Go.Proofs.Try.prog 27 #[.agg (encNQ x).toArray, .agg (encNQ y).toArray] W fun e w' => e = .returned (.int .i64 (Lib.compareBytes x.1 y.1)) ∧ ∃ q os', w' = grow (W.drewN q) os' := by
  have hcon := fun W' => Any.strings_Compare Try.strcmp ⟨x.1.toArray⟩ ⟨y.1.toArray⟩ W'
  change ∀ W', Calls Go.Proofs.Try.prog 28 _ _ (fun e w' => e = .returned (.int .i64 (Lib.compareBytes x.1 y.1)) ∧ w' = W') at hcon
  unfold encNQ
  generalize Lib.compareBytes x.1 y.1 = r at hcon ⊢
  go_enter Go.Proofs.Try.func27, Go.Proofs.Try.ntmps27
  go_wp2_with (go_at_call 28; refine (hcon _).mono ?_; rintro e w' ⟨rfl, rfl⟩)
  go_ret
  exact ⟨rfl, 0, _, by rw [alloc_eq_grow, alloc_eq_grow, grow_grow]; rfl⟩
theorem ltOf_nq : (ltOf fun x y : NQ => Lib.compareBytes x.1 y.1) = nqLt := by
  funext x y
  unfold ltOf nqLt
  exact decide_eq_decide.2 (cmpB_lt _ _)
/-- **slices.SortFunc of snapshots by names.** -/
theorem sortF_ok (l : List NQ) (hdup : (l.map (·.1)).Nodup) (hlen : l.length ≤ 1000) : AFn Go.Proofs.Try.prog 26 [.row 0 2 0 l.length, .iv (.v (.func (.func 27) ⟨[]⟩ ⟨[]⟩))] ⟨1, [(0, .rowc 38 2 l.length (nqF l))]⟩ (fun _ : Unit => .tup []) (fun _ => ⟨1, [(0, .rowc 38 2 (listS l).length (nqF (listS l)))]⟩) := by
  refine ⟨⟨_, Go.Proofs.Try.func26, by kernel_rfl, by kernel_rfl⟩, fun ρ ι w cargs hG hS hr => ?_⟩
  simp only [AV.Rs, AV.R, IV.R] at hr
  obtain ⟨u, us, rfl, ⟨A, c, rfl, hc1, hc2, hc3⟩, u', us', rfl, rfl, rfl⟩ := hr
  obtain ⟨hv, g1, g2⟩ := hS.hv (k := 0) (c := .rowc 38 2 l.length (nqF l)) rfl
  rcases Nat.eq_zero_or_pos l.length with h0 | h0
  · have hl : l = [] := List.eq_nil_of_length_eq_zero h0
    subst hl
    have hC := AnyF.slices_SortFunc_none (P := Go.Proofs.Try.prog) Try.sortfn A c (.func (.func 27) #[] #[]) w
    refine Calls.mono hC fun e w' ⟨he, hw⟩ => ?_
    subst he hw
    exact ⟨.tup [], _, ρ, ι, ⟨(), rfl, by simp [listS, sortS]⟩, by simp [AV.R, AV.Rs], hS, Went.refl _ _ _ _⟩
  · obtain ⟨hv', b, q1, q2, rfl, q4⟩ := hc3 (by omega)
    rw [g1] at q1; injection q1 with q1; subst q1
    rcases g2 with ⟨k1, _, _⟩ | ⟨b', arr, fr, k1, k2, k3, k4, k5, k6, k7⟩
    · rw [q2] at k1; cases k1
    rw [q2] at k1; injection k1 with k1; subst k1
    have hlt : b < w.heap.size := (Array.getElem?_eq_some_iff.1 k3).1
    have hsz : l.toArray.size = l.length := by simp
    have hH : HoldsK encNQ 2 w b 0 l.toArray := fun j hj => by
      rw [size_flatK, hsz] at hj
      have hi : j / 2 < l.length := by omega
      obtain ⟨vs, v1, v2, v3, v4⟩ := k7 (j / 2) hi
      have hvs := encNQ_of v1
      subst hvs
      rw [get_flatK _ _ _ _ (by rw [hsz]; exact hj), getD_bang l _ hi]
      have hjm : j % 2 < (encNQ (l.getD (j / 2) ([], 0))).length := by rw [v2]; omega
      have h5 := v4 (j % 2) _ (List.getElem?_eq_getElem hjm)
      rw [show j / 2 * 2 + j % 2 = j by omega] at h5
      refine ⟨?_, ?_⟩
      · rw [Nat.zero_add]
        rw [cellOf k3 h5]
        simp only [List.getElem!_eq_getElem?_getD, List.getElem?_eq_getElem hjm, Option.getD_some]
        rfl
      · simp only [World.frozen?, k3]
        have := k5.2 j (by omega)
        simpa using this
    have eg : ∀ args w, (callFunc 27 args).run Go.Proofs.Try.prog w = .ok (.enter 27 args) w := enters_of Go.Proofs.Try.func27 (by kernel_rfl) rfl
    have hC := AnyQ.slices_SortFunc Try.sortfn 2 Try.isAgg38 Try.sizeOf38 encNQ (fun _ => rfl) (fun x v hv => by simp [encNQ] at hv; rcases hv with rfl | rfl <;> rfl) (fun x y => Lib.compareBytes x.1 y.1) (by rw [ltOf_nq]; exact nqLt_swo) 27 #[] b 0 c l.toArray w eg (fun _ _ _ _ x y => closure_ok x y _) hH hlt (by rw [hsz]; omega)
    rw [hsz] at hC
    refine Calls.mono (show Calls Go.Proofs.Try.prog 26 _ _ _ from hC) fun e w' ⟨he, d', n, os, hp, hs, hw⟩ => ?_
    subst he
    rw [ltOf_nq] at hs
    have hd : d'.toList = listS l := by
      refine listS_of hdup ?_ ?_
      · have h1 := hp.2.2
        have h2 := hp.1
        have e1 : (d'.extract 0 l.length) = d' := by rw [← hsz, ← h2]; simp
        have e2 : (l.toArray.extract 0 l.length) = l.toArray := by rw [← hsz]; simp
        rw [e1, e2] at h1
        simpa using h1
      · rw [List.pairwise_iff_getElem]
        intro i j hi hj hij
        have h1 := hs i j (Nat.zero_le _) hij (by have := hp.1; rw [hsz] at this; simp at hj; omega)
        have hj' : j < d'.size := by simpa using hj
        have hi' : i < d'.size := by simpa using hi
        rw [getElem!_pos d' j hj', getElem!_pos d' i hi'] at h1
        simpa using h1
    have hd2 : d' = (listS l).toArray := by rw [← hd]
    subst hd2
    have hll := listS_length l
    obtain ⟨arr', r1, r2, r3⟩ := row_of_put (n := n) (os := os) (d := listS l) k3 (by rw [hll]; exact k6)
    have ht : Touch hv.foot w w' := by
      subst hw
      refine ⟨rfl, rfl, rfl, ?_, fun k hk hs => ?_⟩
      · simp [sortWorldK, grow, putRowK, putRow, mapBlock, Sort.ahead]
      · have hkb : k ≠ b := fun e => hs ((k2 k).2 e)
        simp only [sortWorldK, grow]
        rw [Array.getElem?_append_left (by simp [putRowK, putRow, mapBlock, Sort.ahead]; exact hk)]
        simp [putRowK, putRow, mapBlock, Array.getElem?_modify, Sort.ahead, Ne.symm hkb]
    obtain ⟨t1, t2⟩ := hS.turn (c' := .rowc 38 2 (listS l).length (nqF (listS l))) rfl g1 ht (.inr ⟨b, arr', fr, q2, k2, by rw [hw]; exact r1, r2.trans k4, by rw [r2]; exact k5, by rw [r2, hll]; exact k6, fun i hi => ⟨encNQ ((listS l).getD i ([], 0)), encNQ_R _ _, rfl, fun v hv => by simp [encNQ] at hv; rcases hv with rfl | rfl <;> rfl, fun j u hj => r3 i hi j u hj⟩⟩)
    exact ⟨.tup [], _, ρ, ι, ⟨(), rfl, rfl⟩, by simp [AV.R, AV.Rs], t1, t2⟩
end Go.Proofs.Ytoofmkkcaoojiaa.Ax
