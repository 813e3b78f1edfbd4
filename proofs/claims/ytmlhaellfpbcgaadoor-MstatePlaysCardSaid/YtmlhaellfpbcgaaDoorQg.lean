/-
  Chapter 23: the document's snapshots; its edits.
-/
import Derived.Test.YtmlhaellfpbcgaaDoorQe
namespace Go.Proofs.YtmlhaellfpbcgaaDoor.Ax
open Go.RowKit
set_option maxRecDepth 100000
abbrev OP := List UInt8 × Pin
def od : OP := ([], (0, 0))
def oF (l : List OP) (i : Nat) : List IV := [.str (l.getD i od).1, .v (.int .u64 (l.getD i od).2.1), .v (.int .u64 (l.getD i od).2.2)]
@[reducible] def SD.R (s : SD) : AH := ⟨3, [(0, .cells 46 [AV.int .u64 s.base, .row 1 3 0 s.sn.l.length, AV.int .u64 s.sn.n, .row 2 5 0 s.sealed.length, AV.int .u32 s.op]), (1, .rowc 98 3 s.sn.l.length (oF s.sn.l)), (2, .rowc 49 5 s.sealed.length (slF s.sealed))]⟩
def SD.snW (s : SD) (n : SN) : SD := ⟨s.base, n, s.sealed, s.op⟩
theorem od_mem {l : List OP} {i : Nat} (h : i < l.length) : l.getD i od ∈ l := by
  simp only [List.getD, List.getElem?_eq_getElem h, Option.getD_some]
  exact List.getElem_mem h
theorem od_get {l : List OP} {i : Nat} (h : i < l.length) : l.getD i od = l[i] := by simp [List.getD, h]
/-! Places. -/
def plc (l : List OP) (x : List UInt8) : Int := if l.findIdx (fun p => decide (p.1 = x)) < l.length then (l.findIdx (fun p => decide (p.1 = x)) : Nat) else -1
theorem plc_at {l : List OP} {x : List UInt8} {i : Nat} (hi : i < l.length) (h1 : (l.getD i od).1 = x) (h2 : ∀ j, j < i → (l.getD j od).1 ≠ x) : plc l x = i := by
  have e : l.findIdx (fun p => decide (p.1 = x)) = i := by
    rw [List.findIdx_eq hi]
    refine ⟨by rw [← od_get hi]; simpa using h1, fun j hj => ?_⟩
    have := h2 j hj
    rw [od_get (by omega)] at this
    simpa using this
  unfold plc
  rw [e, if_pos hi]
theorem plc_none {l : List OP} {x : List UInt8} (h : ∀ j, j < l.length → (l.getD j od).1 ≠ x) : plc l x = -1 := by
  unfold plc
  refine if_neg fun hlt => ?_
  have := List.findIdx_getElem (w := hlt)
  exact h _ hlt (by rw [od_get hlt]; simpa using this)
theorem plc_find {l : List OP} (hd : (l.map (·.1)).Nodup) {x : List UInt8} {p : Pin} (h : afind l x = some p) : ∃ k, k < l.length ∧ plc l x = (k : Nat) ∧ l.getD k od = (x, p) ∧ l.take k ++ l.drop (k + 1) = adel l x := by
  have hm := afind_mem h
  obtain ⟨k, hk, e⟩ := List.getElem_of_mem hm
  have hpw := List.pairwise_iff_getElem.1 (List.pairwise_map.1 hd)
  have ne : ∀ j (hj : j < l.length), j ≠ k → l[j].1 ≠ x := fun j hj hjk e2 => by
    have ex : l[k].1 = x := by rw [e]
    rcases Nat.lt_or_gt_of_ne hjk with h1 | h1
    · exact hpw j k hj hk h1 (by rw [e2, ex])
    · exact hpw k j hk hj h1 (by rw [e2, ex])
  refine ⟨k, hk, plc_at hk (by rw [od_get hk, e]) (fun j hj => by rw [od_get (by omega)]; exact ne j (by omega) (by omega)), by rw [od_get hk, e], ?_⟩
  unfold adel
  have e0 : l = l.take k ++ (x, p) :: l.drop (k + 1) := by
    rw [← e, List.getElem_cons_drop hk, List.take_append_drop]
  conv => rhs; rw [e0]
  rw [List.filter_append, List.filter_cons_of_neg (by simp)]
  congr 1
  · refine (List.filter_eq_self.2 fun q hq => ?_).symm
    obtain ⟨j, hj, e1⟩ := List.getElem_of_mem hq
    rw [List.length_take] at hj
    rw [List.getElem_take] at e1
    have := ne j (by omega) (by omega)
    rw [e1] at this
    simpa using this
  · refine (List.filter_eq_self.2 fun q hq => ?_).symm
    obtain ⟨j, hj, e1⟩ := List.getElem_of_mem hq
    rw [List.length_drop] at hj
    rw [List.getElem_drop] at e1
    have := ne (k + 1 + j) (by omega) (by omega)
    rw [e1] at this
    simpa using this
theorem plc_find_none {l : List OP} {x : List UInt8} (h : afind l x = none) : plc l x = -1 := by
  rw [afind_none] at h
  refine plc_none fun j hj e => h ?_
  rw [od_get hj] at e
  exact List.mem_map.2 ⟨_, List.getElem_mem hj, e⟩
theorem rmay_ok (x : List UInt8) : AFn Go.Proofs.Tryd.prog 50 [.str x] ⟨0, []⟩ (fun _ : Unit => AV.bool (okN x)) (fun _ => ⟨0, []⟩) := by
  refine ACall.walk (C := cfg 11 0) (cfgOk _ _) [] (fn := Go.Proofs.Tryd.f50) (by kernel_rfl) (by kernel_rfl) rfl (by kernel_rfl) (by kernel_rfl) rfl rfl ?_
  (conv => whnf); repeat ((first | (refine And.intro ?_ ?_; (focus ((repeat' (first | exact trivial | refine And.intro rfl ?_)); done))) | (refine And.intro ?_ ?_; (focus (first | omega | (dsimp -iota only; omega) | (simp -iota; omega) | (simp -iota; done) | decide)))); conv => whnf)
  refine branchB_of (fun h => ?_) (fun h => ?_) <;> (first | replace h := not_t h | replace h := not_f h | skip) <;> (first | replace h := of_decide_eq_true h | replace h := of_decide_eq_false h | skip) <;> (first | replace h := Classical.not_not.1 h | skip) <;> (try dsimp only at h)
  · (conv => whnf); repeat ((first | (refine And.intro ?_ ?_; (focus ((repeat' (first | exact trivial | refine And.intro rfl ?_)); done))) | (refine And.intro ?_ ?_; (focus (first | omega | (dsimp -iota only; omega) | (simp -iota; omega) | (simp -iota; done) | decide)))); conv => whnf)
    refine ⟨(), ?_, rfl⟩
    congr 3
    exact decide_eq_decide.2 (by omega)
  · (conv => whnf); repeat ((first | (refine And.intro ?_ ?_; (focus ((repeat' (first | exact trivial | refine And.intro rfl ?_)); done))) | (refine And.intro ?_ ?_; (focus (first | omega | (dsimp -iota only; omega) | (simp -iota; omega) | (simp -iota; done) | decide)))); conv => whnf)
    refine ⟨(), ?_, rfl⟩
    congr 3
    exact (decide_eq_false (by omega)).symm
theorem oF_push {e : Nat} {l : List OP} {p : OP} {g : Nat → List IV} (hg : g 0 = [.str p.1, .v (.int .u64 p.2.1), .v (.int .u64 p.2.2)]) : ChE (.rowc e 3 (l.length + 1) fun j => if j < l.length then oF l j else g (j - l.length)) (.rowc e 3 (l ++ [p]).length (oF (l ++ [p]))) := by
  refine ChE.row (by simp) fun j hj => ?_
  by_cases h : j < l.length
  · simp only [if_pos h]
    unfold oF
    simp [List.getD, List.getElem?_append_left, h]
  · have : j = l.length := by simp at hj; omega
    subst this
    simp only [if_neg h, Nat.sub_self]
    rw [hg]
    simp [oF]
theorem oF_cut {l : List OP} {k : Nat} (hk : k < l.length) {j : Nat} : oF (l.take k ++ l.drop (k + 1)) j = if j < k then oF l j else oF l (j + 1) := by
  unfold oF
  have e : (l.take k ++ l.drop (k + 1)).getD j od = if j < k then l.getD j od else l.getD (j + 1) od := by
    by_cases h : j < k
    · rw [if_pos h]
      simp only [List.getD]
      rw [List.getElem?_append_left (by rw [List.length_take]; omega), List.getElem?_take, if_pos h]
    · rw [if_neg h]
      simp only [List.getD]
      rw [List.getElem?_append_right (by rw [List.length_take]; omega), List.getElem?_drop, List.length_take, show k + 1 + (j - min k l.length) = j + 1 by omega]
  rw [e]
  split <;> rfl
section
variable (s : SD)
theorem place_in (hl : s.sn.l.length ≤ 1000) (x : List UInt8) : AFn Go.Proofs.Tryd.prog 49 [.ptr 0 1, .str x] s.R (fun _ : Unit => AV.int .i64 (plc s.sn.l x)) (fun _ => s.R) := by
  refine ACall.fin ?_
  refine ACall.walk (C := cfg 26 3) (cfgOk _ _) [] (fn := Go.Proofs.Tryd.f49) (by kernel_rfl) (by kernel_rfl) rfl (by kernel_rfl) (by kernel_rfl) rfl rfl ?_
  (conv => whnf); repeat ((first | (refine And.intro ?_ ?_; (focus ((repeat' (first | exact trivial | refine And.intro rfl ?_)); done))) | (refine And.intro ?_ ?_; (focus (first | omega | (dsimp -iota only; omega) | (simp -iota; omega) | (simp -iota; done) | decide)))); conv => whnf)
  refine AWP.loop (X := { y : Nat // y ≤ s.sn.l.length ∧ ∀ j, j < y → (s.sn.l.getD j od).1 ≠ x }) (fun y => [(0, .ptr 0 1), (1, .str x), (5, AV.int .i64 y.1)]) (fun y => s.R) (fun y => s.sn.l.length - y.1) (⟨0, by omega, fun j hj => by omega⟩) ?_ fun y => AWP.go (S := []) (cfgOk _ _) (.of_eq (by kernel_rfl)) ?_
  · exact Ent.mk' [some 0, some 1, some 2] (by kernel_rfl) (by repeat' first | exact trivial | refine And.intro (AVE.refl _) ?_ | refine And.intro (AVE.int (by first | rfl | omega | (dsimp only; omega) | (simp -iota; omega) | (simp -iota; done))) ?_ | refine And.intro (AVE.bool (by assumption)) ?_ | refine And.intro (AVE.len (by first | rfl | omega | (dsimp only; omega) | (simp -iota; omega) | (simp -iota; done))) ?_) (by repeat' (first | exact trivial | refine ⟨⟨_, rfl, ChE.refl _⟩, ?_⟩))
  · obtain ⟨i, hi, hj⟩ := y
    have hix : ((i : Nat) : Int).toNat = i := by simp
    (conv => whnf); repeat ((first | (refine And.intro ?_ ?_; (focus ((repeat' (first | exact trivial | refine And.intro rfl ?_)); done))) | (refine And.intro ?_ ?_; (focus (first | omega | (dsimp -iota only; omega) | (simp -iota; omega) | (simp -iota; done) | decide)))); conv => whnf)
    refine branchB_of (fun h => ?_) (fun h => ?_) <;> (first | replace h := not_t h | replace h := not_f h | skip) <;> (first | replace h := of_decide_eq_true h | replace h := of_decide_eq_false h | skip) <;> (first | replace h := Classical.not_not.1 h | skip) <;> (try dsimp only at h)
    · (conv => whnf); repeat ((first | (refine And.intro ?_ ?_; (focus ((repeat' (first | exact trivial | refine And.intro rfl ?_)); done))) | (refine And.intro ?_ ?_; (focus (first | omega | (dsimp -iota only; omega) | (simp -iota; omega) | (simp -iota; done) | decide)))); conv => whnf)
      refine branchB_of (fun g => ?_) (fun g => ?_) <;> (first | replace g := not_t g | replace g := not_f g | skip) <;> (first | replace g := of_decide_eq_true g | replace g := of_decide_eq_false g | skip) <;> (first | replace g := Classical.not_not.1 g | skip) <;> (try dsimp only at g)
      · have e := plc_at (l := s.sn.l) (x := x) (i := i) (by omega) (by simpa [hix] using g) hj
        rw [e]
        (conv => whnf); repeat ((first | (refine And.intro ?_ ?_; (focus ((repeat' (first | exact trivial | refine And.intro rfl ?_)); done))) | (refine And.intro ?_ ?_; (focus (first | omega | (dsimp -iota only; omega) | (simp -iota; omega) | (simp -iota; done) | decide)))); conv => whnf)
        refine ⟨_, _, Ent.mk' (e' := [(0, AV.int .i64 (i : Nat))]) (H' := s.R) [some 0, some 1, some 2] (by kernel_rfl) ?_ ?_, (), rfl, rfl⟩
        · exact ⟨AVE.refl _, trivial⟩
        · (repeat' first | exact trivial | refine ⟨⟨_, rfl, ChE.refl _⟩, ?_⟩)
      · (conv => whnf); repeat ((first | (refine And.intro ?_ ?_; (focus ((repeat' (first | exact trivial | refine And.intro rfl ?_)); done))) | (refine And.intro ?_ ?_; (focus (first | omega | (dsimp -iota only; omega) | (simp -iota; omega) | (simp -iota; done) | decide)))); conv => whnf)
        refine ⟨⟨i + 1, by omega, fun j hj' => ?_⟩, Ent.mk' [some 0, some 1, some 2] (by kernel_rfl) (by repeat' first | exact trivial | refine And.intro (AVE.refl _) ?_ | refine And.intro (AVE.int (by first | rfl | omega | (dsimp only; omega) | (simp -iota; omega) | (simp -iota; done))) ?_ | refine And.intro (AVE.bool (by assumption)) ?_ | refine And.intro (AVE.len (by first | rfl | omega | (dsimp only; omega) | (simp -iota; omega) | (simp -iota; done))) ?_) (by repeat' (first | exact trivial | refine ⟨⟨_, rfl, ChE.refl _⟩, ?_⟩)), ?_⟩
        · by_cases e : j = i
          · subst e
            simpa [hix] using g
          · exact hj j (by omega)
        · show s.sn.l.length - (i + 1) < s.sn.l.length - i
          omega
    · have e := plc_none (l := s.sn.l) (x := x) fun j hjl => hj j (by omega)
      rw [e]
      (conv => whnf); repeat ((first | (refine And.intro ?_ ?_; (focus ((repeat' (first | exact trivial | refine And.intro rfl ?_)); done))) | (refine And.intro ?_ ?_; (focus (first | omega | (dsimp -iota only; omega) | (simp -iota; omega) | (simp -iota; done) | decide)))); conv => whnf)
      refine ⟨_, _, Ent.mk' (e' := [(0, AV.int .i64 (-1))]) (H' := s.R) [some 0, some 1, some 2] (by kernel_rfl) ?_ ?_, (), rfl, rfl⟩
      · exact ⟨AVE.refl _, trivial⟩
      · (repeat' first | exact trivial | refine ⟨⟨_, rfl, ChE.refl _⟩, ?_⟩)
theorem radd_ok (hs : s.sn.Ok) (x : List UInt8) (q : Nat) (hq : q ≤ 18446744073709551615) : AFn Go.Proofs.Tryd.prog 34 [.ptr 0 1, .str x, AV.int .u64 q] (one s.R) (fun _ : Unit => .tup [AV.int .u64 (s.sn.addM x q), AV.int .i64 (s.sn.addE x q)]) (fun _ => one (s.snW (s.sn.add x q)).R) := by
  have hn := hs.n
  have hl := hs.len
  refine ACall.fin ?_
  refine ACall.walkE (C := cfg 50 1) (cfgOk _ _) sch34 (fn := Go.Proofs.Tryd.f34) (by kernel_rfl) (by kernel_rfl) rfl (by kernel_rfl) (by kernel_rfl) rfl rfl (H1 := s.R) (fun _ _ => (HEnt.openOne (s.R) rfl rfl).ent) fun hlen hheap => ?_
  (conv => whnf); repeat ((first | (refine And.intro ?_ ?_; (focus ((repeat' (first | exact trivial | refine And.intro rfl ?_)); done))) | (refine And.intro ?_ ?_; (focus (first | omega | (dsimp -iota only; omega) | (simp -iota; omega) | (simp -iota; done) | decide)))); conv => whnf)
  refine AFn.use [] (rmay_ok x) (by kernel_rfl) rfl (by repeat' first | exact trivial | refine ⟨rfl, ?_⟩) fun _ => ?_
  (conv => whnf); repeat ((first | (refine And.intro ?_ ?_; (focus ((repeat' (first | exact trivial | refine And.intro rfl ?_)); done))) | (refine And.intro ?_ ?_; (focus (first | omega | (dsimp -iota only; omega) | (simp -iota; omega) | (simp -iota; done) | decide)))); conv => whnf)
  cases hk : okN x with
  | false =>
    have ha : s.sn.addE x q = 32 := by simp [SN.addE, hk]
    have e1 : s.sn.addM x q = 0 := by simp [SN.addM, ha]
    have e2 : s.sn.add x q = s.sn := by simp [SN.add, ha]
    rw [e1, e2, ha]
    (conv => whnf); repeat ((first | (refine And.intro ?_ ?_; (focus ((repeat' (first | exact trivial | refine And.intro rfl ?_)); done))) | (refine And.intro ?_ ?_; (focus (first | omega | (dsimp -iota only; omega) | (simp -iota; omega) | (simp -iota; done) | decide)))); conv => whnf)
    refine ⟨_, _, Ent.shutAt (r2 := .tup [AV.int .u64 0, AV.int .i64 32]) [some 0, some 1, some 2] (s.R) rfl (by kernel_rfl) (AVE.of_eq ?_) ?_ (by kernel_rfl) (by kernel_rfl) (by repeat' first | exact trivial | refine ⟨rfl, ?_⟩) rfl, (), ?_, ?_⟩
    all_goals first | rfl | (repeat' first | exact trivial | refine ⟨⟨_, rfl, ChE.refl _⟩, ?_⟩)
  | true =>
    (conv => whnf); repeat ((first | (refine And.intro ?_ ?_; (focus ((repeat' (first | exact trivial | refine And.intro rfl ?_)); done))) | (refine And.intro ?_ ?_; (focus (first | omega | (dsimp -iota only; omega) | (simp -iota; omega) | (simp -iota; done) | decide)))); conv => whnf)
    refine branchB_of (fun g => ?_) (fun g => ?_) <;> (first | replace g := not_t g | replace g := not_f g | skip) <;> (first | replace g := of_decide_eq_true g | replace g := of_decide_eq_false g | skip) <;> (first | replace g := Classical.not_not.1 g | skip) <;> (try dsimp only at g)
    · have ha : s.sn.addE x q = 1 := by simp [SN.addE, hk, show 1099511627776 < q from by omega]
      have e1 : s.sn.addM x q = 0 := by simp [SN.addM, ha]
      have e2 : s.sn.add x q = s.sn := by simp [SN.add, ha]
      rw [e1, e2, ha]
      (conv => whnf); repeat ((first | (refine And.intro ?_ ?_; (focus ((repeat' (first | exact trivial | refine And.intro rfl ?_)); done))) | (refine And.intro ?_ ?_; (focus (first | omega | (dsimp -iota only; omega) | (simp -iota; omega) | (simp -iota; done) | decide)))); conv => whnf)
      refine ⟨_, _, Ent.shutAt (r2 := .tup [AV.int .u64 0, AV.int .i64 1]) [some 0, some 1, some 2] (s.R) rfl (by kernel_rfl) (AVE.of_eq ?_) ?_ (by kernel_rfl) (by kernel_rfl) (by repeat' first | exact trivial | refine ⟨rfl, ?_⟩) rfl, (), ?_, ?_⟩
      all_goals first | rfl | (repeat' first | exact trivial | refine ⟨⟨_, rfl, ChE.refl _⟩, ?_⟩)
    · (conv => whnf); repeat ((first | (refine And.intro ?_ ?_; (focus ((repeat' (first | exact trivial | refine And.intro rfl ?_)); done))) | (refine And.intro ?_ ?_; (focus (first | omega | (dsimp -iota only; omega) | (simp -iota; omega) | (simp -iota; done) | decide)))); conv => whnf)
      refine AFn.use [0, 1, 2] (place_in s (by omega) x) (by kernel_rfl) rfl (by repeat' first | exact trivial | refine ⟨rfl, ?_⟩) fun _ => ?_
      (conv => whnf); repeat ((first | (refine And.intro ?_ ?_; (focus ((repeat' (first | exact trivial | refine And.intro rfl ?_)); done))) | (refine And.intro ?_ ?_; (focus (first | omega | (dsimp -iota only; omega) | (simp -iota; omega) | (simp -iota; done) | decide)))); conv => whnf)
      cases hf : afind s.sn.l x with
      | some p =>
        obtain ⟨k, hk1, hk2, _⟩ := plc_find hs.dup hf
        rw [hk2]
        (conv => whnf); repeat ((first | (refine And.intro ?_ ?_; (focus ((repeat' (first | exact trivial | refine And.intro rfl ?_)); done))) | (refine And.intro ?_ ?_; (focus (first | omega | (dsimp -iota only; omega) | (simp -iota; omega) | (simp -iota; done) | decide)))); conv => whnf)
        have ha : s.sn.addE x q = 34 := by simp [SN.addE, hk, hf, show ¬ 1099511627776 < q from by omega]
        have e1 : s.sn.addM x q = 0 := by simp [SN.addM, ha]
        have e2 : s.sn.add x q = s.sn := by simp [SN.add, ha]
        rw [e1, e2, ha]
        (conv => whnf); repeat ((first | (refine And.intro ?_ ?_; (focus ((repeat' (first | exact trivial | refine And.intro rfl ?_)); done))) | (refine And.intro ?_ ?_; (focus (first | omega | (dsimp -iota only; omega) | (simp -iota; omega) | (simp -iota; done) | decide)))); conv => whnf)
        refine ⟨_, _, Ent.shutAt (r2 := .tup [AV.int .u64 0, AV.int .i64 34]) [some 0, some 1, some 2] (s.R) rfl (by kernel_rfl) (AVE.of_eq ?_) ?_ (by kernel_rfl) (by kernel_rfl) (by repeat' first | exact trivial | refine ⟨rfl, ?_⟩) rfl, (), ?_, ?_⟩
        all_goals first | rfl | (repeat' first | exact trivial | refine ⟨⟨_, rfl, ChE.refl _⟩, ?_⟩)
      | none =>
        rw [plc_find_none hf]
        (conv => whnf); repeat ((first | (refine And.intro ?_ ?_; (focus ((repeat' (first | exact trivial | refine And.intro rfl ?_)); done))) | (refine And.intro ?_ ?_; (focus (first | omega | (dsimp -iota only; omega) | (simp -iota; omega) | (simp -iota; done) | decide)))); conv => whnf)
        refine branchB_of (fun g2 => ?_) (fun g2 => ?_) <;> (first | replace g2 := not_t g2 | replace g2 := not_f g2 | skip) <;> (first | replace g2 := of_decide_eq_true g2 | replace g2 := of_decide_eq_false g2 | skip) <;> (first | replace g2 := Classical.not_not.1 g2 | skip) <;> (try dsimp only at g2)
        · have ha : s.sn.addE x q = 39 := by simp [SN.addE, hk, hf, show ¬ 1099511627776 < q from by omega, show 16 ≤ s.sn.l.length from by omega]
          have e1 : s.sn.addM x q = 0 := by simp [SN.addM, ha]
          have e2 : s.sn.add x q = s.sn := by simp [SN.add, ha]
          rw [e1, e2, ha]
          (conv => whnf); repeat ((first | (refine And.intro ?_ ?_; (focus ((repeat' (first | exact trivial | refine And.intro rfl ?_)); done))) | (refine And.intro ?_ ?_; (focus (first | omega | (dsimp -iota only; omega) | (simp -iota; omega) | (simp -iota; done) | decide)))); conv => whnf)
          refine ⟨_, _, Ent.shutAt (r2 := .tup [AV.int .u64 0, AV.int .i64 39]) [some 0, some 1, some 2] (s.R) rfl (by kernel_rfl) (AVE.of_eq ?_) ?_ (by kernel_rfl) (by kernel_rfl) (by repeat' first | exact trivial | refine ⟨rfl, ?_⟩) rfl, (), ?_, ?_⟩
          all_goals first | rfl | (repeat' first | exact trivial | refine ⟨⟨_, rfl, ChE.refl _⟩, ?_⟩)
        · have ha : s.sn.addE x q = 0 := by simp [SN.addE, hk, hf, show ¬ 1099511627776 < q from by omega, show ¬ 16 ≤ s.sn.l.length from by omega]
          have e1 : s.sn.addM x q = s.sn.n + 1 := by simp [SN.addM, ha]
          rw [e1, add_l s.sn ha, ha]
          (conv => whnf); repeat ((first | (refine And.intro ?_ ?_; (focus ((repeat' (first | exact trivial | refine And.intro rfl ?_)); done))) | (refine And.intro ?_ ?_; (focus (first | omega | (dsimp -iota only; omega) | (simp -iota; omega) | (simp -iota; done) | decide)))); conv => whnf)
          refine ⟨_, _, Ent.shutAt (r2 := .tup [AV.int .u64 (s.sn.n + 1 : Nat), AV.int .i64 0]) [some 0, some 4, some 2] ((s.snW ⟨s.sn.l ++ [(x, (q, s.sn.n + 1))], s.sn.n + 1⟩).R) rfl (by kernel_rfl) (AVE.of_eq ?_) ?_ (by kernel_rfl) (by kernel_rfl) (by repeat' first | exact trivial | refine ⟨rfl, ?_⟩) rfl, (), ?_, ?_⟩
          all_goals first | rfl | exact ⟨⟨_, rfl, ChE.cells ⟨AVE.refl _, AVE.len (by simp [SD.snW]), AVE.refl _, AVE.refl _, AVE.refl _, rfl⟩⟩, ⟨_, rfl, oF_push (p := (x, (q, s.sn.n + 1))) rfl⟩, ⟨_, rfl, ChE.refl _⟩, trivial⟩
theorem findE_eq {x : List UInt8} {p : Pin} (hk : okN x = true) (h : afind s.sn.l x = some p) : s.sn.findE x = 0 := by simp [SN.findE, hk, h]
theorem rdrop_ok (hs : s.sn.Ok) (x : List UInt8) : AFn Go.Proofs.Tryd.prog 35 [.ptr 0 1, .str x] (one s.R) (fun _ : Unit => AV.int .i64 (s.sn.findE x)) (fun _ => one (s.snW (s.sn.drop x)).R) := by
  have hl := hs.len
  refine ACall.fin ?_
  refine ACall.walkE (C := cfg 35 1) (cfgOk _ _) [] (fn := Go.Proofs.Tryd.f35) (by kernel_rfl) (by kernel_rfl) rfl (by kernel_rfl) (by kernel_rfl) rfl rfl (H1 := s.R) (fun _ _ => (HEnt.openOne (s.R) rfl rfl).ent) fun hlen hheap => ?_
  (conv => whnf); repeat ((first | (refine And.intro ?_ ?_; (focus ((repeat' (first | exact trivial | refine And.intro rfl ?_)); done))) | (refine And.intro ?_ ?_; (focus (first | omega | (dsimp -iota only; omega) | (simp -iota; omega) | (simp -iota; done) | decide)))); conv => whnf)
  refine AFn.use [] (rmay_ok x) (by kernel_rfl) rfl (by repeat' first | exact trivial | refine ⟨rfl, ?_⟩) fun _ => ?_
  (conv => whnf); repeat ((first | (refine And.intro ?_ ?_; (focus ((repeat' (first | exact trivial | refine And.intro rfl ?_)); done))) | (refine And.intro ?_ ?_; (focus (first | omega | (dsimp -iota only; omega) | (simp -iota; omega) | (simp -iota; done) | decide)))); conv => whnf)
  cases hk : okN x with
  | false =>
    have e1 : s.sn.findE x = 32 := by simp [SN.findE, hk]
    have e2 : s.sn.drop x = s.sn := by simp [SN.drop, e1]
    rw [e1, e2]
    (conv => whnf); repeat ((first | (refine And.intro ?_ ?_; (focus ((repeat' (first | exact trivial | refine And.intro rfl ?_)); done))) | (refine And.intro ?_ ?_; (focus (first | omega | (dsimp -iota only; omega) | (simp -iota; omega) | (simp -iota; done) | decide)))); conv => whnf)
    refine ⟨_, _, Ent.shutAt (r2 := AV.int .i64 32) [some 0, some 1, some 2] (s.R) rfl (by kernel_rfl) (AVE.of_eq ?_) ?_ (by kernel_rfl) (by kernel_rfl) (by repeat' first | exact trivial | refine ⟨rfl, ?_⟩) rfl, (), ?_, ?_⟩
    all_goals first | rfl | (repeat' first | exact trivial | refine ⟨⟨_, rfl, ChE.refl _⟩, ?_⟩)
  | true =>
    (conv => whnf); repeat ((first | (refine And.intro ?_ ?_; (focus ((repeat' (first | exact trivial | refine And.intro rfl ?_)); done))) | (refine And.intro ?_ ?_; (focus (first | omega | (dsimp -iota only; omega) | (simp -iota; omega) | (simp -iota; done) | decide)))); conv => whnf)
    refine AFn.use [0, 1, 2] (place_in s (by omega) x) (by kernel_rfl) rfl (by repeat' first | exact trivial | refine ⟨rfl, ?_⟩) fun _ => ?_
    (conv => whnf); repeat ((first | (refine And.intro ?_ ?_; (focus ((repeat' (first | exact trivial | refine And.intro rfl ?_)); done))) | (refine And.intro ?_ ?_; (focus (first | omega | (dsimp -iota only; omega) | (simp -iota; omega) | (simp -iota; done) | decide)))); conv => whnf)
    cases hf : afind s.sn.l x with
    | none =>
      rw [plc_find_none hf]
      have e1 : s.sn.findE x = 33 := by simp [SN.findE, hk, hf]
      have e2 : s.sn.drop x = s.sn := by simp [SN.drop, e1]
      rw [e1, e2]
      (conv => whnf); repeat ((first | (refine And.intro ?_ ?_; (focus ((repeat' (first | exact trivial | refine And.intro rfl ?_)); done))) | (refine And.intro ?_ ?_; (focus (first | omega | (dsimp -iota only; omega) | (simp -iota; omega) | (simp -iota; done) | decide)))); conv => whnf)
      refine ⟨_, _, Ent.shutAt (r2 := AV.int .i64 33) [some 0, some 1, some 2] (s.R) rfl (by kernel_rfl) (AVE.of_eq ?_) ?_ (by kernel_rfl) (by kernel_rfl) (by repeat' first | exact trivial | refine ⟨rfl, ?_⟩) rfl, (), ?_, ?_⟩
      all_goals first | rfl | (repeat' first | exact trivial | refine ⟨⟨_, rfl, ChE.refl _⟩, ?_⟩)
    | some p =>
      obtain ⟨k, hk1, hk2, hk3, hk4⟩ := plc_find hs.dup hf
      have e1 : s.sn.findE x = 0 := findE_eq s hk hf
      have e2 : s.sn.drop x = ⟨adel s.sn.l x, s.sn.n⟩ := if_pos e1
      have kx : ((k : Nat) : Int).toNat = k := by simp
      have kx1 : ((k : Int) + 1).toNat = k + 1 := by omega
      have kn : ((s.sn.l.length : Nat) : Int).toNat = s.sn.l.length := by simp
      rw [hk2, e1, e2]
      (conv => whnf); repeat ((first | (refine And.intro ?_ ?_; (focus ((repeat' (first | exact trivial | refine And.intro rfl ?_)); done))) | (refine And.intro ?_ ?_; (focus (first | omega | (dsimp -iota only; omega) | (simp -iota; omega) | (simp -iota; done) | decide)))); conv => whnf)
      rw [← hk4]
      refine ⟨_, _, Ent.shutAt (r2 := AV.int .i64 0) [some 0, some 4, some 2] ((s.snW ⟨s.sn.l.take k ++ s.sn.l.drop (k + 1), s.sn.n⟩).R) rfl (by kernel_rfl) (AVE.of_eq ?_) ?_ (by kernel_rfl) (by kernel_rfl) (by repeat' first | exact trivial | refine ⟨rfl, ?_⟩) rfl, (), ?_, ?_⟩
      all_goals first | rfl | exact ⟨⟨_, rfl, ChE.cells ⟨AVE.refl _, AVE.len (by simp [SD.snW]; omega), AVE.refl _, AVE.refl _, AVE.refl _, rfl⟩⟩, ⟨_, rfl, ChE.row (by simp [SD.snW]; omega) fun j hj => by
          show _ = oF (s.sn.l.take k ++ s.sn.l.drop (k + 1)) j
          rw [oF_cut hk1]
          show (if j < ((k : Nat) : Int).toNat - Int.toNat 0 then oF s.sn.l j else oF s.sn.l (0 + ((k : Int) + 1).toNat + (j - (((k : Nat) : Int).toNat - Int.toNat 0)))) = _
          rw [kx, kx1, show Int.toNat 0 = 0 from rfl, Nat.sub_zero, Nat.zero_add]
          by_cases hjk : j < k
          · rw [if_pos hjk, if_pos hjk]
          · rw [if_neg hjk, if_neg hjk, show k + 1 + (j - k) = j + 1 by omega]⟩, ⟨_, rfl, ChE.refl _⟩, trivial⟩
end
abbrev d0 : NQ := ([], 0)
theorem gtr_iff {a b : List UInt8} : (!(Op.bytesLess a b || decide (a = b))) = true ↔ b < a := by
  rw [Go.Proofs.bytesLess_eq]
  simp only [Bool.not_eq_true', Bool.or_eq_false_iff, decide_eq_false_iff_not]
  constructor
  · rintro ⟨h1, h2⟩
    exact Classical.byContradiction fun h => h2 (List.le_antisymm (List.not_lt.1 h) (List.not_lt.1 h1))
  · intro h
    exact ⟨fun h1 => List.lt_irrefl a (List.lt_trans h1 h), fun e => by subst e; exact List.lt_irrefl _ h⟩
theorem gtr_no {a b : List UInt8} (h : (!(Op.bytesLess a b || decide (a = b))) = false) : ¬ b < a := fun h2 => by
  rw [gtr_iff.2 h2] at h
  cases h
def lastOf (N : List NQ) (m : Nat) : List UInt8 := if m = 0 then [] else (N.getD (m - 1) d0).1
structure Ord (l : List OP) (N : List NQ) : Prop where
  lt : ∀ i j, i < j → j < N.length → (N.getD i d0).1 < (N.getD j d0).1
  ne : ∀ j, j < N.length → [] < (N.getD j d0).1
  to : ∀ i, i < l.length → ∃ j, j < N.length ∧ N.getD j d0 = ((l.getD i od).1, (l.getD i od).2.1)
  fro : ∀ j, j < N.length → ∃ i, i < l.length ∧ N.getD j d0 = ((l.getD i od).1, (l.getD i od).2.1)
theorem nil_lt {a : List UInt8} (h : okN a = true) : [] < a := by
  cases a with
  | nil => simp [okN] at h
  | cons x xs => exact List.Lex.nil
theorem d_get {N : List NQ} {i : Nat} (h : i < N.length) : N.getD i d0 = N[i] := by simp [List.getD, h]
theorem ord_of {s : SN} (hs : s.Ok) : Ord s.l s.list := by
  have hnk : (s.nqs.map (·.1)).Nodup := by rw [nqs_keys]; exact hs.dup
  have hp : s.list.Perm s.nqs := listS_perm hnk
  have hpw := List.pairwise_iff_getElem.1 (listS_sorted s.nqs)
  have hnd : (s.list.map (·.1)).Nodup := (hp.map (·.1)).nodup_iff.2 hnk
  have back : ∀ p ∈ s.list, ∃ i, i < s.l.length ∧ p = ((s.l.getD i od).1, (s.l.getD i od).2.1) := fun p h => by
    obtain ⟨q, hq, e⟩ := List.mem_map.1 (hp.mem_iff.1 h)
    obtain ⟨i, hi, e2⟩ := List.getElem_of_mem hq
    exact ⟨i, hi, by rw [od_get hi, e2, ← e]⟩
  refine ⟨fun i j hij hj => ?_, fun j hj => ?_, fun i hi => ?_, fun j hj => ?_⟩
  · have h1 := hpw i j (by show i < s.list.length; omega) hj hij
    simp only [nqLt, decide_eq_false_iff_not, List.not_lt] at h1
    have h2 : (s.list[i]'(by omega)).1 ≠ (s.list[j]).1 := fun e => by
      have := List.pairwise_iff_getElem.1 hnd i j (by simp; omega) (by simpa using hj) hij
      simp only [List.getElem_map] at this
      exact this e
    rw [d_get (by omega), d_get hj]
    exact Classical.byContradiction fun h => h2 (List.le_antisymm h1 (List.not_lt.1 h))
  · rw [d_get hj]
    obtain ⟨i, hi, e⟩ := back _ (List.getElem_mem hj)
    rw [e]
    exact nil_lt (hs.nm _ (od_mem hi))
  · have hm : ((s.l.getD i od).1, (s.l.getD i od).2.1) ∈ s.list := hp.mem_iff.2 (List.mem_map.2 ⟨_, od_mem hi, rfl⟩)
    obtain ⟨j, hj, e⟩ := List.getElem_of_mem hm
    exact ⟨j, hj, by rw [d_get hj, e]⟩
  · obtain ⟨i, hi, e⟩ := back _ (List.getElem_mem hj)
    exact ⟨i, hi, by rw [d_get hj, e]⟩
theorem last_lt {l : List OP} {N : List NQ} (h : Ord l N) {m j : Nat} (hm : m ≤ N.length) (hj : j < N.length) : lastOf N m < (N.getD j d0).1 ↔ m ≤ j := by
  unfold lastOf
  by_cases h0 : m = 0
  · subst h0
    simp only [if_true, Nat.zero_le, iff_true]
    exact h.ne j hj
  · rw [if_neg h0]
    constructor
    · intro hlt
      refine Classical.byContradiction fun hn => ?_
      by_cases e : j = m - 1
      · subst e
        exact List.lt_irrefl _ hlt
      · exact List.lt_irrefl _ (List.lt_trans hlt (h.lt j (m - 1) (by omega) (by omega)))
    · intro hmj
      exact h.lt (m - 1) j (by omega) hj
theorem none_more {l : List OP} {N : List NQ} (h : Ord l N) {m : Nat} (hm : m ≤ N.length) (hn : ∀ i, i < l.length → ¬ lastOf N m < (l.getD i od).1) : m = N.length := by
  refine Classical.byContradiction fun hne => ?_
  obtain ⟨i, hi, e⟩ := h.fro m (by omega)
  refine hn i hi ?_
  have := (last_lt h hm (j := m) (by omega)).2 (Nat.le_refl _)
  rw [e] at this
  exact this
theorem next_is {l : List OP} {N : List NQ} (h : Ord l N) {m k : Nat} (hm : m ≤ N.length) (hk : k < l.length) (h1 : lastOf N m < (l.getD k od).1) (h2 : ∀ i, i < l.length → lastOf N m < (l.getD i od).1 → ¬ (l.getD i od).1 < (l.getD k od).1) : m < N.length ∧ N.getD m d0 = ((l.getD k od).1, (l.getD k od).2.1) := by
  obtain ⟨j, hj, e⟩ := h.to k hk
  have e1 : (N.getD j d0).1 = (l.getD k od).1 := by rw [e]
  have hmj := (last_lt h hm hj).1 (by rw [e1]; exact h1)
  refine ⟨by omega, ?_⟩
  by_cases hjm : j = m
  · subst hjm; exact e
  · exfalso
    obtain ⟨i, hi, e2⟩ := h.fro m (by omega)
    have e3 : (N.getD m d0).1 = (l.getD i od).1 := by rw [e2]
    have h3 := (last_lt h hm (j := m) (by omega)).2 (Nat.le_refl _)
    have h4 := h.lt m j (by omega) hj
    rw [e3] at h3 h4
    rw [e1] at h4
    exact h2 i hi h3 h4
structure IX (l : List OP) (last : List UInt8) where
  i : Nat
  b : Option Nat
  hi : i ≤ l.length
  hn : b = none → ∀ j, j < i → ¬ last < (l.getD j od).1
  hs : ∀ k, b = some k → k < i ∧ last < (l.getD k od).1 ∧ ∀ j, j < i → last < (l.getD j od).1 → ¬ (l.getD j od).1 < (l.getD k od).1
def bI : Option Nat → Int
  | none => -1
  | some k => (k : Nat)
@[simp] theorem bI_some (k : Nat) : bI (some k) = (k : Nat) := rfl
structure OX (N : List NQ) where
  m : Nat
  hm : m ≤ N.length
section
variable (s : SD)
theorem rlist_in (hs : s.sn.Ok) : AFn Go.Proofs.Tryd.prog 40 [.ptr 0 1] s.R (fun _ : Unit => .iv (.sl 2 s.sn.list.length (nqF s.sn.list))) (fun _ => s.R) := by
  have hl := hs.len
  have hO := ord_of hs
  have hNl : s.sn.list.length ≤ 16 := by
    rw [SN.list, listS_length, SN.nqs, List.length_map]
    exact hl
  generalize hNe : s.sn.list = N at hO hNl ⊢
  refine ACall.fin ?_
  refine ACall.walk (C := cfg 74 3) (cfgOk _ _) sch40 (fn := Go.Proofs.Tryd.f40) (by kernel_rfl) (by kernel_rfl) rfl (by kernel_rfl) (by kernel_rfl) rfl rfl ?_
  (conv => whnf); repeat ((first | (refine And.intro ?_ ?_; (focus ((repeat' (first | exact trivial | refine And.intro rfl ?_)); done))) | (refine And.intro ?_ ?_; (focus (first | omega | (dsimp -iota only; omega) | (simp -iota; omega) | (simp -iota; done) | decide)))); conv => whnf)
  refine AWP.loop (X := OX N) (fun y => [(0, .ptr 0 1), (3, .row 3 2 0 y.m), (4, .str (lastOf N y.m))]) (fun y => ⟨4, [(0, .cells 46 [AV.int .u64 s.base, .row 1 3 0 s.sn.l.length, AV.int .u64 s.sn.n, .row 2 5 0 s.sealed.length, AV.int .u32 s.op]), (1, .rowc 98 3 s.sn.l.length (oF s.sn.l)), (2, .rowc 49 5 s.sealed.length (slF s.sealed)), (3, .rowc 60 2 y.m (nqF N))]⟩) (fun y => N.length - y.m) (⟨0, by omega⟩) ?_ fun y => AWP.go (S := sch40) (cfgOk _ _) (.of_eq (by kernel_rfl)) ?_
  · refine Ent.mk' [some 0, some 1, some 2, none] (by kernel_rfl) ?_ ?_
    · exact ⟨AVE.refl _, AVE.nil _ _, AVE.of_eq rfl, trivial⟩
    · exact ⟨⟨_, rfl, ChE.refl _⟩, ⟨_, rfl, ChE.refl _⟩, ⟨_, rfl, ChE.refl _⟩, trivial, trivial⟩
  · obtain ⟨m, hm⟩ := y
    (conv => whnf); repeat ((first | (refine And.intro ?_ ?_; (focus ((repeat' (first | exact trivial | refine And.intro rfl ?_)); done))) | (refine And.intro ?_ ?_; (focus (first | omega | (dsimp -iota only; omega) | (simp -iota; omega) | (simp -iota; done) | decide)))); conv => whnf)
    refine AWP.loop (X := IX s.sn.l (lastOf N m)) (fun z => [(0, .ptr 0 1), (3, .row 3 2 0 m), (4, .str (lastOf N m)), (5, AV.int .i64 (bI z.b)), (6, AV.int .i64 z.i)]) (fun z => ⟨4, [(0, .cells 46 [AV.int .u64 s.base, .row 1 3 0 s.sn.l.length, AV.int .u64 s.sn.n, .row 2 5 0 s.sealed.length, AV.int .u32 s.op]), (1, .rowc 98 3 s.sn.l.length (oF s.sn.l)), (2, .rowc 49 5 s.sealed.length (slF s.sealed)), (3, .rowc 60 2 m (nqF N))]⟩) (fun z => s.sn.l.length - z.i) (⟨0, none, by omega, fun _ j hj => by omega, fun k hk => by cases hk⟩) ?_ fun z => AWP.go (S := sch40) (cfgOk _ _) (.of_eq (by kernel_rfl)) ?_
    · exact Ent.mk' [some 0, some 1, some 2, some 3] (by kernel_rfl) (by repeat' first | exact trivial | refine And.intro (AVE.refl _) ?_ | refine And.intro (AVE.int (by first | rfl | omega | (dsimp only; omega) | (simp -iota; omega) | (simp -iota; done))) ?_ | refine And.intro (AVE.bool (by assumption)) ?_ | refine And.intro (AVE.len (by first | rfl | omega | (dsimp only; omega) | (simp -iota; omega) | (simp -iota; done))) ?_) (by repeat' (first | exact trivial | refine ⟨⟨_, rfl, ChE.refl _⟩, ?_⟩))
    · obtain ⟨i, b, hi, hbn, hbs⟩ := z
      have hix : ((i : Nat) : Int).toNat = i := by simp
      (conv => whnf); repeat ((first | (refine And.intro ?_ ?_; (focus ((repeat' (first | exact trivial | refine And.intro rfl ?_)); done))) | (refine And.intro ?_ ?_; (focus (first | omega | (dsimp -iota only; omega) | (simp -iota; omega) | (simp -iota; done) | decide)))); conv => whnf)
      refine branchB_of (fun h => ?_) (fun h => ?_) <;> (first | replace h := not_t h | replace h := not_f h | skip) <;> (first | replace h := of_decide_eq_true h | replace h := of_decide_eq_false h | skip) <;> (first | replace h := Classical.not_not.1 h | skip) <;> (try dsimp only at h)
      · (conv => whnf); repeat ((first | (refine And.intro ?_ ?_; (focus ((repeat' (first | exact trivial | refine And.intro rfl ?_)); done))) | (refine And.intro ?_ ?_; (focus (first | omega | (dsimp -iota only; omega) | (simp -iota; omega) | (simp -iota; done) | decide)))); conv => whnf)
        refine branchB_of (fun g => ?_) (fun g => ?_)
        · rw [hix, Nat.zero_add] at g
          have g1 := gtr_iff.1 g
          cases b with
          | none =>
            (conv => whnf); repeat ((first | (refine And.intro ?_ ?_; (focus ((repeat' (first | exact trivial | refine And.intro rfl ?_)); done))) | (refine And.intro ?_ ?_; (focus (first | omega | (dsimp -iota only; omega) | (simp -iota; omega) | (simp -iota; done) | decide)))); conv => whnf)
            refine ⟨⟨i + 1, some i, by omega, fun h => (by cases h), fun k hk => ?_⟩, Ent.mk' [some 0, some 1, some 2, some 3] (by kernel_rfl) (by repeat' first | exact trivial | refine And.intro (AVE.refl _) ?_ | refine And.intro (AVE.int (by first | rfl | omega | (dsimp only; omega) | (simp -iota; omega) | (simp -iota; done))) ?_ | refine And.intro (AVE.bool (by assumption)) ?_ | refine And.intro (AVE.len (by first | rfl | omega | (dsimp only; omega) | (simp -iota; omega) | (simp -iota; done))) ?_) (by repeat' (first | exact trivial | refine ⟨⟨_, rfl, ChE.refl _⟩, ?_⟩)), ?_⟩
            · injection hk with hk
              subst hk
              refine ⟨by omega, g1, fun j hj hlt h2 => ?_⟩
              by_cases e : j = i
              · subst e
                exact List.lt_irrefl _ h2
              · exact hbn rfl j (by omega) hlt
            · show s.sn.l.length - (i + 1) < s.sn.l.length - i
              omega
          | some k =>
            obtain ⟨k1, k2, k3⟩ := hbs k rfl
            have hkx : ((k : Nat) : Int).toNat = k := by simp
            (conv => whnf); repeat ((first | (refine And.intro ?_ ?_; (focus ((repeat' (first | exact trivial | refine And.intro rfl ?_)); done))) | (refine And.intro ?_ ?_; (focus (first | omega | (dsimp -iota only; omega) | (simp -iota; omega) | (simp -iota; done) | decide)))); conv => whnf)
            rw [hix, Nat.zero_add, show (bI (some k)).toNat = k from by show ((k : Nat) : Int).toNat = k; simp, Nat.zero_add]
            refine branchB_of (fun g2 => ?_) (fun g2 => ?_)
            · have g3 : (s.sn.l.getD i od).1 < (s.sn.l.getD k od).1 := by
                rw [Go.Proofs.bytesLess_eq, decide_eq_true_eq] at g2
                exact g2
              (conv => whnf); repeat ((first | (refine And.intro ?_ ?_; (focus ((repeat' (first | exact trivial | refine And.intro rfl ?_)); done))) | (refine And.intro ?_ ?_; (focus (first | omega | (dsimp -iota only; omega) | (simp -iota; omega) | (simp -iota; done) | decide)))); conv => whnf)
              refine ⟨⟨i + 1, some i, by omega, fun h => (by cases h), fun k' hk' => ?_⟩, Ent.mk' [some 0, some 1, some 2, some 3] (by kernel_rfl) (by repeat' first | exact trivial | refine And.intro (AVE.refl _) ?_ | refine And.intro (AVE.int (by first | rfl | omega | (dsimp only; omega) | (simp -iota; omega) | (simp -iota; done))) ?_ | refine And.intro (AVE.bool (by assumption)) ?_ | refine And.intro (AVE.len (by first | rfl | omega | (dsimp only; omega) | (simp -iota; omega) | (simp -iota; done))) ?_) (by repeat' (first | exact trivial | refine ⟨⟨_, rfl, ChE.refl _⟩, ?_⟩)), ?_⟩
              · injection hk' with hk'
                subst hk'
                refine ⟨by omega, g1, fun j hj hlt h2 => ?_⟩
                by_cases e : j = i
                · subst e
                  exact List.lt_irrefl _ h2
                · exact k3 j (by omega) hlt (List.lt_trans h2 g3)
              · show s.sn.l.length - (i + 1) < s.sn.l.length - i
                omega
            · have g3 : ¬ (s.sn.l.getD i od).1 < (s.sn.l.getD k od).1 := by
                rw [Go.Proofs.bytesLess_eq, decide_eq_false_iff_not] at g2
                exact g2
              (conv => whnf); repeat ((first | (refine And.intro ?_ ?_; (focus ((repeat' (first | exact trivial | refine And.intro rfl ?_)); done))) | (refine And.intro ?_ ?_; (focus (first | omega | (dsimp -iota only; omega) | (simp -iota; omega) | (simp -iota; done) | decide)))); conv => whnf)
              refine ⟨⟨i + 1, some k, by omega, fun h => (by cases h), fun k' hk' => ?_⟩, Ent.mk' [some 0, some 1, some 2, some 3] (by kernel_rfl) (by repeat' first | exact trivial | refine And.intro (AVE.refl _) ?_ | refine And.intro (AVE.int (by first | rfl | omega | (dsimp only; omega) | (simp -iota; omega) | (simp -iota; done))) ?_ | refine And.intro (AVE.bool (by assumption)) ?_ | refine And.intro (AVE.len (by first | rfl | omega | (dsimp only; omega) | (simp -iota; omega) | (simp -iota; done))) ?_) (by repeat' (first | exact trivial | refine ⟨⟨_, rfl, ChE.refl _⟩, ?_⟩)), ?_⟩
              · injection hk' with hk'
                subst hk'
                refine ⟨by omega, k2, fun j hj hlt h2 => ?_⟩
                by_cases e : j = i
                · subst e
                  exact g3 h2
                · exact k3 j (by omega) hlt h2
              · show s.sn.l.length - (i + 1) < s.sn.l.length - i
                omega
        · rw [hix, Nat.zero_add] at g
          have g1 := gtr_no g
          (conv => whnf); repeat ((first | (refine And.intro ?_ ?_; (focus ((repeat' (first | exact trivial | refine And.intro rfl ?_)); done))) | (refine And.intro ?_ ?_; (focus (first | omega | (dsimp -iota only; omega) | (simp -iota; omega) | (simp -iota; done) | decide)))); conv => whnf)
          refine ⟨⟨i + 1, b, by omega, fun h j hj => ?_, fun k hk => ?_⟩, Ent.mk' [some 0, some 1, some 2, some 3] (by kernel_rfl) (by repeat' first | exact trivial | refine And.intro (AVE.refl _) ?_ | refine And.intro (AVE.int (by first | rfl | omega | (dsimp only; omega) | (simp -iota; omega) | (simp -iota; done))) ?_ | refine And.intro (AVE.bool (by assumption)) ?_ | refine And.intro (AVE.len (by first | rfl | omega | (dsimp only; omega) | (simp -iota; omega) | (simp -iota; done))) ?_) (by repeat' (first | exact trivial | refine ⟨⟨_, rfl, ChE.refl _⟩, ?_⟩)), ?_⟩
          · by_cases e : j = i
            · subst e
              exact g1
            · exact hbn h j (by omega)
          · obtain ⟨k1, k2, k3⟩ := hbs k hk
            refine ⟨by omega, k2, fun j hj hlt => ?_⟩
            by_cases e : j = i
            · subst e
              exact absurd hlt g1
            · exact k3 j (by omega) hlt
          · show s.sn.l.length - (i + 1) < s.sn.l.length - i
            omega
      · have hil : i = s.sn.l.length := by omega
        subst hil
        cases b with
        | none =>
          have hmN := none_more hO hm fun j hj => hbn rfl j hj
          subst hmN
          (conv => whnf); repeat ((first | (refine And.intro ?_ ?_; (focus ((repeat' (first | exact trivial | refine And.intro rfl ?_)); done))) | (refine And.intro ?_ ?_; (focus (first | omega | (dsimp -iota only; omega) | (simp -iota; omega) | (simp -iota; done) | decide)))); conv => whnf)
          refine ⟨_, _, (Ent.freeze 3 _ rfl rfl (e' := [(0, .iv (.sl 2 N.length (nqF N)))]) ⟨AVF.sl (Nat.le_refl _), trivial⟩).trans (Ent.mk' (e' := [(0, .iv (.sl 2 N.length (nqF N)))]) (H' := s.R) [some 0, some 1, some 2] (by kernel_rfl) ?_ ?_), (), rfl, rfl⟩
          · exact ⟨AVE.refl _, trivial⟩
          · (repeat' first | exact trivial | refine ⟨⟨_, rfl, ChE.refl _⟩, ?_⟩)
        | some k =>
          obtain ⟨k1, k2, k3⟩ := hbs k rfl
          obtain ⟨q1, q2⟩ := next_is hO hm k1 k2 fun j hj h1 => k3 j hj h1
          have hkx : ((k : Nat) : Int).toNat = k := by simp
          (conv => whnf); repeat ((first | (refine And.intro ?_ ?_; (focus ((repeat' (first | exact trivial | refine And.intro rfl ?_)); done))) | (refine And.intro ?_ ?_; (focus (first | omega | (dsimp -iota only; omega) | (simp -iota; omega) | (simp -iota; done) | decide)))); conv => whnf)
          refine ⟨⟨m + 1, by omega⟩, Ent.mk' [some 0, some 1, some 2, some 5] (by kernel_rfl) ?_ ?_, ?_⟩
          · refine ⟨AVE.refl _, AVE.refl _, AVE.of_eq ?_, trivial⟩
            show AV.str (s.sn.l.getD (0 + ((k : Nat) : Int).toNat) od).1 = AV.str (N.getD m d0).1
            rw [hkx, Nat.zero_add, q2]
          · refine ⟨⟨_, rfl, ChE.refl _⟩, ⟨_, rfl, ChE.refl _⟩, ⟨_, rfl, ChE.refl _⟩, ⟨_, rfl, ChE.push (fun j hj => rfl) ?_⟩, trivial⟩
            show IVEs [.str (s.sn.l.getD (0 + ((k : Nat) : Int).toNat) od).1, .v (.int .u64 (s.sn.l.getD (0 + ((k : Nat) : Int).toNat) od).2.1)] (nqF N m)
            unfold nqF
            rw [q2, hkx, Nat.zero_add]
            exact IVEs.refl _
          · show N.length - (m + 1) < N.length - m
            omega
end
end Go.Proofs.YtmlhaellfpbcgaaDoor.Ax

namespace Go.Proofs.YtmlhaellfpbcgaaDoor.Ax
open Go.RowKit
set_option maxRecDepth 100000
theorem rmaySeal_ok (x : Seal) (hx : x.B) : AFn Go.Proofs.Tryd.prog 48 [sealA x] ⟨0, []⟩ (fun _ : Unit => AV.bool x.ok) (fun _ => ⟨0, []⟩) := by
  obtain ⟨hx1, hx2, hx3, hx4, hx5⟩ := hx
  refine ACall.fin ?_
  refine ACall.walk (C := cfg 57 0) (cfgOk _ _) [] (fn := Go.Proofs.Tryd.f48) (by kernel_rfl) (by kernel_rfl) rfl (by kernel_rfl) (by kernel_rfl) rfl rfl ?_
  (conv => whnf); repeat ((first | (refine And.intro ?_ ?_; (focus ((repeat' (first | exact trivial | refine And.intro rfl ?_)); done))) | (refine And.intro ?_ ?_; (focus (first | omega | (dsimp -iota only; omega) | (simp -iota; omega) | (simp -iota; done) | decide)))); conv => whnf)
  repeat' (refine branchB_of (fun q => ?_) (fun q => ?_) <;> (first | replace q := not_t q | replace q := not_f q | skip) <;> (first | replace q := of_decide_eq_true q | replace q := of_decide_eq_false q | skip) <;> (first | replace q := Classical.not_not.1 q | skip) <;> (try dsimp only at q) <;> ((conv => whnf); repeat ((first | (refine And.intro ?_ ?_; (focus ((repeat' (first | exact trivial | refine And.intro rfl ?_)); done))) | (refine And.intro ?_ ?_; (focus (first | omega | (dsimp -iota only; omega) | (simp -iota; omega) | (simp -iota; done) | decide)))); conv => whnf)))
  all_goals
    refine ⟨_, _, Ent.mk' (e' := [(0, AV.bool x.ok)]) (H' := ⟨0, []⟩) [] (by kernel_rfl) ?_ ?_, (), rfl, rfl⟩
    · refine ⟨AVE.bool ?_, trivial⟩
      unfold Seal.ok
      first
        | (symm; refine decide_eq_false ?_; omega)
        | (symm; refine decide_eq_true ?_; omega)
        | (refine decide_eq_decide.2 ?_; omega)
    · trivial
theorem hs_iff (k : Int) : (∀ b, hSeq k = b ↔ (b = true ↔ (k = 1 ∨ k = 2 ∨ k = 6))) ∧ (∀ b, hName k = b ↔ (b = true ↔ (k = 2 ∨ k = 3))) ∧ (∀ b, hId k = b ↔ (b = true ↔ k = 4)) ∧ (∀ b, hSeals k = b ↔ (b = true ↔ (k = 5 ∨ k = 6))) :=
  ⟨fun b => by cases b <;> simp [hSeq], fun b => by cases b <;> simp [hName], fun b => by cases b <;> simp [hId], fun b => by cases b <;> simp [hSeals]⟩
theorem rparts_ok (k : Int) : AFn Go.Proofs.Tryd.prog 47 [AV.int .i64 k] ⟨0, []⟩ (fun _ : Unit => .tup [AV.bool (hSeq k), AV.bool (hName k), AV.bool (hId k), AV.bool (hSeals k)]) (fun _ => ⟨0, []⟩) := by
  obtain ⟨e1, e2, e3, e4⟩ := hs_iff k
  refine ACall.fin ?_
  refine ACall.walk (C := cfg 19 0) (cfgOk _ _) [] (fn := Go.Proofs.Tryd.f47) (by kernel_rfl) (by kernel_rfl) rfl (by kernel_rfl) (by kernel_rfl) rfl rfl ?_
  (conv => whnf); repeat ((first | (refine And.intro ?_ ?_; (focus ((repeat' (first | exact trivial | refine And.intro rfl ?_)); done))) | (refine And.intro ?_ ?_; (focus (first | omega | (dsimp -iota only; omega) | (simp -iota; omega) | (simp -iota; done) | decide)))); conv => whnf)
  repeat' (refine branchB_of (fun q => ?_) (fun q => ?_) <;> (first | replace q := not_t q | replace q := not_f q | skip) <;> (first | replace q := of_decide_eq_true q | replace q := of_decide_eq_false q | skip) <;> (first | replace q := Classical.not_not.1 q | skip) <;> (try dsimp only at q) <;> ((conv => whnf); repeat ((first | (refine And.intro ?_ ?_; (focus ((repeat' (first | exact trivial | refine And.intro rfl ?_)); done))) | (refine And.intro ?_ ?_; (focus (first | omega | (dsimp -iota only; omega) | (simp -iota; omega) | (simp -iota; done) | decide)))); conv => whnf)))
  all_goals
    refine ⟨_, _, Ent.mk' (e' := [(0, .tup [AV.bool (hSeq k), AV.bool (hName k), AV.bool (hId k), AV.bool (hSeals k)])]) (H' := ⟨0, []⟩) [] (by kernel_rfl) ?_ ?_, (), rfl, rfl⟩
    · refine ⟨AVE.of_eq ?_, trivial⟩
      first
        | (rw [(e1 true).2 (by simp; omega), (e2 false).2 (by simp; omega), (e3 false).2 (by simp; omega), (e4 false).2 (by simp; omega)]; rfl)
        | (rw [(e1 true).2 (by simp; omega), (e2 true).2 (by simp; omega), (e3 false).2 (by simp; omega), (e4 false).2 (by simp; omega)]; rfl)
        | (rw [(e1 false).2 (by simp; omega), (e2 true).2 (by simp; omega), (e3 false).2 (by simp; omega), (e4 false).2 (by simp; omega)]; rfl)
        | (rw [(e1 false).2 (by simp; omega), (e2 false).2 (by simp; omega), (e3 true).2 (by simp; omega), (e4 false).2 (by simp; omega)]; rfl)
        | (rw [(e1 false).2 (by simp; omega), (e2 false).2 (by simp; omega), (e3 false).2 (by simp; omega), (e4 true).2 (by simp; omega)]; rfl)
        | (rw [(e1 true).2 (by simp; omega), (e2 false).2 (by simp; omega), (e3 false).2 (by simp; omega), (e4 true).2 (by simp; omega)]; rfl)
        | (rw [(e1 false).2 (by simp; omega), (e2 false).2 (by simp; omega), (e3 false).2 (by simp; omega), (e4 false).2 (by simp; omega)]; rfl)
    · trivial
set_option maxHeartbeats 4000000 in
theorem rmay_e (e : Edt) (hb : ∀ x ∈ e.seals, x.B) : AFn Go.Proofs.Tryd.prog 32 [editA e] ⟨0, []⟩ (fun _ : Unit => AV.bool e.may) (fun _ => ⟨0, []⟩) := by
  refine ACall.fin ?_
  refine ACall.walk (C := cfg 136 0) (cfgOk _ _) sch32 (fn := Go.Proofs.Tryd.f32) (by kernel_rfl) (by kernel_rfl) rfl (by kernel_rfl) (by kernel_rfl) rfl rfl ?_
  (conv => whnf); repeat ((first | (refine And.intro ?_ ?_; (focus ((repeat' (first | exact trivial | refine And.intro rfl ?_)); done))) | (refine And.intro ?_ ?_; (focus (first | omega | (dsimp -iota only; omega) | (simp -iota; omega) | (simp -iota; done) | decide)))); conv => whnf)
  apply AWP.aheadF (C := cfg 136 0) (Y := PLift e.HP) (fun _ => [(1, .ptr 0 0), (7, AV.int .i64 0)]) (fun _ => ⟨1, [(0, .cells 51 [AV.int .i64 e.kind, AV.str e.name, AV.int .u64 e.seq, AV.int .u32 e.id, .iv (.sl 5 e.seals.length (slF e.seals))])]⟩)
  · intro key
    have hk : e.kind = 1 ∨ e.kind = 2 ∨ e.kind = 3 ∨ e.kind = 4 ∨ e.kind = 5 ∨ e.kind = 6 ∨ e.kind < 1 ∨ e.kind > 6 := by omega
    rcases hk with hk | hk | hk | hk | hk | hk | hk | hk
    all_goals repeat' (first | (refine branchB_of (fun q => ?_) (fun q => ?_) <;> (first | replace q := not_t q | replace q := not_f q | skip) <;> (first | replace q := of_decide_eq_true q | replace q := of_decide_eq_false q | skip) <;> (first | replace q := Classical.not_not.1 q | skip) <;> (try dsimp only at q) <;> (first | (exfalso; omega) | ((conv => whnf); repeat ((first | (refine And.intro ?_ ?_; (focus ((repeat' (first | exact trivial | refine And.intro rfl ?_)); done))) | (refine And.intro ?_ ?_; (focus (first | omega | (dsimp -iota only; omega) | (simp -iota; omega) | (simp -iota; done) | decide)))); conv => whnf)))) | (refine AFn.use [] (rparts_ok e.kind) (by kernel_rfl) rfl (by repeat' first | exact trivial | refine ⟨rfl, ?_⟩) fun _ => ?_; ((conv => whnf); repeat ((first | (refine And.intro ?_ ?_; (focus ((repeat' (first | exact trivial | refine And.intro rfl ?_)); done))) | (refine And.intro ?_ ?_; (focus (first | omega | (dsimp -iota only; omega) | (simp -iota; omega) | (simp -iota; done) | decide)))); conv => whnf))))
    all_goals first
      | (have hm : e.may = false := by
           have hh : ¬ e.HP := by omega
           simp [Edt.may, Edt.head, hh]
         rw [hm]
         refine ⟨_, _, Ent.mk' (e' := [(0, AV.bool false)]) (H' := ⟨0, []⟩) [] (by kernel_rfl) ?_ ?_, (), rfl, rfl⟩
         · exact ⟨AVE.refl _, trivial⟩
         · trivial)
      | (refine AWP.of_ent ?_ (key ⟨by omega⟩)
         exact Ent.mk' [some 0] (by kernel_rfl) (by repeat' first | exact trivial | refine And.intro (AVE.refl _) ?_) (by repeat' (first | exact trivial | refine ⟨⟨_, rfl, ChE.refl _⟩, ?_⟩)))
  · intro hh
    obtain ⟨hh⟩ := hh
    have hd : e.head = true := decide_eq_true hh
    have hm : e.may = sealsOk e.seals := by unfold Edt.may; rw [hd, Bool.true_and]
    have hl : e.seals.length ≤ 200 := hh.2.2.2.2.2.2.2.2.2
    clear hd hh
    refine AWP.loop (X := MX e.seals) (fun x => [(1, .ptr 0 0), (7, AV.int .i64 x.i)]) (fun x => ⟨1, [(0, .cells 51 [AV.int .i64 e.kind, AV.str e.name, AV.int .u64 e.seq, AV.int .u32 e.id, .iv (.sl 5 e.seals.length (slF e.seals))])]⟩) (fun x => e.seals.length - x.i) (⟨0, Nat.zero_le _, fun j hj => absurd hj (Nat.not_lt_zero _)⟩) ?_ fun x => AWP.go (S := sch32) (cfgOk _ _) (.of_eq (by kernel_rfl)) ?_
    · exact Ent.mk' [some 0] (by kernel_rfl) (by repeat' first | exact trivial | refine And.intro (AVE.refl _) ?_ | refine And.intro (AVE.int (by first | rfl | omega | (dsimp only; omega) | (simp -iota; omega) | (simp -iota; done))) ?_ | refine And.intro (AVE.bool (by assumption)) ?_ | refine And.intro (AVE.len (by first | rfl | omega | (dsimp only; omega) | (simp -iota; omega) | (simp -iota; done))) ?_) (by repeat' (first | exact trivial | refine ⟨⟨_, rfl, ChE.refl _⟩, ?_⟩))
    · obtain ⟨i, hi, h⟩ := x
      have hix : ((i : Nat) : Int).toNat = i := by simp
      have hix1 : ((i : Nat) - 1 : Int).toNat = i - 1 := by omega
      (conv => whnf); repeat ((first | (refine And.intro ?_ ?_; (focus ((repeat' (first | exact trivial | refine And.intro rfl ?_)); done))) | (refine And.intro ?_ ?_; (focus (first | omega | (dsimp -iota only; omega) | (simp -iota; omega) | (simp -iota; done) | decide)))); conv => whnf)
      refine branchB_of (fun g => ?_) (fun g => ?_) <;> (first | replace g := not_t g | replace g := not_f g | skip) <;> (first | replace g := of_decide_eq_true g | replace g := of_decide_eq_false g | skip) <;> (first | replace g := Classical.not_not.1 g | skip) <;> (try dsimp only at g)
      · have hx : (e.seals.getD i default).B := hb _ (by rw [List.getD_eq_getElem?_getD, List.getElem?_eq_getElem (by omega)]; exact List.getElem_mem _)
        (conv => whnf); repeat ((first | (refine And.intro ?_ ?_; (focus ((repeat' (first | exact trivial | refine And.intro rfl ?_)); done))) | (refine And.intro ?_ ?_; (focus (first | omega | (dsimp -iota only; omega) | (simp -iota; omega) | (simp -iota; done) | decide)))); conv => whnf)
        rw [hix]
        refine AFn.use [] (rmaySeal_ok _ hx) (by kernel_rfl) rfl (by repeat' first | exact trivial | refine ⟨rfl, ?_⟩) fun _ => ?_
        (conv => whnf); repeat ((first | (refine And.intro ?_ ?_; (focus ((repeat' (first | exact trivial | refine And.intro rfl ?_)); done))) | (refine And.intro ?_ ?_; (focus (first | omega | (dsimp -iota only; omega) | (simp -iota; omega) | (simp -iota; done) | decide)))); conv => whnf)
        repeat' (first | (refine And.intro ?_ ?_ <;> ((conv => whnf); repeat ((first | (refine And.intro ?_ ?_; (focus ((repeat' (first | exact trivial | refine And.intro rfl ?_)); done))) | (refine And.intro ?_ ?_; (focus (first | omega | (dsimp -iota only; omega) | (simp -iota; omega) | (simp -iota; done) | decide)))); conv => whnf))) | (refine branchB_of (fun q => ?_) (fun q => ?_) <;> (first | replace q := not_t q | replace q := not_f q | skip) <;> (first | replace q := of_decide_eq_true q | replace q := of_decide_eq_false q | skip) <;> (first | replace q := Classical.not_not.1 q | skip) <;> (try dsimp only at q) <;> ((conv => whnf); repeat ((first | (refine And.intro ?_ ?_; (focus ((repeat' (first | exact trivial | refine And.intro rfl ?_)); done))) | (refine And.intro ?_ ?_; (focus (first | omega | (dsimp -iota only; omega) | (simp -iota; omega) | (simp -iota; done) | decide)))); conv => whnf))))
        all_goals try rw [hix1, hix] at q
        all_goals first
          | (have hf : sealsOk e.seals = false := sealsOk_false (i := i) (by omega) (by
               unfold sealAt Seal.ok
               rw [Bool.and_eq_false_iff, decide_eq_false_iff_not, decide_eq_false_iff_not]
               omega)
             rw [hm, hf]
             refine ⟨_, _, Ent.mk' (e' := [(0, AV.bool false)]) (H' := ⟨0, []⟩) [] (by kernel_rfl) ?_ ?_, (), rfl, rfl⟩
             · exact ⟨AVE.refl _, trivial⟩
             · trivial)
          | (have hs : sealAt e.seals i = true := by
               unfold sealAt Seal.ok
               rw [Bool.and_eq_true, decide_eq_true_eq, decide_eq_true_eq]
               omega
             refine ⟨⟨i + 1, by omega, fun j hj => by
               rcases Nat.lt_or_ge j i with hji | hji
               · exact h j hji
               · have : j = i := by omega
                 rw [this]
                 exact hs⟩, Ent.mk' [some 0] (by kernel_rfl) (by repeat' first | exact trivial | refine And.intro (AVE.refl _) ?_ | refine And.intro (AVE.int (by first | rfl | omega | (dsimp only; omega) | (simp -iota; omega) | (simp -iota; done))) ?_ | refine And.intro (AVE.bool (by assumption)) ?_ | refine And.intro (AVE.len (by first | rfl | omega | (dsimp only; omega) | (simp -iota; omega) | (simp -iota; done))) ?_) (by repeat' (first | exact trivial | refine ⟨⟨_, rfl, ChE.refl _⟩, ?_⟩)), ?_⟩
             show e.seals.length - (i + 1) < e.seals.length - i
             omega)
      · have ht : sealsOk e.seals = true := sealsOk_true fun j hj => h j (by omega)
        rw [hm, ht]
        (conv => whnf); repeat ((first | (refine And.intro ?_ ?_; (focus ((repeat' (first | exact trivial | refine And.intro rfl ?_)); done))) | (refine And.intro ?_ ?_; (focus (first | omega | (dsimp -iota only; omega) | (simp -iota; omega) | (simp -iota; done) | decide)))); conv => whnf)
        refine ⟨_, _, Ent.mk' (e' := [(0, AV.bool true)]) (H' := ⟨0, []⟩) [] (by kernel_rfl) ?_ ?_, (), rfl, rfl⟩
        · exact ⟨AVE.refl _, trivial⟩
        · trivial
end Go.Proofs.YtmlhaellfpbcgaaDoor.Ax
