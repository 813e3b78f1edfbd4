/-
  Chapter 19: the document's snaps; maps.Clone; snaps of their own.
-/
import Derived.Shelf.SlMaps.Clone
import Derived.Ground.SlmcProg
import Derived.Test.YtoofmkkcaoojiaaProg
import Derived.Test.YtoofmkkcaoojiaaUi
import Derived.Test.YtoofmkkcaoojiaaSb
namespace Go.Proofs
open Go.Shelf
def Try.mclone_ren : Go.Shelf.Ren := ⟨fun | 5 => 34 | 7 => 40 | n => n, fun | 23 => 62 | 25 => 9 | 3 => 66 | 4 => 4 | 20 => 20 | n => n, fun | n => n⟩
theorem Try.mclone : Go.Proofs.SlLaysW.n5 Try.prog Try.mclone_ren := {
  mixed := by kernel_rfl
  f5 := ⟨Try.f34.name, by decide, Try.func34.trans (congrArg some (by kernel_rfl))⟩
  f7 := Try.func40.trans (congrArg some (by kernel_rfl))
  t4 := Try.underlying4
  a4 := Try.isAgg4
  z4 := Try.sizeOf4
  v4 := Try.zeroValue4
  t20 := Try.underlying20
  a20 := Try.isAgg20
  z20 := Try.sizeOf20
  v20 := Try.zeroValue20
  t23 := Try.underlying62
  a23 := Try.isAgg62
  z23 := Try.sizeOf62
  v23 := Try.zeroValue62 }
end Go.Proofs

namespace Go.Proofs.Ytoofmkkcaoojiaa.Ax
open Go.RowKit
set_option maxRecDepth 100000
abbrev OP := List UInt8 × Pin
def od : OP := ([], (0, 0))
def oF (l : List OP) (i : Nat) : List IV := [.str (l.getD i od).1, .v (.int .u64 (l.getD i od).2.1), .v (.int .u64 (l.getD i od).2.2)]
@[reducible] def SN.R (s : SN) : AH := ⟨2, [(0, .cells 53 [.row 1 3 0 s.l.length, .int .u64 s.n]), (1, .rowc 77 3 s.l.length (oF s.l))]⟩
theorem od_mem {l : List OP} {i : Nat} (h : i < l.length) : l.getD i od ∈ l := by
  simp only [List.getD, List.getElem?_eq_getElem h, Option.getD_some]
  exact List.getElem_mem h
theorem od_get {l : List OP} {i : Nat} (h : i < l.length) : l.getD i od = l[i] := by simp [List.getD, h]
/-! Places. -/
def plc (l : List OP) (x : List UInt8) : Int := if l.findIdx (fun p => decide (p.1 = x)) < l.length then (l.findIdx (fun p => decide (p.1 = x)) : Nat) else -1
theorem plc_at {l : List OP} {x : List UInt8} {i : Nat} (hi : i < l.length) (h1 : (l.getD i od).1 = x) (h2 : ∀ j, j < i → (l.getD j od).1 ≠ x) : plc l x = i := by
  have e : l.findIdx (fun p => decide (p.1 = x)) = i := by
    rw [List.findIdx_eq hi]
    refine ⟨by rw [← od_get hi]; simpa using h1, fun j hj => ?_⟩
    have := h2 j hj
    rw [od_get (by omega)] at this
    simpa using this
  unfold plc
  rw [e, if_pos hi]
theorem plc_none {l : List OP} {x : List UInt8} (h : ∀ j, j < l.length → (l.getD j od).1 ≠ x) : plc l x = -1 := by
  unfold plc
  refine if_neg fun hlt => ?_
  have := List.findIdx_getElem (w := hlt)
  exact h _ hlt (by rw [od_get hlt]; simpa using this)
theorem plc_find {l : List OP} (hd : (l.map (·.1)).Nodup) {x : List UInt8} {p : Pin} (h : afind l x = some p) : ∃ k, k < l.length ∧ plc l x = (k : Nat) ∧ l.getD k od = (x, p) ∧ l.take k ++ l.drop (k + 1) = adel l x := by
  have hm := afind_mem h
  obtain ⟨k, hk, e⟩ := List.getElem_of_mem hm
  have hpw := List.pairwise_iff_getElem.1 (List.pairwise_map.1 hd)
  have ne : ∀ j (hj : j < l.length), j ≠ k → l[j].1 ≠ x := fun j hj hjk e2 => by
    have ex : l[k].1 = x := by rw [e]
    rcases Nat.lt_or_gt_of_ne hjk with h1 | h1
    · exact hpw j k hj hk h1 (by rw [e2, ex])
    · exact hpw k j hk hj h1 (by rw [e2, ex])
  refine ⟨k, hk, plc_at hk (by rw [od_get hk, e]) (fun j hj => by rw [od_get (by omega)]; exact ne j (by omega) (by omega)), by rw [od_get hk, e], ?_⟩
  unfold adel
  have e0 : l = l.take k ++ (x, p) :: l.drop (k + 1) := by
    rw [← e, List.getElem_cons_drop hk, List.take_append_drop]
  conv => rhs; rw [e0]
  rw [List.filter_append, List.filter_cons_of_neg (by simp)]
  congr 1
  · refine (List.filter_eq_self.2 fun q hq => ?_).symm
    obtain ⟨j, hj, e1⟩ := List.getElem_of_mem hq
    rw [List.length_take] at hj
    rw [List.getElem_take] at e1
    have := ne j (by omega) (by omega)
    rw [e1] at this
    simpa using this
  · refine (List.filter_eq_self.2 fun q hq => ?_).symm
    obtain ⟨j, hj, e1⟩ := List.getElem_of_mem hq
    rw [List.length_drop] at hj
    rw [List.getElem_drop] at e1
    have := ne (k + 1 + j) (by omega) (by omega)
    rw [e1] at this
    simpa using this
theorem plc_find_none {l : List OP} {x : List UInt8} (h : afind l x = none) : plc l x = -1 := by
  rw [afind_none] at h
  refine plc_none fun j hj e => h ?_
  rw [od_get hj] at e
  exact List.mem_map.2 ⟨_, List.getElem_mem hj, e⟩
theorem rmay_ok (x : List UInt8) : AFn Go.Proofs.Try.prog 32 [.str x] ⟨0, []⟩ (fun _ : Unit => AV.bool (okN x)) (fun _ => ⟨0, []⟩) := by
  refine ACall.walk (C := cfg 11 0) (cfgOk _ _) [] (fn := Go.Proofs.Try.f32) (by kernel_rfl) (by kernel_rfl) rfl (by kernel_rfl) (by kernel_rfl) rfl rfl ?_
  (conv => whnf); repeat ((first | (refine And.intro ?_ ?_; (focus ((repeat' (first | exact trivial | refine And.intro rfl ?_)); done))) | (refine And.intro ?_ ?_; (focus (first | omega | (dsimp -iota only; omega) | (simp -iota; omega) | (simp -iota; done) | decide)))); conv => whnf)
  refine branchB_of (fun h => ?_) (fun h => ?_) <;> (first | replace h := not_t h | replace h := not_f h | skip) <;> (first | replace h := of_decide_eq_true h | replace h := of_decide_eq_false h | skip) <;> (first | replace h := Classical.not_not.1 h | skip) <;> (try dsimp only at h)
  · (conv => whnf); repeat ((first | (refine And.intro ?_ ?_; (focus ((repeat' (first | exact trivial | refine And.intro rfl ?_)); done))) | (refine And.intro ?_ ?_; (focus (first | omega | (dsimp -iota only; omega) | (simp -iota; omega) | (simp -iota; done) | decide)))); conv => whnf)
    refine ⟨(), ?_, rfl⟩
    congr 3
    exact decide_eq_decide.2 (by omega)
  · (conv => whnf); repeat ((first | (refine And.intro ?_ ?_; (focus ((repeat' (first | exact trivial | refine And.intro rfl ?_)); done))) | (refine And.intro ?_ ?_; (focus (first | omega | (dsimp -iota only; omega) | (simp -iota; omega) | (simp -iota; done) | decide)))); conv => whnf)
    refine ⟨(), ?_, rfl⟩
    congr 3
    exact (decide_eq_false (by omega)).symm
section
variable (s : SN)
theorem place_in (hl : s.l.length ≤ 1000) (x : List UInt8) : AFn Go.Proofs.Try.prog 33 [.ptr 0 0, .str x] s.R (fun _ : Unit => AV.int .i64 (plc s.l x)) (fun _ => s.R) := by
  refine ACall.fin ?_
  refine ACall.walk (C := cfg 26 2) (cfgOk _ _) [] (fn := Go.Proofs.Try.f33) (by kernel_rfl) (by kernel_rfl) rfl (by kernel_rfl) (by kernel_rfl) rfl rfl ?_
  (conv => whnf); repeat ((first | (refine And.intro ?_ ?_; (focus ((repeat' (first | exact trivial | refine And.intro rfl ?_)); done))) | (refine And.intro ?_ ?_; (focus (first | omega | (dsimp -iota only; omega) | (simp -iota; omega) | (simp -iota; done) | decide)))); conv => whnf)
  refine AWP.loop (X := { y : Nat // y ≤ s.l.length ∧ ∀ j, j < y → (s.l.getD j od).1 ≠ x }) (fun y => [(0, .ptr 0 0), (1, .str x), (5, AV.int .i64 y.1)]) (fun y => s.R) (fun y => s.l.length - y.1) (⟨0, by omega, fun j hj => by omega⟩) ?_ fun y => AWP.go (S := []) (cfgOk _ _) (.of_eq (by kernel_rfl)) ?_
  · exact Ent.mk' [some 0, some 1] (by kernel_rfl) (by repeat' first | exact trivial | refine And.intro (AVE.refl _) ?_ | refine And.intro (AVE.int (by first | rfl | omega | (dsimp only; omega) | (simp -iota; omega) | (simp -iota; done))) ?_ | refine And.intro (AVE.bool (by assumption)) ?_ | refine And.intro (AVE.len (by first | rfl | omega | (dsimp only; omega) | (simp -iota; omega) | (simp -iota; done))) ?_) (by repeat' (first | exact trivial | refine ⟨⟨_, rfl, ChE.refl _⟩, ?_⟩))
  · obtain ⟨i, hi, hj⟩ := y
    have hix : ((i : Nat) : Int).toNat = i := by simp
    (conv => whnf); repeat ((first | (refine And.intro ?_ ?_; (focus ((repeat' (first | exact trivial | refine And.intro rfl ?_)); done))) | (refine And.intro ?_ ?_; (focus (first | omega | (dsimp -iota only; omega) | (simp -iota; omega) | (simp -iota; done) | decide)))); conv => whnf)
    refine branchB_of (fun h => ?_) (fun h => ?_) <;> (first | replace h := not_t h | replace h := not_f h | skip) <;> (first | replace h := of_decide_eq_true h | replace h := of_decide_eq_false h | skip) <;> (first | replace h := Classical.not_not.1 h | skip) <;> (try dsimp only at h)
    · (conv => whnf); repeat ((first | (refine And.intro ?_ ?_; (focus ((repeat' (first | exact trivial | refine And.intro rfl ?_)); done))) | (refine And.intro ?_ ?_; (focus (first | omega | (dsimp -iota only; omega) | (simp -iota; omega) | (simp -iota; done) | decide)))); conv => whnf)
      refine branchB_of (fun g => ?_) (fun g => ?_) <;> (first | replace g := not_t g | replace g := not_f g | skip) <;> (first | replace g := of_decide_eq_true g | replace g := of_decide_eq_false g | skip) <;> (first | replace g := Classical.not_not.1 g | skip) <;> (try dsimp only at g)
      · have e := plc_at (l := s.l) (x := x) (i := i) (by omega) (by simpa [hix] using g) hj
        rw [e]
        (conv => whnf); repeat ((first | (refine And.intro ?_ ?_; (focus ((repeat' (first | exact trivial | refine And.intro rfl ?_)); done))) | (refine And.intro ?_ ?_; (focus (first | omega | (dsimp -iota only; omega) | (simp -iota; omega) | (simp -iota; done) | decide)))); conv => whnf)
        refine ⟨_, _, Ent.mk' (e' := [(0, AV.int .i64 (i : Nat))]) (H' := s.R) [some 0, some 1] (by kernel_rfl) ?_ ?_, (), rfl, rfl⟩
        · exact ⟨AVE.refl _, trivial⟩
        · (repeat' first | exact trivial | refine ⟨⟨_, rfl, ChE.refl _⟩, ?_⟩)
      · (conv => whnf); repeat ((first | (refine And.intro ?_ ?_; (focus ((repeat' (first | exact trivial | refine And.intro rfl ?_)); done))) | (refine And.intro ?_ ?_; (focus (first | omega | (dsimp -iota only; omega) | (simp -iota; omega) | (simp -iota; done) | decide)))); conv => whnf)
        refine ⟨⟨i + 1, by omega, fun j hj' => ?_⟩, Ent.mk' [some 0, some 1] (by kernel_rfl) (by repeat' first | exact trivial | refine And.intro (AVE.refl _) ?_ | refine And.intro (AVE.int (by first | rfl | omega | (dsimp only; omega) | (simp -iota; omega) | (simp -iota; done))) ?_ | refine And.intro (AVE.bool (by assumption)) ?_ | refine And.intro (AVE.len (by first | rfl | omega | (dsimp only; omega) | (simp -iota; omega) | (simp -iota; done))) ?_) (by repeat' (first | exact trivial | refine ⟨⟨_, rfl, ChE.refl _⟩, ?_⟩)), ?_⟩
        · by_cases e : j = i
          · subst e
            simpa [hix] using g
          · exact hj j (by omega)
        · show s.l.length - (i + 1) < s.l.length - i
          omega
    · have e := plc_none (l := s.l) (x := x) fun j hjl => hj j (by omega)
      rw [e]
      (conv => whnf); repeat ((first | (refine And.intro ?_ ?_; (focus ((repeat' (first | exact trivial | refine And.intro rfl ?_)); done))) | (refine And.intro ?_ ?_; (focus (first | omega | (dsimp -iota only; omega) | (simp -iota; omega) | (simp -iota; done) | decide)))); conv => whnf)
      refine ⟨_, _, Ent.mk' (e' := [(0, AV.int .i64 (-1))]) (H' := s.R) [some 0, some 1] (by kernel_rfl) ?_ ?_, (), rfl, rfl⟩
      · exact ⟨AVE.refl _, trivial⟩
      · (repeat' first | exact trivial | refine ⟨⟨_, rfl, ChE.refl _⟩, ?_⟩)
theorem oF_push {e : Nat} {l : List OP} {p : OP} {g : Nat → List IV} (hg : g 0 = [.str p.1, .v (.int .u64 p.2.1), .v (.int .u64 p.2.2)]) : ChE (.rowc e 3 (l.length + 1) fun j => if j < l.length then oF l j else g (j - l.length)) (.rowc e 3 (l ++ [p]).length (oF (l ++ [p]))) := by
  refine ChE.row (by simp) fun j hj => ?_
  by_cases h : j < l.length
  · simp only [if_pos h]
    unfold oF
    simp [List.getD, List.getElem?_append_left, h]
  · have : j = l.length := by simp at hj; omega
    subst this
    simp only [if_neg h, Nat.sub_self]
    rw [hg]
    simp [oF]
theorem radd_ok (hs : s.Ok) (x : List UInt8) (q : Nat) (hq : q ≤ 18446744073709551615) : AFn Go.Proofs.Try.prog 16 [.ptr 0 0, .str x, AV.int .u64 q] (one s.R) (fun _ : Unit => .tup [AV.int .u64 (s.addM x q), AV.int .i64 (s.addE x q)]) (fun _ => one (s.add x q).R) := by
  have hn := hs.n
  have hl := hs.len
  refine ACall.fin ?_
  refine ACall.walkE (C := cfg 50 1) (cfgOk _ _) sch16 (fn := Go.Proofs.Try.f16) (by kernel_rfl) (by kernel_rfl) rfl (by kernel_rfl) (by kernel_rfl) rfl rfl (H1 := s.R) (fun _ _ => (HEnt.openOne (s.R) rfl rfl).ent) fun hlen hheap => ?_
  (conv => whnf); repeat ((first | (refine And.intro ?_ ?_; (focus ((repeat' (first | exact trivial | refine And.intro rfl ?_)); done))) | (refine And.intro ?_ ?_; (focus (first | omega | (dsimp -iota only; omega) | (simp -iota; omega) | (simp -iota; done) | decide)))); conv => whnf)
  refine AFn.use [] (rmay_ok x) (by kernel_rfl) rfl (by repeat' first | exact trivial | refine ⟨rfl, ?_⟩) fun _ => ?_
  (conv => whnf); repeat ((first | (refine And.intro ?_ ?_; (focus ((repeat' (first | exact trivial | refine And.intro rfl ?_)); done))) | (refine And.intro ?_ ?_; (focus (first | omega | (dsimp -iota only; omega) | (simp -iota; omega) | (simp -iota; done) | decide)))); conv => whnf)
  cases hk : okN x with
  | false =>
    have ha : s.addE x q = 32 := by simp [SN.addE, hk]
    have e1 : s.addM x q = 0 := by simp [SN.addM, ha]
    have e2 : s.add x q = s := by simp [SN.add, ha]
    rw [e1, e2, ha]
    (conv => whnf); repeat ((first | (refine And.intro ?_ ?_; (focus ((repeat' (first | exact trivial | refine And.intro rfl ?_)); done))) | (refine And.intro ?_ ?_; (focus (first | omega | (dsimp -iota only; omega) | (simp -iota; omega) | (simp -iota; done) | decide)))); conv => whnf)
    refine ⟨_, _, Ent.shutAt (r2 := .tup [AV.int .u64 0, AV.int .i64 32]) [some 0, some 1] (s.R) rfl (by kernel_rfl) (AVE.of_eq ?_) ?_ (by kernel_rfl) (by kernel_rfl) (by repeat' first | exact trivial | refine ⟨rfl, ?_⟩) rfl, (), ?_, ?_⟩
    all_goals first | rfl | (repeat' first | exact trivial | refine ⟨⟨_, rfl, ChE.refl _⟩, ?_⟩)
  | true =>
    (conv => whnf); repeat ((first | (refine And.intro ?_ ?_; (focus ((repeat' (first | exact trivial | refine And.intro rfl ?_)); done))) | (refine And.intro ?_ ?_; (focus (first | omega | (dsimp -iota only; omega) | (simp -iota; omega) | (simp -iota; done) | decide)))); conv => whnf)
    refine branchB_of (fun g => ?_) (fun g => ?_) <;> (first | replace g := not_t g | replace g := not_f g | skip) <;> (first | replace g := of_decide_eq_true g | replace g := of_decide_eq_false g | skip) <;> (first | replace g := Classical.not_not.1 g | skip) <;> (try dsimp only at g)
    · have ha : s.addE x q = 1 := by simp [SN.addE, hk, show 1099511627776 < q from by omega]
      have e1 : s.addM x q = 0 := by simp [SN.addM, ha]
      have e2 : s.add x q = s := by simp [SN.add, ha]
      rw [e1, e2, ha]
      (conv => whnf); repeat ((first | (refine And.intro ?_ ?_; (focus ((repeat' (first | exact trivial | refine And.intro rfl ?_)); done))) | (refine And.intro ?_ ?_; (focus (first | omega | (dsimp -iota only; omega) | (simp -iota; omega) | (simp -iota; done) | decide)))); conv => whnf)
      refine ⟨_, _, Ent.shutAt (r2 := .tup [AV.int .u64 0, AV.int .i64 1]) [some 0, some 1] (s.R) rfl (by kernel_rfl) (AVE.of_eq ?_) ?_ (by kernel_rfl) (by kernel_rfl) (by repeat' first | exact trivial | refine ⟨rfl, ?_⟩) rfl, (), ?_, ?_⟩
      all_goals first | rfl | (repeat' first | exact trivial | refine ⟨⟨_, rfl, ChE.refl _⟩, ?_⟩)
    · (conv => whnf); repeat ((first | (refine And.intro ?_ ?_; (focus ((repeat' (first | exact trivial | refine And.intro rfl ?_)); done))) | (refine And.intro ?_ ?_; (focus (first | omega | (dsimp -iota only; omega) | (simp -iota; omega) | (simp -iota; done) | decide)))); conv => whnf)
      refine AFn.use [0, 1] (place_in s (by omega) x) (by kernel_rfl) rfl (by repeat' first | exact trivial | refine ⟨rfl, ?_⟩) fun _ => ?_
      (conv => whnf); repeat ((first | (refine And.intro ?_ ?_; (focus ((repeat' (first | exact trivial | refine And.intro rfl ?_)); done))) | (refine And.intro ?_ ?_; (focus (first | omega | (dsimp -iota only; omega) | (simp -iota; omega) | (simp -iota; done) | decide)))); conv => whnf)
      cases hf : afind s.l x with
      | some p =>
        obtain ⟨k, hk1, hk2, _⟩ := plc_find hs.dup hf
        rw [hk2]
        (conv => whnf); repeat ((first | (refine And.intro ?_ ?_; (focus ((repeat' (first | exact trivial | refine And.intro rfl ?_)); done))) | (refine And.intro ?_ ?_; (focus (first | omega | (dsimp -iota only; omega) | (simp -iota; omega) | (simp -iota; done) | decide)))); conv => whnf)
        have ha : s.addE x q = 34 := by simp [SN.addE, hk, hf, show ¬ 1099511627776 < q from by omega]
        have e1 : s.addM x q = 0 := by simp [SN.addM, ha]
        have e2 : s.add x q = s := by simp [SN.add, ha]
        rw [e1, e2, ha]
        (conv => whnf); repeat ((first | (refine And.intro ?_ ?_; (focus ((repeat' (first | exact trivial | refine And.intro rfl ?_)); done))) | (refine And.intro ?_ ?_; (focus (first | omega | (dsimp -iota only; omega) | (simp -iota; omega) | (simp -iota; done) | decide)))); conv => whnf)
        refine ⟨_, _, Ent.shutAt (r2 := .tup [AV.int .u64 0, AV.int .i64 34]) [some 0, some 1] (s.R) rfl (by kernel_rfl) (AVE.of_eq ?_) ?_ (by kernel_rfl) (by kernel_rfl) (by repeat' first | exact trivial | refine ⟨rfl, ?_⟩) rfl, (), ?_, ?_⟩
        all_goals first | rfl | (repeat' first | exact trivial | refine ⟨⟨_, rfl, ChE.refl _⟩, ?_⟩)
      | none =>
        rw [plc_find_none hf]
        (conv => whnf); repeat ((first | (refine And.intro ?_ ?_; (focus ((repeat' (first | exact trivial | refine And.intro rfl ?_)); done))) | (refine And.intro ?_ ?_; (focus (first | omega | (dsimp -iota only; omega) | (simp -iota; omega) | (simp -iota; done) | decide)))); conv => whnf)
        refine branchB_of (fun g2 => ?_) (fun g2 => ?_) <;> (first | replace g2 := not_t g2 | replace g2 := not_f g2 | skip) <;> (first | replace g2 := of_decide_eq_true g2 | replace g2 := of_decide_eq_false g2 | skip) <;> (first | replace g2 := Classical.not_not.1 g2 | skip) <;> (try dsimp only at g2)
        · have ha : s.addE x q = 39 := by simp [SN.addE, hk, hf, show ¬ 1099511627776 < q from by omega, show 16 ≤ s.l.length from by omega]
          have e1 : s.addM x q = 0 := by simp [SN.addM, ha]
          have e2 : s.add x q = s := by simp [SN.add, ha]
          rw [e1, e2, ha]
          (conv => whnf); repeat ((first | (refine And.intro ?_ ?_; (focus ((repeat' (first | exact trivial | refine And.intro rfl ?_)); done))) | (refine And.intro ?_ ?_; (focus (first | omega | (dsimp -iota only; omega) | (simp -iota; omega) | (simp -iota; done) | decide)))); conv => whnf)
          refine ⟨_, _, Ent.shutAt (r2 := .tup [AV.int .u64 0, AV.int .i64 39]) [some 0, some 1] (s.R) rfl (by kernel_rfl) (AVE.of_eq ?_) ?_ (by kernel_rfl) (by kernel_rfl) (by repeat' first | exact trivial | refine ⟨rfl, ?_⟩) rfl, (), ?_, ?_⟩
          all_goals first | rfl | (repeat' first | exact trivial | refine ⟨⟨_, rfl, ChE.refl _⟩, ?_⟩)
        · have ha : s.addE x q = 0 := by simp [SN.addE, hk, hf, show ¬ 1099511627776 < q from by omega, show ¬ 16 ≤ s.l.length from by omega]
          have e1 : s.addM x q = s.n + 1 := by simp [SN.addM, ha]
          rw [e1, add_l s ha, ha]
          (conv => whnf); repeat ((first | (refine And.intro ?_ ?_; (focus ((repeat' (first | exact trivial | refine And.intro rfl ?_)); done))) | (refine And.intro ?_ ?_; (focus (first | omega | (dsimp -iota only; omega) | (simp -iota; omega) | (simp -iota; done) | decide)))); conv => whnf)
          refine ⟨_, _, Ent.shutAt (r2 := .tup [AV.int .u64 (s.n + 1 : Nat), AV.int .i64 0]) [some 0, some 3] (SN.R ⟨s.l ++ [(x, (q, s.n + 1))], s.n + 1⟩) rfl (by kernel_rfl) (AVE.of_eq ?_) ?_ (by kernel_rfl) (by kernel_rfl) (by repeat' first | exact trivial | refine ⟨rfl, ?_⟩) rfl, (), ?_, ?_⟩
          all_goals first | rfl | exact ⟨⟨_, rfl, ChE.cells ⟨AVE.len (by simp), AVE.refl _, rfl⟩⟩, ⟨_, rfl, oF_push (p := (x, (q, s.n + 1))) rfl⟩, trivial⟩ | (repeat' first | exact trivial | refine ⟨⟨_, rfl, ChE.refl _⟩, ?_⟩)
end
end Go.Proofs.Ytoofmkkcaoojiaa.Ax

namespace Go.Proofs.Ytoofmkkcaoojiaa.Ax
open Go.RowKit
set_option maxRecDepth 100000
section
variable (s : SN)
theorem oF_cut {l : List OP} {k : Nat} (hk : k < l.length) {j : Nat} : oF (l.take k ++ l.drop (k + 1)) j = if j < k then oF l j else oF l (j + 1) := by
  unfold oF
  have e : (l.take k ++ l.drop (k + 1)).getD j od = if j < k then l.getD j od else l.getD (j + 1) od := by
    by_cases h : j < k
    · rw [if_pos h]
      simp only [List.getD]
      rw [List.getElem?_append_left (by rw [List.length_take]; omega), List.getElem?_take, if_pos h]
    · rw [if_neg h]
      simp only [List.getD]
      rw [List.getElem?_append_right (by rw [List.length_take]; omega), List.getElem?_drop, List.length_take, show k + 1 + (j - min k l.length) = j + 1 by omega]
  rw [e]
  split <;> rfl
theorem findE_eq {x : List UInt8} {p : Pin} (hk : okN x = true) (h : afind s.l x = some p) : s.findE x = 0 := by simp [SN.findE, hk, h]
theorem rdrop_ok (hs : s.Ok) (x : List UInt8) : AFn Go.Proofs.Try.prog 17 [.ptr 0 0, .str x] (one s.R) (fun _ : Unit => AV.int .i64 (s.findE x)) (fun _ => one (s.drop x).R) := by
  have hl := hs.len
  refine ACall.fin ?_
  refine ACall.walkE (C := cfg 35 1) (cfgOk _ _) [] (fn := Go.Proofs.Try.f17) (by kernel_rfl) (by kernel_rfl) rfl (by kernel_rfl) (by kernel_rfl) rfl rfl (H1 := s.R) (fun _ _ => (HEnt.openOne (s.R) rfl rfl).ent) fun hlen hheap => ?_
  (conv => whnf); repeat ((first | (refine And.intro ?_ ?_; (focus ((repeat' (first | exact trivial | refine And.intro rfl ?_)); done))) | (refine And.intro ?_ ?_; (focus (first | omega | (dsimp -iota only; omega) | (simp -iota; omega) | (simp -iota; done) | decide)))); conv => whnf)
  refine AFn.use [] (rmay_ok x) (by kernel_rfl) rfl (by repeat' first | exact trivial | refine ⟨rfl, ?_⟩) fun _ => ?_
  (conv => whnf); repeat ((first | (refine And.intro ?_ ?_; (focus ((repeat' (first | exact trivial | refine And.intro rfl ?_)); done))) | (refine And.intro ?_ ?_; (focus (first | omega | (dsimp -iota only; omega) | (simp -iota; omega) | (simp -iota; done) | decide)))); conv => whnf)
  cases hk : okN x with
  | false =>
    have e1 : s.findE x = 32 := by simp [SN.findE, hk]
    have e2 : s.drop x = s := by simp [SN.drop, e1]
    rw [e1, e2]
    (conv => whnf); repeat ((first | (refine And.intro ?_ ?_; (focus ((repeat' (first | exact trivial | refine And.intro rfl ?_)); done))) | (refine And.intro ?_ ?_; (focus (first | omega | (dsimp -iota only; omega) | (simp -iota; omega) | (simp -iota; done) | decide)))); conv => whnf)
    refine ⟨_, _, Ent.shutAt (r2 := AV.int .i64 32) [some 0, some 1] (s.R) rfl (by kernel_rfl) (AVE.of_eq ?_) ?_ (by kernel_rfl) (by kernel_rfl) (by repeat' first | exact trivial | refine ⟨rfl, ?_⟩) rfl, (), ?_, ?_⟩
    all_goals first | rfl | (repeat' first | exact trivial | refine ⟨⟨_, rfl, ChE.refl _⟩, ?_⟩)
  | true =>
    (conv => whnf); repeat ((first | (refine And.intro ?_ ?_; (focus ((repeat' (first | exact trivial | refine And.intro rfl ?_)); done))) | (refine And.intro ?_ ?_; (focus (first | omega | (dsimp -iota only; omega) | (simp -iota; omega) | (simp -iota; done) | decide)))); conv => whnf)
    refine AFn.use [0, 1] (place_in s (by omega) x) (by kernel_rfl) rfl (by repeat' first | exact trivial | refine ⟨rfl, ?_⟩) fun _ => ?_
    (conv => whnf); repeat ((first | (refine And.intro ?_ ?_; (focus ((repeat' (first | exact trivial | refine And.intro rfl ?_)); done))) | (refine And.intro ?_ ?_; (focus (first | omega | (dsimp -iota only; omega) | (simp -iota; omega) | (simp -iota; done) | decide)))); conv => whnf)
    cases hf : afind s.l x with
    | none =>
      rw [plc_find_none hf]
      have e1 : s.findE x = 33 := by simp [SN.findE, hk, hf]
      have e2 : s.drop x = s := by simp [SN.drop, e1]
      rw [e1, e2]
      (conv => whnf); repeat ((first | (refine And.intro ?_ ?_; (focus ((repeat' (first | exact trivial | refine And.intro rfl ?_)); done))) | (refine And.intro ?_ ?_; (focus (first | omega | (dsimp -iota only; omega) | (simp -iota; omega) | (simp -iota; done) | decide)))); conv => whnf)
      refine ⟨_, _, Ent.shutAt (r2 := AV.int .i64 33) [some 0, some 1] (s.R) rfl (by kernel_rfl) (AVE.of_eq ?_) ?_ (by kernel_rfl) (by kernel_rfl) (by repeat' first | exact trivial | refine ⟨rfl, ?_⟩) rfl, (), ?_, ?_⟩
      all_goals first | rfl | (repeat' first | exact trivial | refine ⟨⟨_, rfl, ChE.refl _⟩, ?_⟩)
    | some p =>
      obtain ⟨k, hk1, hk2, hk3, hk4⟩ := plc_find hs.dup hf
      have e1 : s.findE x = 0 := findE_eq s hk hf
      have e2 : s.drop x = ⟨adel s.l x, s.n⟩ := if_pos e1
      have kx : ((k : Nat) : Int).toNat = k := by simp
      have kx1 : ((k : Int) + 1).toNat = k + 1 := by omega
      have kn : ((s.l.length : Nat) : Int).toNat = s.l.length := by simp
      rw [hk2, e1, e2]
      (conv => whnf); repeat ((first | (refine And.intro ?_ ?_; (focus ((repeat' (first | exact trivial | refine And.intro rfl ?_)); done))) | (refine And.intro ?_ ?_; (focus (first | omega | (dsimp -iota only; omega) | (simp -iota; omega) | (simp -iota; done) | decide)))); conv => whnf)
      refine ⟨_, _, Ent.shutAt (r2 := AV.int .i64 0) [some 0, some 3] (SN.R ⟨s.l.take k ++ s.l.drop (k + 1), s.n⟩) rfl (by kernel_rfl) (AVE.of_eq ?_) ?_ (by kernel_rfl) (by kernel_rfl) (by repeat' first | exact trivial | refine ⟨rfl, ?_⟩) rfl, (), ?_, ?_⟩
      · rfl
      · exact ⟨⟨_, rfl, ChE.cells ⟨AVE.len (by simp; omega), AVE.refl _, rfl⟩⟩, ⟨_, rfl, ChE.row (by simp; omega) fun j hj => by
          rw [oF_cut hk1]
          show (if j < ((k : Nat) : Int).toNat - Int.toNat 0 then oF s.l j else oF s.l (0 + ((k : Int) + 1).toNat + (j - (((k : Nat) : Int).toNat - Int.toNat 0)))) = _
          rw [kx, kx1, show Int.toNat 0 = 0 from rfl, Nat.sub_zero, Nat.zero_add]
          by_cases hjk : j < k
          · rw [if_pos hjk, if_pos hjk]
          · rw [if_neg hjk, if_neg hjk, show k + 1 + (j - k) = j + 1 by omega]⟩, trivial⟩
      · rfl
      · rw [hk4]
theorem rget_in (hs : s.Ok) (x : List UInt8) : AFn Go.Proofs.Try.prog 20 [.ptr 0 0, .str x] s.R (fun _ : Unit => .tup [AV.int .u64 (s.findP x).1, AV.int .u64 (s.findP x).2, AV.int .i64 (s.findE x)]) (fun _ => s.R) := by
  have hl := hs.len
  refine ACall.fin ?_
  refine ACall.walk (C := cfg 32 2) (cfgOk _ _) sch20 (fn := Go.Proofs.Try.f20) (by kernel_rfl) (by kernel_rfl) rfl (by kernel_rfl) (by kernel_rfl) rfl rfl ?_
  (conv => whnf); repeat ((first | (refine And.intro ?_ ?_; (focus ((repeat' (first | exact trivial | refine And.intro rfl ?_)); done))) | (refine And.intro ?_ ?_; (focus (first | omega | (dsimp -iota only; omega) | (simp -iota; omega) | (simp -iota; done) | decide)))); conv => whnf)
  refine AFn.use [] (rmay_ok x) (by kernel_rfl) rfl (by repeat' first | exact trivial | refine ⟨rfl, ?_⟩) fun _ => ?_
  (conv => whnf); repeat ((first | (refine And.intro ?_ ?_; (focus ((repeat' (first | exact trivial | refine And.intro rfl ?_)); done))) | (refine And.intro ?_ ?_; (focus (first | omega | (dsimp -iota only; omega) | (simp -iota; omega) | (simp -iota; done) | decide)))); conv => whnf)
  cases hk : okN x with
  | false =>
    have e1 : s.findE x = 32 := by simp [SN.findE, hk]
    have e2 : s.findP x = (0, 0) := by simp [SN.findP, hk]
    rw [e1, e2]
    (conv => whnf); repeat ((first | (refine And.intro ?_ ?_; (focus ((repeat' (first | exact trivial | refine And.intro rfl ?_)); done))) | (refine And.intro ?_ ?_; (focus (first | omega | (dsimp -iota only; omega) | (simp -iota; omega) | (simp -iota; done) | decide)))); conv => whnf)
    refine ⟨_, _, Ent.mk' (e' := [(0, .tup [AV.int .u64 0, AV.int .u64 0, AV.int .i64 32])]) (H' := s.R) [some 0, some 1] (by kernel_rfl) ?_ ?_, (), rfl, rfl⟩
    · exact ⟨AVE.refl _, trivial⟩
    · (repeat' first | exact trivial | refine ⟨⟨_, rfl, ChE.refl _⟩, ?_⟩)
  | true =>
    (conv => whnf); repeat ((first | (refine And.intro ?_ ?_; (focus ((repeat' (first | exact trivial | refine And.intro rfl ?_)); done))) | (refine And.intro ?_ ?_; (focus (first | omega | (dsimp -iota only; omega) | (simp -iota; omega) | (simp -iota; done) | decide)))); conv => whnf)
    refine AFn.use [0, 1] (place_in s (by omega) x) (by kernel_rfl) rfl (by repeat' first | exact trivial | refine ⟨rfl, ?_⟩) fun _ => ?_
    (conv => whnf); repeat ((first | (refine And.intro ?_ ?_; (focus ((repeat' (first | exact trivial | refine And.intro rfl ?_)); done))) | (refine And.intro ?_ ?_; (focus (first | omega | (dsimp -iota only; omega) | (simp -iota; omega) | (simp -iota; done) | decide)))); conv => whnf)
    cases hf : afind s.l x with
    | none =>
      rw [plc_find_none hf]
      have e1 : s.findE x = 33 := by simp [SN.findE, hk, hf]
      have e2 : s.findP x = (0, 0) := by simp [SN.findP, hk, hf]
      rw [e1, e2]
      (conv => whnf); repeat ((first | (refine And.intro ?_ ?_; (focus ((repeat' (first | exact trivial | refine And.intro rfl ?_)); done))) | (refine And.intro ?_ ?_; (focus (first | omega | (dsimp -iota only; omega) | (simp -iota; omega) | (simp -iota; done) | decide)))); conv => whnf)
      refine ⟨_, _, Ent.mk' (e' := [(0, .tup [AV.int .u64 0, AV.int .u64 0, AV.int .i64 33])]) (H' := s.R) [some 0, some 1] (by kernel_rfl) ?_ ?_, (), rfl, rfl⟩
      · exact ⟨AVE.refl _, trivial⟩
      · (repeat' first | exact trivial | refine ⟨⟨_, rfl, ChE.refl _⟩, ?_⟩)
    | some p =>
      obtain ⟨k, hk1, hk2, hk3, hk4⟩ := plc_find hs.dup hf
      have e1 : s.findE x = 0 := findE_eq s hk hf
      have e2 : s.findP x = p := by simp [SN.findP, hk, hf]
      have kx : ((k : Nat) : Int).toNat = k := by simp
      rw [hk2, e1, e2]
      (conv => whnf); repeat ((first | (refine And.intro ?_ ?_; (focus ((repeat' (first | exact trivial | refine And.intro rfl ?_)); done))) | (refine And.intro ?_ ?_; (focus (first | omega | (dsimp -iota only; omega) | (simp -iota; omega) | (simp -iota; done) | decide)))); conv => whnf)
      refine ⟨_, _, Ent.mk' (e' := [(0, .tup [AV.int .u64 p.1, AV.int .u64 p.2, AV.int .i64 0])]) (H' := s.R) [some 0, some 1] (by kernel_rfl) ?_ ?_, (), rfl, rfl⟩
      · refine ⟨AVE.of_eq ?_, trivial⟩
        show AV.tup [AV.int .u64 (s.l.getD (0 + ((k : Nat) : Int).toNat) od).2.1, AV.int .u64 (s.l.getD (0 + ((k : Nat) : Int).toNat) od).2.2, AV.int .i64 0] = AV.tup [AV.int .u64 p.1, AV.int .u64 p.2, AV.int .i64 0]
        rw [Nat.zero_add, kx, hk3]
      · (repeat' first | exact trivial | refine ⟨⟨_, rfl, ChE.refl _⟩, ?_⟩)
theorem lives_at0 {k i : Nat} (hi : i < s.l.length) (h1 : (s.l.getD i od).2.2 = k) (h2 : ∀ j, j < i → (s.l.getD j od).2.2 ≠ k) : s.livesO k = some (s.l.getD i od) := by
  unfold SN.livesO
  rw [List.find?_eq_some_iff_getElem]
  refine ⟨by simpa using h1, i, hi, (od_get hi).symm, fun j hj => ?_⟩
  have := h2 j hj
  rw [od_get (by omega)] at this
  simpa using this
theorem rlives_in (hs : s.Ok) (k : Nat) : AFn Go.Proofs.Try.prog 21 [.ptr 0 0, AV.int .u64 k] s.R (fun _ : Unit => .tup [.agg [.str (s.livesN k), AV.int .u64 (s.livesQ k)], AV.bool (s.livesB k)]) (fun _ => s.R) := by
  have hl := hs.len
  refine ACall.fin ?_
  refine ACall.walk (C := cfg 44 2) (cfgOk _ _) sch21 (fn := Go.Proofs.Try.f21) (by kernel_rfl) (by kernel_rfl) rfl (by kernel_rfl) (by kernel_rfl) rfl rfl ?_
  (conv => whnf); repeat ((first | (refine And.intro ?_ ?_; (focus ((repeat' (first | exact trivial | refine And.intro rfl ?_)); done))) | (refine And.intro ?_ ?_; (focus (first | omega | (dsimp -iota only; omega) | (simp -iota; omega) | (simp -iota; done) | decide)))); conv => whnf)
  refine AWP.loop (X := { y : Nat // y ≤ s.l.length ∧ ∀ j, j < y → (s.l.getD j od).2.2 ≠ k }) (fun y => [(0, .ptr 0 0), (1, AV.int .u64 k), (4, .ptr 2 0), (6, AV.int .i64 y.1)]) (fun y => ⟨3, [(0, .cells 53 [.row 1 3 0 s.l.length, .int .u64 s.n]), (1, .rowc 77 3 s.l.length (oF s.l)), (2, .cells 38 [.iv (.v (.string ⟨⟨[]⟩⟩)), AV.int .u64 0])]⟩) (fun y => s.l.length - y.1) (⟨0, by omega, fun j hj => by omega⟩) ?_ fun y => AWP.go (S := sch21) (cfgOk _ _) (.of_eq (by kernel_rfl)) ?_
  · exact Ent.mk' [some 0, some 1, some 2] (by kernel_rfl) (by repeat' first | exact trivial | refine And.intro (AVE.refl _) ?_ | refine And.intro (AVE.int (by first | rfl | omega | (dsimp only; omega) | (simp -iota; omega) | (simp -iota; done))) ?_ | refine And.intro (AVE.bool (by assumption)) ?_ | refine And.intro (AVE.len (by first | rfl | omega | (dsimp only; omega) | (simp -iota; omega) | (simp -iota; done))) ?_) (by repeat' (first | exact trivial | refine ⟨⟨_, rfl, ChE.refl _⟩, ?_⟩))
  · obtain ⟨i, hi, hj⟩ := y
    have hix : ((i : Nat) : Int).toNat = i := by simp
    (conv => whnf); repeat ((first | (refine And.intro ?_ ?_; (focus ((repeat' (first | exact trivial | refine And.intro rfl ?_)); done))) | (refine And.intro ?_ ?_; (focus (first | omega | (dsimp -iota only; omega) | (simp -iota; omega) | (simp -iota; done) | decide)))); conv => whnf)
    refine branchB_of (fun h => ?_) (fun h => ?_) <;> (first | replace h := not_t h | replace h := not_f h | skip) <;> (first | replace h := of_decide_eq_true h | replace h := of_decide_eq_false h | skip) <;> (first | replace h := Classical.not_not.1 h | skip) <;> (try dsimp only at h)
    · (conv => whnf); repeat ((first | (refine And.intro ?_ ?_; (focus ((repeat' (first | exact trivial | refine And.intro rfl ?_)); done))) | (refine And.intro ?_ ?_; (focus (first | omega | (dsimp -iota only; omega) | (simp -iota; omega) | (simp -iota; done) | decide)))); conv => whnf)
      refine branchB_of (fun g => ?_) (fun g => ?_) <;> (first | replace g := not_t g | replace g := not_f g | skip) <;> (first | replace g := of_decide_eq_true g | replace g := of_decide_eq_false g | skip) <;> (first | replace g := Classical.not_not.1 g | skip) <;> (try dsimp only at g)
      · rw [hix, Nat.zero_add] at g
        have e0 := lives_at0 s (k := k) (i := i) (by omega) (by omega) hj
        have e1 : s.livesN k = (s.l.getD i od).1 := by simp [SN.livesN, e0]
        have e2 : s.livesQ k = (s.l.getD i od).2.1 := by simp [SN.livesQ, e0]
        have e3 : s.livesB k = true := by simp [SN.livesB, e0]
        rw [e1, e2, e3]
        (conv => whnf); repeat ((first | (refine And.intro ?_ ?_; (focus ((repeat' (first | exact trivial | refine And.intro rfl ?_)); done))) | (refine And.intro ?_ ?_; (focus (first | omega | (dsimp -iota only; omega) | (simp -iota; omega) | (simp -iota; done) | decide)))); conv => whnf)
        refine ⟨_, _, Ent.mk' (e' := [(0, .tup [.agg [.str (s.l.getD i od).1, AV.int .u64 (s.l.getD i od).2.1], AV.bool true])]) (H' := s.R) [some 0, some 1] (by kernel_rfl) ?_ ?_, (), rfl, rfl⟩
        · refine ⟨AVE.of_eq ?_, trivial⟩
          show AV.tup [.agg [.str (s.l.getD (0 + ((i : Nat) : Int).toNat) od).1, AV.int .u64 (s.l.getD (0 + ((i : Nat) : Int).toNat) od).2.1], AV.bool true] = _
          rw [Nat.zero_add, hix]
          rfl
        · (repeat' first | exact trivial | refine ⟨⟨_, rfl, ChE.refl _⟩, ?_⟩)
      · rw [hix, Nat.zero_add] at g
        (conv => whnf); repeat ((first | (refine And.intro ?_ ?_; (focus ((repeat' (first | exact trivial | refine And.intro rfl ?_)); done))) | (refine And.intro ?_ ?_; (focus (first | omega | (dsimp -iota only; omega) | (simp -iota; omega) | (simp -iota; done) | decide)))); conv => whnf)
        refine ⟨⟨i + 1, by omega, fun j hj' => ?_⟩, Ent.mk' [some 0, some 1, some 2] (by kernel_rfl) (by repeat' first | exact trivial | refine And.intro (AVE.refl _) ?_ | refine And.intro (AVE.int (by first | rfl | omega | (dsimp only; omega) | (simp -iota; omega) | (simp -iota; done))) ?_ | refine And.intro (AVE.bool (by assumption)) ?_ | refine And.intro (AVE.len (by first | rfl | omega | (dsimp only; omega) | (simp -iota; omega) | (simp -iota; done))) ?_) (by repeat' (first | exact trivial | refine ⟨⟨_, rfl, ChE.refl _⟩, ?_⟩)), ?_⟩
        · by_cases e : j = i
          · subst e
            omega
          · exact hj j (by omega)
        · show s.l.length - (i + 1) < s.l.length - i
          omega
    · have h0 : s.livesO k = none := lives_none s fun p hp => by
        obtain ⟨j, hjl, e⟩ := List.getElem_of_mem hp
        have := hj j (by omega)
        rw [od_get hjl, e] at this
        exact this
      have e1 : s.livesN k = [] := by simp [SN.livesN, h0]
      have e2 : s.livesQ k = 0 := by simp [SN.livesQ, h0]
      have e3 : s.livesB k = false := by simp [SN.livesB, h0]
      rw [e1, e2, e3]
      (conv => whnf); repeat ((first | (refine And.intro ?_ ?_; (focus ((repeat' (first | exact trivial | refine And.intro rfl ?_)); done))) | (refine And.intro ?_ ?_; (focus (first | omega | (dsimp -iota only; omega) | (simp -iota; omega) | (simp -iota; done) | decide)))); conv => whnf)
      refine ⟨_, _, Ent.mk' (e' := [(0, .tup [.agg [.str [], AV.int .u64 0], AV.bool false])]) (H' := s.R) [some 0, some 1] (by kernel_rfl) ?_ ?_, (), rfl, rfl⟩
      · exact ⟨AVE.tup2 (AVE.agg2 AVE.zs (AVE.refl _)) (AVE.refl _), trivial⟩
      · (repeat' first | exact trivial | refine ⟨⟨_, rfl, ChE.refl _⟩, ?_⟩)
end
end Go.Proofs.Ytoofmkkcaoojiaa.Ax

namespace Go.Proofs.Ytoofmkkcaoojiaa.Ax
open Go.RowKit
set_option maxRecDepth 100000
abbrev d0 : NQ := ([], 0)
theorem gtr_iff {a b : List UInt8} : (!(Op.bytesLess a b || decide (a = b))) = true ↔ b < a := by
  rw [Go.Proofs.bytesLess_eq]
  simp only [Bool.not_eq_true', Bool.or_eq_false_iff, decide_eq_false_iff_not]
  constructor
  · rintro ⟨h1, h2⟩
    exact Classical.byContradiction fun h => h2 (List.le_antisymm (List.not_lt.1 h) (List.not_lt.1 h1))
  · intro h
    exact ⟨fun h1 => List.lt_irrefl a (List.lt_trans h1 h), fun e => by subst e; exact List.lt_irrefl _ h⟩
theorem gtr_no {a b : List UInt8} (h : (!(Op.bytesLess a b || decide (a = b))) = false) : ¬ b < a := fun h2 => by
  rw [gtr_iff.2 h2] at h
  cases h
def lastOf (N : List NQ) (m : Nat) : List UInt8 := if m = 0 then [] else (N.getD (m - 1) d0).1
structure Ord (l : List OP) (N : List NQ) : Prop where
  lt : ∀ i j, i < j → j < N.length → (N.getD i d0).1 < (N.getD j d0).1
  ne : ∀ j, j < N.length → [] < (N.getD j d0).1
  to : ∀ i, i < l.length → ∃ j, j < N.length ∧ N.getD j d0 = ((l.getD i od).1, (l.getD i od).2.1)
  fro : ∀ j, j < N.length → ∃ i, i < l.length ∧ N.getD j d0 = ((l.getD i od).1, (l.getD i od).2.1)
theorem nil_lt {a : List UInt8} (h : okN a = true) : [] < a := by
  cases a with
  | nil => simp [okN] at h
  | cons x xs => exact List.Lex.nil
theorem d_get {N : List NQ} {i : Nat} (h : i < N.length) : N.getD i d0 = N[i] := by simp [List.getD, h]
theorem ord_of {s : SN} (hs : s.Ok) : Ord s.l s.list := by
  have hnk : (s.nqs.map (·.1)).Nodup := by rw [nqs_keys]; exact hs.dup
  have hp : s.list.Perm s.nqs := listS_perm hnk
  have hpw := List.pairwise_iff_getElem.1 (listS_sorted s.nqs)
  have hnd : (s.list.map (·.1)).Nodup := (hp.map (·.1)).nodup_iff.2 hnk
  have back : ∀ p ∈ s.list, ∃ i, i < s.l.length ∧ p = ((s.l.getD i od).1, (s.l.getD i od).2.1) := fun p h => by
    obtain ⟨q, hq, e⟩ := List.mem_map.1 (hp.mem_iff.1 h)
    obtain ⟨i, hi, e2⟩ := List.getElem_of_mem hq
    exact ⟨i, hi, by rw [od_get hi, e2, ← e]⟩
  refine ⟨fun i j hij hj => ?_, fun j hj => ?_, fun i hi => ?_, fun j hj => ?_⟩
  · have h1 := hpw i j (by show i < s.list.length; omega) hj hij
    simp only [nqLt, decide_eq_false_iff_not, List.not_lt] at h1
    have h2 : (s.list[i]'(by omega)).1 ≠ (s.list[j]).1 := fun e => by
      have := List.pairwise_iff_getElem.1 hnd i j (by simp; omega) (by simpa using hj) hij
      simp only [List.getElem_map] at this
      exact this e
    rw [d_get (by omega), d_get hj]
    exact Classical.byContradiction fun h => h2 (List.le_antisymm h1 (List.not_lt.1 h))
  · rw [d_get hj]
    obtain ⟨i, hi, e⟩ := back _ (List.getElem_mem hj)
    rw [e]
    exact nil_lt (hs.nm _ (od_mem hi))
  · have hm : ((s.l.getD i od).1, (s.l.getD i od).2.1) ∈ s.list := hp.mem_iff.2 (List.mem_map.2 ⟨_, od_mem hi, rfl⟩)
    obtain ⟨j, hj, e⟩ := List.getElem_of_mem hm
    exact ⟨j, hj, by rw [d_get hj, e]⟩
  · obtain ⟨i, hi, e⟩ := back _ (List.getElem_mem hj)
    exact ⟨i, hi, by rw [d_get hj, e]⟩
theorem last_lt {l : List OP} {N : List NQ} (h : Ord l N) {m j : Nat} (hm : m ≤ N.length) (hj : j < N.length) : lastOf N m < (N.getD j d0).1 ↔ m ≤ j := by
  unfold lastOf
  by_cases h0 : m = 0
  · subst h0
    simp only [if_true, Nat.zero_le, iff_true]
    exact h.ne j hj
  · rw [if_neg h0]
    constructor
    · intro hlt
      refine Classical.byContradiction fun hn => ?_
      by_cases e : j = m - 1
      · subst e
        exact List.lt_irrefl _ hlt
      · exact List.lt_irrefl _ (List.lt_trans hlt (h.lt j (m - 1) (by omega) (by omega)))
    · intro hmj
      exact h.lt (m - 1) j (by omega) hj
theorem none_more {l : List OP} {N : List NQ} (h : Ord l N) {m : Nat} (hm : m ≤ N.length) (hn : ∀ i, i < l.length → ¬ lastOf N m < (l.getD i od).1) : m = N.length := by
  refine Classical.byContradiction fun hne => ?_
  obtain ⟨i, hi, e⟩ := h.fro m (by omega)
  refine hn i hi ?_
  have := (last_lt h hm (j := m) (by omega)).2 (Nat.le_refl _)
  rw [e] at this
  exact this
theorem next_is {l : List OP} {N : List NQ} (h : Ord l N) {m k : Nat} (hm : m ≤ N.length) (hk : k < l.length) (h1 : lastOf N m < (l.getD k od).1) (h2 : ∀ i, i < l.length → lastOf N m < (l.getD i od).1 → ¬ (l.getD i od).1 < (l.getD k od).1) : m < N.length ∧ N.getD m d0 = ((l.getD k od).1, (l.getD k od).2.1) := by
  obtain ⟨j, hj, e⟩ := h.to k hk
  have e1 : (N.getD j d0).1 = (l.getD k od).1 := by rw [e]
  have hmj := (last_lt h hm hj).1 (by rw [e1]; exact h1)
  refine ⟨by omega, ?_⟩
  by_cases hjm : j = m
  · subst hjm; exact e
  · exfalso
    obtain ⟨i, hi, e2⟩ := h.fro m (by omega)
    have e3 : (N.getD m d0).1 = (l.getD i od).1 := by rw [e2]
    have h3 := (last_lt h hm (j := m) (by omega)).2 (Nat.le_refl _)
    have h4 := h.lt m j (by omega) hj
    rw [e3] at h3 h4
    rw [e1] at h4
    exact h2 i hi h3 h4
structure IX (l : List OP) (last : List UInt8) where
  i : Nat
  b : Option Nat
  hi : i ≤ l.length
  hn : b = none → ∀ j, j < i → ¬ last < (l.getD j od).1
  hs : ∀ k, b = some k → k < i ∧ last < (l.getD k od).1 ∧ ∀ j, j < i → last < (l.getD j od).1 → ¬ (l.getD j od).1 < (l.getD k od).1
def bI : Option Nat → Int
  | none => -1
  | some k => (k : Nat)
@[simp] theorem bI_some (k : Nat) : bI (some k) = (k : Nat) := rfl
structure OX (N : List NQ) where
  m : Nat
  hm : m ≤ N.length
section
variable (s : SN)
theorem rlist_in (hs : s.Ok) : AFn Go.Proofs.Try.prog 22 [.ptr 0 0] s.R (fun _ : Unit => .iv (.sl 2 s.list.length (nqF s.list))) (fun _ => s.R) := by
  have hl := hs.len
  have hO := ord_of hs
  have hNl : s.list.length ≤ 16 := by
    rw [SN.list, listS_length, SN.nqs, List.length_map]
    exact hl
  generalize hNe : s.list = N at hO hNl ⊢
  refine ACall.fin ?_
  refine ACall.walk (C := cfg 74 2) (cfgOk _ _) sch22 (fn := Go.Proofs.Try.f22) (by kernel_rfl) (by kernel_rfl) rfl (by kernel_rfl) (by kernel_rfl) rfl rfl ?_
  (conv => whnf); repeat ((first | (refine And.intro ?_ ?_; (focus ((repeat' (first | exact trivial | refine And.intro rfl ?_)); done))) | (refine And.intro ?_ ?_; (focus (first | omega | (dsimp -iota only; omega) | (simp -iota; omega) | (simp -iota; done) | decide)))); conv => whnf)
  refine AWP.loop (X := OX N) (fun y => [(0, .ptr 0 0), (3, .row 2 2 0 y.m), (4, .str (lastOf N y.m))]) (fun y => ⟨3, [(0, .cells 53 [.row 1 3 0 s.l.length, .int .u64 s.n]), (1, .rowc 77 3 s.l.length (oF s.l)), (2, .rowc 38 2 y.m (nqF N))]⟩) (fun y => N.length - y.m) (⟨0, by omega⟩) ?_ fun y => AWP.go (S := sch22) (cfgOk _ _) (.of_eq (by kernel_rfl)) ?_
  · refine Ent.mk' [some 0, some 1, none] (by kernel_rfl) ?_ ?_
    · exact ⟨AVE.refl _, AVE.nil _ _, AVE.of_eq rfl, trivial⟩
    · exact ⟨⟨_, rfl, ChE.refl _⟩, ⟨_, rfl, ChE.refl _⟩, trivial, trivial⟩
  · obtain ⟨m, hm⟩ := y
    (conv => whnf); repeat ((first | (refine And.intro ?_ ?_; (focus ((repeat' (first | exact trivial | refine And.intro rfl ?_)); done))) | (refine And.intro ?_ ?_; (focus (first | omega | (dsimp -iota only; omega) | (simp -iota; omega) | (simp -iota; done) | decide)))); conv => whnf)
    refine AWP.loop (X := IX s.l (lastOf N m)) (fun z => [(0, .ptr 0 0), (3, .row 2 2 0 m), (4, .str (lastOf N m)), (5, AV.int .i64 (bI z.b)), (6, AV.int .i64 z.i)]) (fun z => ⟨3, [(0, .cells 53 [.row 1 3 0 s.l.length, .int .u64 s.n]), (1, .rowc 77 3 s.l.length (oF s.l)), (2, .rowc 38 2 m (nqF N))]⟩) (fun z => s.l.length - z.i) (⟨0, none, by omega, fun _ j hj => by omega, fun k hk => by cases hk⟩) ?_ fun z => AWP.go (S := sch22) (cfgOk _ _) (.of_eq (by kernel_rfl)) ?_
    · exact Ent.mk' [some 0, some 1, some 2] (by kernel_rfl) (by repeat' first | exact trivial | refine And.intro (AVE.refl _) ?_ | refine And.intro (AVE.int (by first | rfl | omega | (dsimp only; omega) | (simp -iota; omega) | (simp -iota; done))) ?_ | refine And.intro (AVE.bool (by assumption)) ?_ | refine And.intro (AVE.len (by first | rfl | omega | (dsimp only; omega) | (simp -iota; omega) | (simp -iota; done))) ?_) (by repeat' (first | exact trivial | refine ⟨⟨_, rfl, ChE.refl _⟩, ?_⟩))
    · obtain ⟨i, b, hi, hbn, hbs⟩ := z
      have hix : ((i : Nat) : Int).toNat = i := by simp
      (conv => whnf); repeat ((first | (refine And.intro ?_ ?_; (focus ((repeat' (first | exact trivial | refine And.intro rfl ?_)); done))) | (refine And.intro ?_ ?_; (focus (first | omega | (dsimp -iota only; omega) | (simp -iota; omega) | (simp -iota; done) | decide)))); conv => whnf)
      refine branchB_of (fun h => ?_) (fun h => ?_) <;> (first | replace h := not_t h | replace h := not_f h | skip) <;> (first | replace h := of_decide_eq_true h | replace h := of_decide_eq_false h | skip) <;> (first | replace h := Classical.not_not.1 h | skip) <;> (try dsimp only at h)
      · (conv => whnf); repeat ((first | (refine And.intro ?_ ?_; (focus ((repeat' (first | exact trivial | refine And.intro rfl ?_)); done))) | (refine And.intro ?_ ?_; (focus (first | omega | (dsimp -iota only; omega) | (simp -iota; omega) | (simp -iota; done) | decide)))); conv => whnf)
        refine branchB_of (fun g => ?_) (fun g => ?_)
        · rw [hix, Nat.zero_add] at g
          have g1 := gtr_iff.1 g
          cases b with
          | none =>
            (conv => whnf); repeat ((first | (refine And.intro ?_ ?_; (focus ((repeat' (first | exact trivial | refine And.intro rfl ?_)); done))) | (refine And.intro ?_ ?_; (focus (first | omega | (dsimp -iota only; omega) | (simp -iota; omega) | (simp -iota; done) | decide)))); conv => whnf)
            refine ⟨⟨i + 1, some i, by omega, fun h => (by cases h), fun k hk => ?_⟩, Ent.mk' [some 0, some 1, some 2] (by kernel_rfl) (by repeat' first | exact trivial | refine And.intro (AVE.refl _) ?_ | refine And.intro (AVE.int (by first | rfl | omega | (dsimp only; omega) | (simp -iota; omega) | (simp -iota; done))) ?_ | refine And.intro (AVE.bool (by assumption)) ?_ | refine And.intro (AVE.len (by first | rfl | omega | (dsimp only; omega) | (simp -iota; omega) | (simp -iota; done))) ?_) (by repeat' (first | exact trivial | refine ⟨⟨_, rfl, ChE.refl _⟩, ?_⟩)), ?_⟩
            · injection hk with hk
              subst hk
              refine ⟨by omega, g1, fun j hj hlt h2 => ?_⟩
              by_cases e : j = i
              · subst e
                exact List.lt_irrefl _ h2
              · exact hbn rfl j (by omega) hlt
            · show s.l.length - (i + 1) < s.l.length - i
              omega
          | some k =>
            obtain ⟨k1, k2, k3⟩ := hbs k rfl
            have hkx : ((k : Nat) : Int).toNat = k := by simp
            (conv => whnf); repeat ((first | (refine And.intro ?_ ?_; (focus ((repeat' (first | exact trivial | refine And.intro rfl ?_)); done))) | (refine And.intro ?_ ?_; (focus (first | omega | (dsimp -iota only; omega) | (simp -iota; omega) | (simp -iota; done) | decide)))); conv => whnf)
            rw [hix, Nat.zero_add, show (bI (some k)).toNat = k from by show ((k : Nat) : Int).toNat = k; simp, Nat.zero_add]
            refine branchB_of (fun g2 => ?_) (fun g2 => ?_)
            · have g3 : (s.l.getD i od).1 < (s.l.getD k od).1 := by
                rw [Go.Proofs.bytesLess_eq, decide_eq_true_eq] at g2
                exact g2
              (conv => whnf); repeat ((first | (refine And.intro ?_ ?_; (focus ((repeat' (first | exact trivial | refine And.intro rfl ?_)); done))) | (refine And.intro ?_ ?_; (focus (first | omega | (dsimp -iota only; omega) | (simp -iota; omega) | (simp -iota; done) | decide)))); conv => whnf)
              refine ⟨⟨i + 1, some i, by omega, fun h => (by cases h), fun k' hk' => ?_⟩, Ent.mk' [some 0, some 1, some 2] (by kernel_rfl) (by repeat' first | exact trivial | refine And.intro (AVE.refl _) ?_ | refine And.intro (AVE.int (by first | rfl | omega | (dsimp only; omega) | (simp -iota; omega) | (simp -iota; done))) ?_ | refine And.intro (AVE.bool (by assumption)) ?_ | refine And.intro (AVE.len (by first | rfl | omega | (dsimp only; omega) | (simp -iota; omega) | (simp -iota; done))) ?_) (by repeat' (first | exact trivial | refine ⟨⟨_, rfl, ChE.refl _⟩, ?_⟩)), ?_⟩
              · injection hk' with hk'
                subst hk'
                refine ⟨by omega, g1, fun j hj hlt h2 => ?_⟩
                by_cases e : j = i
                · subst e
                  exact List.lt_irrefl _ h2
                · exact k3 j (by omega) hlt (List.lt_trans h2 g3)
              · show s.l.length - (i + 1) < s.l.length - i
                omega
            · have g3 : ¬ (s.l.getD i od).1 < (s.l.getD k od).1 := by
                rw [Go.Proofs.bytesLess_eq, decide_eq_false_iff_not] at g2
                exact g2
              (conv => whnf); repeat ((first | (refine And.intro ?_ ?_; (focus ((repeat' (first | exact trivial | refine And.intro rfl ?_)); done))) | (refine And.intro ?_ ?_; (focus (first | omega | (dsimp -iota only; omega) | (simp -iota; omega) | (simp -iota; done) | decide)))); conv => whnf)
              refine ⟨⟨i + 1, some k, by omega, fun h => (by cases h), fun k' hk' => ?_⟩, Ent.mk' [some 0, some 1, some 2] (by kernel_rfl) (by repeat' first | exact trivial | refine And.intro (AVE.refl _) ?_ | refine And.intro (AVE.int (by first | rfl | omega | (dsimp only; omega) | (simp -iota; omega) | (simp -iota; done))) ?_ | refine And.intro (AVE.bool (by assumption)) ?_ | refine And.intro (AVE.len (by first | rfl | omega | (dsimp only; omega) | (simp -iota; omega) | (simp -iota; done))) ?_) (by repeat' (first | exact trivial | refine ⟨⟨_, rfl, ChE.refl _⟩, ?_⟩)), ?_⟩
              · injection hk' with hk'
                subst hk'
                refine ⟨by omega, k2, fun j hj hlt h2 => ?_⟩
                by_cases e : j = i
                · subst e
                  exact g3 h2
                · exact k3 j (by omega) hlt h2
              · show s.l.length - (i + 1) < s.l.length - i
                omega
        · rw [hix, Nat.zero_add] at g
          have g1 := gtr_no g
          (conv => whnf); repeat ((first | (refine And.intro ?_ ?_; (focus ((repeat' (first | exact trivial | refine And.intro rfl ?_)); done))) | (refine And.intro ?_ ?_; (focus (first | omega | (dsimp -iota only; omega) | (simp -iota; omega) | (simp -iota; done) | decide)))); conv => whnf)
          refine ⟨⟨i + 1, b, by omega, fun h j hj => ?_, fun k hk => ?_⟩, Ent.mk' [some 0, some 1, some 2] (by kernel_rfl) (by repeat' first | exact trivial | refine And.intro (AVE.refl _) ?_ | refine And.intro (AVE.int (by first | rfl | omega | (dsimp only; omega) | (simp -iota; omega) | (simp -iota; done))) ?_ | refine And.intro (AVE.bool (by assumption)) ?_ | refine And.intro (AVE.len (by first | rfl | omega | (dsimp only; omega) | (simp -iota; omega) | (simp -iota; done))) ?_) (by repeat' (first | exact trivial | refine ⟨⟨_, rfl, ChE.refl _⟩, ?_⟩)), ?_⟩
          · by_cases e : j = i
            · subst e
              exact g1
            · exact hbn h j (by omega)
          · obtain ⟨k1, k2, k3⟩ := hbs k hk
            refine ⟨by omega, k2, fun j hj hlt => ?_⟩
            by_cases e : j = i
            · subst e
              exact absurd hlt g1
            · exact k3 j (by omega) hlt
          · show s.l.length - (i + 1) < s.l.length - i
            omega
      · have hil : i = s.l.length := by omega
        subst hil
        cases b with
        | none =>
          have hmN := none_more hO hm fun j hj => hbn rfl j hj
          subst hmN
          (conv => whnf); repeat ((first | (refine And.intro ?_ ?_; (focus ((repeat' (first | exact trivial | refine And.intro rfl ?_)); done))) | (refine And.intro ?_ ?_; (focus (first | omega | (dsimp -iota only; omega) | (simp -iota; omega) | (simp -iota; done) | decide)))); conv => whnf)
          refine ⟨_, _, (Ent.freeze 2 _ rfl rfl (e' := [(0, .iv (.sl 2 N.length (nqF N)))]) ⟨AVF.sl (Nat.le_refl _), trivial⟩).trans (Ent.mk' (e' := [(0, .iv (.sl 2 N.length (nqF N)))]) (H' := s.R) [some 0, some 1] (by kernel_rfl) ?_ ?_), (), rfl, rfl⟩
          · exact ⟨AVE.refl _, trivial⟩
          · (repeat' first | exact trivial | refine ⟨⟨_, rfl, ChE.refl _⟩, ?_⟩)
        | some k =>
          obtain ⟨k1, k2, k3⟩ := hbs k rfl
          obtain ⟨q1, q2⟩ := next_is hO hm k1 k2 fun j hj h1 => k3 j hj h1
          have hkx : ((k : Nat) : Int).toNat = k := by simp
          (conv => whnf); repeat ((first | (refine And.intro ?_ ?_; (focus ((repeat' (first | exact trivial | refine And.intro rfl ?_)); done))) | (refine And.intro ?_ ?_; (focus (first | omega | (dsimp -iota only; omega) | (simp -iota; omega) | (simp -iota; done) | decide)))); conv => whnf)
          refine ⟨⟨m + 1, by omega⟩, Ent.mk' [some 0, some 1, some 4] (by kernel_rfl) ?_ ?_, ?_⟩
          · refine ⟨AVE.refl _, AVE.refl _, AVE.of_eq ?_, trivial⟩
            show AV.str (s.l.getD (0 + ((k : Nat) : Int).toNat) od).1 = AV.str (N.getD m d0).1
            rw [hkx, Nat.zero_add, q2]
          · refine ⟨⟨_, rfl, ChE.refl _⟩, ⟨_, rfl, ChE.refl _⟩, ⟨_, rfl, ChE.push (fun j hj => rfl) ?_⟩, trivial⟩
            show IVEs [.str (s.l.getD (0 + ((k : Nat) : Int).toNat) od).1, .v (.int .u64 (s.l.getD (0 + ((k : Nat) : Int).toNat) od).2.1)] (nqF N m)
            unfold nqF
            rw [q2, hkx, Nat.zero_add]
            exact IVEs.refl _
          · show N.length - (m + 1) < N.length - m
            omega
/-! Seqs. -/
theorem lt_ext : ∀ {a b : List Nat}, a.Pairwise (· < ·) → b.Pairwise (· < ·) → (∀ x, x ∈ a ↔ x ∈ b) → a = b
  | [], [], _, _, _ => rfl
  | [], y :: b, _, _, h => by have := (h y).2 (List.mem_cons_self ..); cases this
  | x :: a, [], _, _, h => by have := (h x).1 (List.mem_cons_self ..); cases this
  | x :: a, y :: b, ha, hb, h => by
    rw [List.pairwise_cons] at ha hb
    have e : x = y := by
      rcases List.mem_cons.1 ((h x).1 (List.mem_cons_self ..)) with e | h1
      · exact e
      · rcases List.mem_cons.1 ((h y).2 (List.mem_cons_self ..)) with e | h2
        · exact e.symm
        · have := hb.1 x h1
          have := ha.1 y h2
          omega
    subst e
    congr 1
    refine lt_ext ha.2 hb.2 fun z => ?_
    have := h z
    simp only [List.mem_cons] at this
    constructor
    · intro hz
      rcases this.1 (.inr hz) with rfl | h2
      · exact absurd (ha.1 z hz) (by omega)
      · exact h2
    · intro hz
      rcases this.2 (.inr hz) with rfl | h2
      · exact absurd (hb.1 z hz) (by omega)
      · exact h2
theorem u_get {A : List Nat} {i : Nat} (h : i < A.length) : A.getD i 0 = A[i] := by simp [List.getD, h]
def ins (A : List Nat) (k n : Nat) : List Nat := A.take k ++ n :: A.drop k
theorem ins_lt {A : List Nat} {k n : Nat} (hA : A.Pairwise (· < ·)) (hk : k ≤ A.length) (h1 : ∀ j, j < k → A.getD j 0 < n) (h2 : k < A.length → n < A.getD k 0) : (ins A k n).Pairwise (· < ·) := by
  unfold ins
  have hd : ∀ x ∈ A.drop k, n < x := fun x hx => by
    obtain ⟨j, hj, e⟩ := List.getElem_of_mem hx
    rw [List.length_drop] at hj
    rw [List.getElem_drop] at e
    have := h2 (by omega)
    rw [u_get (by omega)] at this
    subst e
    rcases Nat.eq_zero_or_pos j with rfl | hj0
    · exact this
    · exact Nat.lt_trans this (List.pairwise_iff_getElem.1 hA k (k + j) (by omega) (by omega) (by omega))
  have ht : ∀ x ∈ A.take k, x < n := fun x hx => by
    obtain ⟨j, hj, e⟩ := List.getElem_of_mem hx
    rw [List.length_take] at hj
    rw [List.getElem_take] at e
    have := h1 j (by omega)
    rw [u_get (by omega)] at this
    omega
  rw [List.pairwise_append]
  refine ⟨hA.sublist (List.take_sublist _ _), List.pairwise_cons.2 ⟨hd, hA.sublist (List.drop_sublist _ _)⟩, fun x hx y hy => ?_⟩
  rcases List.mem_cons.1 hy with rfl | hy
  · exact ht x hx
  · exact Nat.lt_trans (ht x hx) (hd y hy)
theorem ins_mem {A : List Nat} {k n x : Nat} : x ∈ ins A k n ↔ x ∈ A ∨ x = n := by
  unfold ins
  conv => rhs; rw [← List.take_append_drop k A]
  simp only [List.mem_append, List.mem_cons]
  constructor
  · rintro (h | h | h)
    · exact .inl (.inl h)
    · exact .inr h
    · exact .inl (.inr h)
  · rintro ((h | h) | h)
    · exact .inl h
    · exact .inr (.inr h)
    · exact .inr (.inl h)
theorem ins_len {A : List Nat} {k n : Nat} (hk : k ≤ A.length) : (ins A k n).length = A.length + 1 := by
  simp [ins]
  omega
theorem ins_get {A : List Nat} {k n j : Nat} (hk : k ≤ A.length) : (ins A k n).getD j 0 = if j < k then A.getD j 0 else if j = k then n else A.getD (j - 1) 0 := by
  unfold ins
  simp only [List.getD]
  by_cases h : j < k
  · rw [if_pos h, List.getElem?_append_left (by rw [List.length_take]; omega), List.getElem?_take, if_pos h]
  · rw [if_neg h, List.getElem?_append_right (by rw [List.length_take]; omega), List.length_take, show min k A.length = k by omega]
    by_cases h2 : j = k
    · subst h2
      simp
    · rw [if_neg h2, show j - k = (j - k - 1) + 1 by omega, List.getElem?_cons_succ, List.getElem?_drop, show k + (j - k - 1) = j - 1 by omega]
theorem sh_row {f : Nat → List IV} {m : Nat} (i : Nat) : (bif Nat.beq (0 + m) 0 then f else fun i => f (0 + m + i)) i = f (m + i) := by
  rw [Nat.zero_add]
  cases m with
  | zero => simp
  | succ m => rfl
theorem ins_row {A : List Nat} {k n j : Nat} (hk : k ≤ A.length) : (if j < ((k : Nat) : Int).toNat - Int.toNat 0 + 1 then (if j < ((k : Nat) : Int).toNat - Int.toNat 0 then uF A.toArray j else [IV.v (.int .u64 (n : Nat))]) else (bif Nat.beq (0 + ((k : Nat) : Int).toNat) 0 then uF A.toArray else fun i => uF A.toArray (0 + ((k : Nat) : Int).toNat + i)) (j - (((k : Nat) : Int).toNat - Int.toNat 0 + 1))) = uF (ins A k n).toArray j := by
  have kx : ((k : Nat) : Int).toNat = k := by simp
  rw [sh_row, kx, show Int.toNat 0 = 0 from rfl, Nat.sub_zero]
  unfold uF
  rw [bang_getD, bang_getD, bang_getD, ins_get hk]
  by_cases h : j < k
  · rw [if_pos (by omega), if_pos h, if_pos h]
  · by_cases h2 : j = k
    · rw [if_pos (by omega), if_neg h, if_neg h, if_pos h2]
    · rw [if_neg (by omega), if_neg h, if_neg h2, show k + (j - (k + 1)) = j - 1 by omega]
structure RX (l : List OP) where
  i : Nat
  A : List Nat
  hi : i ≤ l.length
  hp : A.Pairwise (· < ·)
  hm : ∀ n, n ∈ A ↔ ∃ p ∈ l.take i, p.2.1 = n
theorem otake {l : List OP} {i : Nat} (hi : i < l.length) : l.take (i + 1) = l.take i ++ [l.getD i od] := by
  rw [List.take_succ_eq_append_getElem hi, od_get hi]
theorem omem {l : List OP} {i : Nat} (hi : i < l.length) {A B : List Nat} (hm : ∀ n, n ∈ A ↔ ∃ p ∈ l.take i, p.2.1 = n) (hB : ∀ n, n ∈ B ↔ n ∈ A ∨ n = (l.getD i od).2.1) : ∀ n, n ∈ B ↔ ∃ p ∈ l.take (i + 1), p.2.1 = n := fun n => by
  rw [hB, hm, otake hi]
  simp only [List.mem_append, List.mem_singleton]
  constructor
  · rintro (⟨p, h1, h2⟩ | rfl)
    · exact ⟨p, .inl h1, h2⟩
    · exact ⟨_, .inr rfl, rfl⟩
  · rintro ⟨p, h1 | rfl, h2⟩
    · exact .inl ⟨p, h1, h2⟩
    · exact .inr h2.symm
theorem seq_len {l : List OP} {i : Nat} {A : List Nat} (hp : A.Pairwise (· < ·)) (hm : ∀ n, n ∈ A ↔ ∃ p ∈ l.take i, p.2.1 = n) : A.length ≤ l.length := by
  have h1 : A.Nodup := hp.imp fun h => Nat.ne_of_lt h
  have h2 := nodup_len (m := (l.take i).map (·.2.1)) h1 fun x hx => by
    obtain ⟨p, h3, h4⟩ := (hm x).1 hx
    exact List.mem_map.2 ⟨p, h3, h4⟩
  rw [List.length_map, List.length_take] at h2
  omega
theorem seqs_end {l : List OP} {A : List Nat} (hp : A.Pairwise (· < ·)) (hm : ∀ n, n ∈ A ↔ ∃ p ∈ l.take l.length, p.2.1 = n) : A = dd (sortU (l.map (·.2.1))) := by
  refine lt_ext hp (dd_lt (sortU_sorted _)) fun n => ?_
  rw [hm, List.take_length, dd_mem, sortU_mem, List.mem_map]
theorem rseqs_in (hs : s.Ok) : AFn Go.Proofs.Try.prog 23 [.ptr 0 0] s.R (fun _ : Unit => .iv (.sl 1 s.seqs.length (uF s.seqs.toArray))) (fun _ => s.R) := by
  have hl := hs.len
  refine ACall.fin ?_
  refine ACall.walk (C := cfg 66 2) (cfgOk _ _) [] (fn := Go.Proofs.Try.f23) (by kernel_rfl) (by kernel_rfl) rfl (by kernel_rfl) (by kernel_rfl) rfl rfl ?_
  (conv => whnf); repeat ((first | (refine And.intro ?_ ?_; (focus ((repeat' (first | exact trivial | refine And.intro rfl ?_)); done))) | (refine And.intro ?_ ?_; (focus (first | omega | (dsimp -iota only; omega) | (simp -iota; omega) | (simp -iota; done) | decide)))); conv => whnf)
  refine AWP.loop (X := RX s.l) (fun y => [(0, .ptr 0 0), (3, .row 2 1 0 y.A.length), (4, AV.int .i64 y.i)]) (fun y => ⟨3, [(0, .cells 53 [.row 1 3 0 s.l.length, .int .u64 s.n]), (1, .rowc 77 3 s.l.length (oF s.l)), (2, .rowc 26 1 y.A.length (uF y.A.toArray))]⟩) (fun y => s.l.length - y.i) (⟨0, [], by omega, List.Pairwise.nil, fun n => by simp⟩) ?_ fun y => AWP.go (S := []) (cfgOk _ _) (.of_eq (by kernel_rfl)) ?_
  · refine Ent.mk' [some 0, some 1, none] (by kernel_rfl) ?_ ?_
    · exact ⟨AVE.refl _, AVE.nil _ _, AVE.refl _, trivial⟩
    · exact ⟨⟨_, rfl, ChE.refl _⟩, ⟨_, rfl, ChE.refl _⟩, trivial, trivial⟩
  · obtain ⟨i, A, hi, hp, hm⟩ := y
    have hAl := seq_len hp hm
    have hix : ((i : Nat) : Int).toNat = i := by simp
    (conv => whnf); repeat ((first | (refine And.intro ?_ ?_; (focus ((repeat' (first | exact trivial | refine And.intro rfl ?_)); done))) | (refine And.intro ?_ ?_; (focus (first | omega | (dsimp -iota only; omega) | (simp -iota; omega) | (simp -iota; done) | decide)))); conv => whnf)
    refine branchB_of (fun h => ?_) (fun h => ?_) <;> (first | replace h := not_t h | replace h := not_f h | skip) <;> (first | replace h := of_decide_eq_true h | replace h := of_decide_eq_false h | skip) <;> (first | replace h := Classical.not_not.1 h | skip) <;> (try dsimp only at h)
    · (conv => whnf); repeat ((first | (refine And.intro ?_ ?_; (focus ((repeat' (first | exact trivial | refine And.intro rfl ?_)); done))) | (refine And.intro ?_ ?_; (focus (first | omega | (dsimp -iota only; omega) | (simp -iota; omega) | (simp -iota; done) | decide)))); conv => whnf)
      generalize hne : (s.l.getD (0 + ((i : Nat) : Int).toNat) od).2.1 = n
      rw [hix, Nat.zero_add] at hne
      have hmm : ∀ B : List Nat, (∀ x, x ∈ B ↔ x ∈ A ∨ x = n) → ∀ x, x ∈ B ↔ ∃ p ∈ s.l.take (i + 1), p.2.1 = x := fun B hB => omem (by omega) hm (by rw [hne]; exact hB)
      refine AWP.loop (X := { z : Nat // z ≤ A.length ∧ ∀ j, j < z → A.getD j 0 < n }) (fun z => [(0, .ptr 0 0), (3, .row 2 1 0 A.length), (4, AV.int .i64 i), (5, AV.int .u64 n), (6, AV.int .i64 z.1)]) (fun z => ⟨3, [(0, .cells 53 [.row 1 3 0 s.l.length, .int .u64 s.n]), (1, .rowc 77 3 s.l.length (oF s.l)), (2, .rowc 26 1 A.length (uF A.toArray))]⟩) (fun z => A.length - z.1) (⟨0, by omega, fun j hj => by omega⟩) ?_ fun z => AWP.go (S := []) (cfgOk _ _) (.of_eq (by kernel_rfl)) ?_
      · exact Ent.mk' [some 0, some 1, some 2] (by kernel_rfl) (by repeat' first | exact trivial | refine And.intro (AVE.refl _) ?_ | refine And.intro (AVE.int (by first | rfl | omega | (dsimp only; omega) | (simp -iota; omega) | (simp -iota; done))) ?_ | refine And.intro (AVE.bool (by assumption)) ?_ | refine And.intro (AVE.len (by first | rfl | omega | (dsimp only; omega) | (simp -iota; omega) | (simp -iota; done))) ?_) (by repeat' (first | exact trivial | refine ⟨⟨_, rfl, ChE.refl _⟩, ?_⟩))
      · obtain ⟨k, hk, hkj⟩ := z
        have hkx : ((k : Nat) : Int).toNat = k := by simp
        (conv => whnf); repeat ((first | (refine And.intro ?_ ?_; (focus ((repeat' (first | exact trivial | refine And.intro rfl ?_)); done))) | (refine And.intro ?_ ?_; (focus (first | omega | (dsimp -iota only; omega) | (simp -iota; omega) | (simp -iota; done) | decide)))); conv => whnf)
        refine branchB_of (fun g1 => ?_) (fun g1 => ?_) <;> (first | replace g1 := not_t g1 | replace g1 := not_f g1 | skip) <;> (first | replace g1 := of_decide_eq_true g1 | replace g1 := of_decide_eq_false g1 | skip) <;> (first | replace g1 := Classical.not_not.1 g1 | skip) <;> (try dsimp only at g1)
        · (conv => whnf); repeat ((first | (refine And.intro ?_ ?_; (focus ((repeat' (first | exact trivial | refine And.intro rfl ?_)); done))) | (refine And.intro ?_ ?_; (focus (first | omega | (dsimp -iota only; omega) | (simp -iota; omega) | (simp -iota; done) | decide)))); conv => whnf)
          refine branchB_of (fun g2 => ?_) (fun g2 => ?_) <;> (first | replace g2 := not_t g2 | replace g2 := not_f g2 | skip) <;> (first | replace g2 := of_decide_eq_true g2 | replace g2 := of_decide_eq_false g2 | skip) <;> (first | replace g2 := Classical.not_not.1 g2 | skip) <;> (try dsimp only at g2)
          · rw [hkx, Nat.zero_add, bang_getD] at g2
            (conv => whnf); repeat ((first | (refine And.intro ?_ ?_; (focus ((repeat' (first | exact trivial | refine And.intro rfl ?_)); done))) | (refine And.intro ?_ ?_; (focus (first | omega | (dsimp -iota only; omega) | (simp -iota; omega) | (simp -iota; done) | decide)))); conv => whnf)
            refine ⟨⟨k + 1, by omega, fun j hj => ?_⟩, Ent.mk' [some 0, some 1, some 2] (by kernel_rfl) (by repeat' first | exact trivial | refine And.intro (AVE.refl _) ?_ | refine And.intro (AVE.int (by first | rfl | omega | (dsimp only; omega) | (simp -iota; omega) | (simp -iota; done))) ?_ | refine And.intro (AVE.bool (by assumption)) ?_ | refine And.intro (AVE.len (by first | rfl | omega | (dsimp only; omega) | (simp -iota; omega) | (simp -iota; done))) ?_) (by repeat' (first | exact trivial | refine ⟨⟨_, rfl, ChE.refl _⟩, ?_⟩)), ?_⟩
            · by_cases e : j = k
              · subst e
                omega
              · exact hkj j (by omega)
            · show A.length - (k + 1) < A.length - k
              omega
          · rw [hkx, Nat.zero_add, bang_getD] at g2
            (conv => whnf); repeat ((first | (refine And.intro ?_ ?_; (focus ((repeat' (first | exact trivial | refine And.intro rfl ?_)); done))) | (refine And.intro ?_ ?_; (focus (first | omega | (dsimp -iota only; omega) | (simp -iota; omega) | (simp -iota; done) | decide)))); conv => whnf)
            refine branchB_of (fun g3 => ?_) (fun g3 => ?_) <;> (first | replace g3 := not_t g3 | replace g3 := not_f g3 | skip) <;> (first | replace g3 := of_decide_eq_true g3 | replace g3 := of_decide_eq_false g3 | skip) <;> (first | replace g3 := Classical.not_not.1 g3 | skip) <;> (try dsimp only at g3)
            · (conv => whnf); repeat ((first | (refine And.intro ?_ ?_; (focus ((repeat' (first | exact trivial | refine And.intro rfl ?_)); done))) | (refine And.intro ?_ ?_; (focus (first | omega | (dsimp -iota only; omega) | (simp -iota; omega) | (simp -iota; done) | decide)))); conv => whnf)
              refine branchB_of (fun g4 => ?_) (fun g4 => ?_) <;> (first | replace g4 := not_t g4 | replace g4 := not_f g4 | skip) <;> (first | replace g4 := of_decide_eq_true g4 | replace g4 := of_decide_eq_false g4 | skip) <;> (first | replace g4 := Classical.not_not.1 g4 | skip) <;> (try dsimp only at g4)
              · rw [hkx, Nat.zero_add, bang_getD] at g4
                have hnA : n ∈ A := by
                  have e : A.getD k 0 = n := by omega
                  rw [← e, u_get (by omega)]
                  exact List.getElem_mem _
                (conv => whnf); repeat ((first | (refine And.intro ?_ ?_; (focus ((repeat' (first | exact trivial | refine And.intro rfl ?_)); done))) | (refine And.intro ?_ ?_; (focus (first | omega | (dsimp -iota only; omega) | (simp -iota; omega) | (simp -iota; done) | decide)))); conv => whnf)
                refine ⟨⟨i + 1, A, by omega, hp, hmm A fun x => ⟨.inl, fun h => h.elim id fun e => e ▸ hnA⟩⟩, Ent.mk' [some 0, some 1, some 2] (by kernel_rfl) (by repeat' first | exact trivial | refine And.intro (AVE.refl _) ?_ | refine And.intro (AVE.int (by first | rfl | omega | (dsimp only; omega) | (simp -iota; omega) | (simp -iota; done))) ?_ | refine And.intro (AVE.bool (by assumption)) ?_ | refine And.intro (AVE.len (by first | rfl | omega | (dsimp only; omega) | (simp -iota; omega) | (simp -iota; done))) ?_) (by repeat' (first | exact trivial | refine ⟨⟨_, rfl, ChE.refl _⟩, ?_⟩)), ?_⟩
                show s.l.length - (i + 1) < s.l.length - i
                omega
              · rw [hkx, Nat.zero_add, bang_getD] at g4
                (conv => whnf); repeat ((first | (refine And.intro ?_ ?_; (focus ((repeat' (first | exact trivial | refine And.intro rfl ?_)); done))) | (refine And.intro ?_ ?_; (focus (first | omega | (dsimp -iota only; omega) | (simp -iota; omega) | (simp -iota; done) | decide)))); conv => whnf)
                refine ⟨⟨i + 1, ins A k n, by omega, ins_lt hp hk hkj fun hkl => ?_, hmm _ fun x => ins_mem⟩, Ent.mk' [some 0, some 1, some 6] (by kernel_rfl) ?_ ?_, ?_⟩
                · omega
                · refine ⟨AVE.refl _, AVE.len ?_, AVE.refl _, trivial⟩
                  show ((k : Nat) : Int).toNat - Int.toNat 0 + 1 + (((A.length : Nat) : Int).toNat - ((k : Nat) : Int).toNat) = (ins A k n).length
                  rw [ins_len hk]
                  omega
                · refine ⟨⟨_, rfl, ChE.refl _⟩, ⟨_, rfl, ChE.refl _⟩, ⟨_, rfl, ChE.row (by show (ins A k n).length ≤ ((k : Nat) : Int).toNat - Int.toNat 0 + 1 + (((A.length : Nat) : Int).toNat - ((k : Nat) : Int).toNat); rw [ins_len hk]; omega) fun j hj => ins_row hk⟩, trivial⟩
                · show s.l.length - (i + 1) < s.l.length - i
                  omega
            · exact absurd g1 g3
        · (conv => whnf); repeat ((first | (refine And.intro ?_ ?_; (focus ((repeat' (first | exact trivial | refine And.intro rfl ?_)); done))) | (refine And.intro ?_ ?_; (focus (first | omega | (dsimp -iota only; omega) | (simp -iota; omega) | (simp -iota; done) | decide)))); conv => whnf)
          refine branchB_of (fun g3 => ?_) (fun g3 => ?_) <;> (first | replace g3 := not_t g3 | replace g3 := not_f g3 | skip) <;> (first | replace g3 := of_decide_eq_true g3 | replace g3 := of_decide_eq_false g3 | skip) <;> (first | replace g3 := Classical.not_not.1 g3 | skip) <;> (try dsimp only at g3)
          · exact absurd g3 g1
          · (conv => whnf); repeat ((first | (refine And.intro ?_ ?_; (focus ((repeat' (first | exact trivial | refine And.intro rfl ?_)); done))) | (refine And.intro ?_ ?_; (focus (first | omega | (dsimp -iota only; omega) | (simp -iota; omega) | (simp -iota; done) | decide)))); conv => whnf)
            refine ⟨⟨i + 1, ins A k n, by omega, ins_lt hp hk hkj fun hkl => ?_, hmm _ fun x => ins_mem⟩, Ent.mk' [some 0, some 1, some 6] (by kernel_rfl) ?_ ?_, ?_⟩
            · omega
            · refine ⟨AVE.refl _, AVE.len ?_, AVE.refl _, trivial⟩
              show ((k : Nat) : Int).toNat - Int.toNat 0 + 1 + (((A.length : Nat) : Int).toNat - ((k : Nat) : Int).toNat) = (ins A k n).length
              rw [ins_len hk]
              omega
            · refine ⟨⟨_, rfl, ChE.refl _⟩, ⟨_, rfl, ChE.refl _⟩, ⟨_, rfl, ChE.row (by show (ins A k n).length ≤ ((k : Nat) : Int).toNat - Int.toNat 0 + 1 + (((A.length : Nat) : Int).toNat - ((k : Nat) : Int).toNat); rw [ins_len hk]; omega) fun j hj => ins_row hk⟩, trivial⟩
            · show s.l.length - (i + 1) < s.l.length - i
              omega
    · have hil : i = s.l.length := by omega
      subst hil
      have he : A = s.seqs := seqs_end hp hm
      (conv => whnf); repeat ((first | (refine And.intro ?_ ?_; (focus ((repeat' (first | exact trivial | refine And.intro rfl ?_)); done))) | (refine And.intro ?_ ?_; (focus (first | omega | (dsimp -iota only; omega) | (simp -iota; omega) | (simp -iota; done) | decide)))); conv => whnf)
      subst he
      refine ⟨_, _, (Ent.freeze 2 _ rfl rfl (e' := [(0, .iv (.sl 1 s.seqs.length (uF s.seqs.toArray)))]) ⟨AVF.sl (Nat.le_refl _), trivial⟩).trans (Ent.mk' (e' := [(0, .iv (.sl 1 s.seqs.length (uF s.seqs.toArray)))]) (H' := s.R) [some 0, some 1] (by kernel_rfl) ?_ ?_), (), rfl, rfl⟩
      · exact ⟨AVE.refl _, trivial⟩
      · (repeat' first | exact trivial | refine ⟨⟨_, rfl, ChE.refl _⟩, ?_⟩)
end
end Go.Proofs.Ytoofmkkcaoojiaa.Ax

namespace Go.Proofs.Ytoofmkkcaoojiaa.Ax
open Go.RowKit
set_option maxRecDepth 100000
theorem mclone_ok (m : List (MK × IV)) : AFn Go.Proofs.Try.prog 34 [.mp 0] ⟨1, [(0, .map none m)]⟩ (fun _ : Unit => .mp 1) (fun _ => ⟨2, [(0, .map none m), (1, .map none m)]⟩) :=
  ⟨⟨_, Try.func34, by kernel_rfl, by kernel_rfl⟩, fun ρ ι w cargs hG hS hr => by
    simp only [AV.Rs, AV.R] at hr
    obtain ⟨u, us, rfl, ⟨hv, b, g1, g2, rfl⟩, rfl⟩ := hr
    obtain ⟨hv', q1, b', es, clock, k1, k2, k3, k4⟩ := hS.hv (k := 0) (c := .map none m) rfl
    rw [g1] at q1; injection q1 with q1; subst q1
    rw [g2] at k1; injection k1 with k1; subst k1
    have hC := AnyW.maps_Clone (P := Go.Proofs.Try.prog) Try.mclone b es clock w k3
    refine Calls.mono hC fun e w' ⟨he, hw⟩ => ?_
    subst he hw
    obtain ⟨s1, s2⟩ := hS.alloc (.map es clock) 0 (.map none m) ⟨w.heap.size, es, clock, rfl, fun _ => Iff.rfl, heap_alloc_new w _, k4⟩
    exact ⟨.mp 1, _, _, ι, ⟨(), rfl, rfl⟩, by simp only [AV.R]; exact ⟨_, _, Rho.upd_same _ _ _, rfl, rfl⟩, s1, s2⟩⟩
section
variable (s : SN)
theorem copy_ok : AFn Go.Proofs.Try.prog 18 [.ptr 0 0] (one s.H) (fun _ : Unit => .ptr 1 0) (fun _ => ⟨2, [(0, .sem (Nest s.H)), (1, .sem (Nest s.H))]⟩) := by
  refine ACall.fin ?_
  refine ACall.walkE (C := cfg 16 1) (cfgOk _ _) sch18 (fn := Go.Proofs.Try.f18) (by kernel_rfl) (by kernel_rfl) rfl (by kernel_rfl) (by kernel_rfl) rfl rfl (H1 := s.H) (fun _ _ => (HEnt.openOne (s.H) rfl rfl).ent) fun hlen hheap => ?_
  (conv => whnf); repeat ((first | (refine And.intro ?_ ?_; (focus ((repeat' (first | exact trivial | refine And.intro rfl ?_)); done))) | (refine And.intro ?_ ?_; (focus (first | omega | (dsimp -iota only; omega) | (simp -iota; omega) | (simp -iota; done) | decide)))); conv => whnf)
  refine AFn.use [0, 1] (none_in s) (by kernel_rfl) rfl (by repeat' first | exact trivial | refine ⟨rfl, ?_⟩) fun _ => ?_
  (conv => whnf); repeat ((first | (refine And.intro ?_ ?_; (focus ((repeat' (first | exact trivial | refine And.intro rfl ?_)); done))) | (refine And.intro ?_ ?_; (focus (first | omega | (dsimp -iota only; omega) | (simp -iota; omega) | (simp -iota; done) | decide)))); conv => whnf)
  refine And.intro ?_ ?_ <;> ((conv => whnf); repeat ((first | (refine And.intro ?_ ?_; (focus ((repeat' (first | exact trivial | refine And.intro rfl ?_)); done))) | (refine And.intro ?_ ?_; (focus (first | omega | (dsimp -iota only; omega) | (simp -iota; omega) | (simp -iota; done) | decide)))); conv => whnf))
  all_goals
    refine AFn.use [1] (mclone_ok (smap pg s.l)) (by kernel_rfl) rfl (by repeat' first | exact trivial | refine ⟨rfl, ?_⟩) fun _ => ?_
    (conv => whnf); repeat ((first | (refine And.intro ?_ ?_; (focus ((repeat' (first | exact trivial | refine And.intro rfl ?_)); done))) | (refine And.intro ?_ ?_; (focus (first | omega | (dsimp -iota only; omega) | (simp -iota; omega) | (simp -iota; done) | decide)))); conv => whnf)
    refine ⟨_, _, Ent.trans (HEnt.ent (HEnt.trans (HEnt.close [0, 1] 0 s.H ?_ ?_) (HEnt.close [3, 2] 3 s.H ?_ ?_))) (Ent.mk' (e' := [(0, .ptr 1 0)]) (H' := ⟨2, [(0, .sem (Nest s.H)), (1, .sem (Nest s.H))]⟩) [some 0, some 3] ?_ ?_ ?_), (), rfl, rfl⟩
    · kernel_rfl
    · repeat' first | exact trivial | refine ⟨rfl, ?_⟩
    · kernel_rfl
    · repeat' first | exact trivial | refine ⟨rfl, ?_⟩
    · kernel_rfl
    · exact ⟨AVE.refl _, trivial⟩
    · (repeat' first | exact trivial | refine ⟨⟨_, rfl, ChE.refl _⟩, ?_⟩)
end
end Go.Proofs.Ytoofmkkcaoojiaa.Ax
