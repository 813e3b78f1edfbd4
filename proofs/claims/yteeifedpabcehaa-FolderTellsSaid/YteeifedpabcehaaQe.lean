/-
  chapter 06: List, Live, the examples
-/
import Derived.Test.YteeifedpabcehaaQd
import Derived.Test.YteeifedpabcehaaFe
import Derived.Test.YteeifedpabcehaaQd
import Derived.Test.YteeifedpabcehaaQb
namespace Go.Proofs.Yteeifedpabcehaa.Ax
open Go.RowKit
set_option maxRecDepth 100000
abbrev EN := List UInt8 × Nat
def enF (l : List EN) (i : Nat) : List IV := [.str (l.getD i ([], 0)).1, un (l.getD i ([], 0)).2]
/-- A state's names, sorted, with their inodes. -/
def lsN (m : NM) : List EN := (sortS (m.map (·.1))).map fun k => (k, (afind m k).getD 0)
theorem lsN_length (m : NM) : (lsN m).length = m.length := by simp [lsN, sortS_length]
noncomputable def cfgL (N b : Nat) : Cfg := { P := Go.Proofs.Try.prog, T := tt, wr := false, N := N, pure := [], base := b, frz := fun op => match op with | .buildSlice .. => true | _ => false }
theorem cfgLOk (N b : Nat) : (cfgL N b).Ok := ⟨ttOk, ttBytes, by kernel_rfl⟩
/-- What a state may be. -/
structure NOk (m : NM) : Prop where
  len : m.length ≤ 1000
  key : ∀ p ∈ m, p.1.length ≤ 32
  nd : (m.map (·.1)).Nodup
section
variable (f : FD)
theorem list_in (hm : NOk f.now) : AFn Go.Proofs.Try.prog 10 [.ptr 0 0] f.H (fun _ : Unit => .iv (.sl 2 (lsN f.now).length (enF (lsN f.now)))) (fun _ => f.H) := by
  have hlen := hm.len
  have hll := lsN_length f.now
  have hsl : (sortS (f.now.map (·.1))).length = f.now.length := by simp [sortS_length]
  have hget : ∀ i, i < f.now.length → (lsN f.now).getD i ([], 0) = ((sortS (f.now.map (·.1))).getD i [], (afind f.now ((sortS (f.now.map (·.1))).getD i [])).getD 0) := fun i hi => by
    have h1 : i < (sortS (f.now.map (·.1))).length := by omega
    simp only [lsN, List.getD, List.getElem?_map, List.getElem?_eq_getElem h1, Option.map_some, Option.getD_some]
  refine ACall.fin ?_
  refine ACall.walk (C := cfgL 32 4) (cfgLOk _ _) [] (fn := Go.Proofs.Try.f10) (by kernel_rfl) (by kernel_rfl) rfl (by kernel_rfl) (by kernel_rfl) rfl rfl ?_
  (conv => whnf); repeat ((first | (refine And.intro ?_ ?_; (focus ((repeat' (first | exact trivial | refine And.intro rfl ?_)); done))) | (refine And.intro ?_ ?_; (focus (first | omega | (dsimp -iota only; omega) | (simp -iota; omega) | (simp -iota; done) | decide)))); conv => whnf)
  refine AFn.use [0, 1, 2, 3] (none_in f) (by kernel_rfl) rfl (by repeat' first | exact trivial | refine ⟨rfl, ?_⟩) fun _ => ?_
  (conv => whnf); repeat ((first | (refine And.intro ?_ ?_; (focus ((repeat' (first | exact trivial | refine And.intro rfl ?_)); done))) | (refine And.intro ?_ ?_; (focus (first | omega | (dsimp -iota only; omega) | (simp -iota; omega) | (simp -iota; done) | decide)))); conv => whnf)
  refine AFn.use [2] (keys_ok f.now) (by kernel_rfl) rfl (by repeat' first | exact trivial | refine ⟨rfl, ?_⟩) fun _ => ?_
  (conv => whnf); repeat ((first | (refine And.intro ?_ ?_; (focus ((repeat' (first | exact trivial | refine And.intro rfl ?_)); done))) | (refine And.intro ?_ ?_; (focus (first | omega | (dsimp -iota only; omega) | (simp -iota; omega) | (simp -iota; done) | decide)))); conv => whnf)
  refine AFn.use [4, 2] (sorted_ok f.now (by omega) (by intro x hx; obtain ⟨p, hp, rfl⟩ := List.mem_map.1 hx; have := hm.key p hp; omega)) (by kernel_rfl) rfl (by repeat' first | exact trivial | refine ⟨rfl, ?_⟩) fun _ => ?_
  (conv => whnf); repeat ((first | (refine And.intro ?_ ?_; (focus ((repeat' (first | exact trivial | refine And.intro rfl ?_)); done))) | (refine And.intro ?_ ?_; (focus (first | omega | (dsimp -iota only; omega) | (simp -iota; omega) | (simp -iota; done) | decide)))); conv => whnf)
  refine AWP.loop (X := { i : Nat // i ≤ f.now.length }) (fun i => [(0, .ptr 0 0), (3, .row 4 2 0 i.1), (13, .iv (strRow (sortS (f.now.map (·.1))))), (14, AV.int .i64 f.now.length), (15, AV.int .i64 i.1)]) (fun i => ⟨5, f.H.ch ++ [(4, .rowc 37 2 i.1 (enF (lsN f.now)))]⟩) (fun i => f.now.length - i.1) (⟨0, Nat.zero_le _⟩) ?_ fun i => AWP.go (S := []) (cfgLOk _ _) (.of_eq (by kernel_rfl)) ?_
  · refine Ent.mk' [some 0, some 1, some 2, some 3, none] (by kernel_rfl) ?_ ?_
    · exact ⟨AVE.refl _, AVE.nil _ _, AVE.refl _, AVE.int (by rw [hsl]), AVE.refl _, trivial⟩
    · exact ⟨⟨_, rfl, ChE.refl _⟩, ⟨_, rfl, ChE.refl _⟩, ⟨_, rfl, ChE.refl _⟩, ⟨_, rfl, ChE.refl _⟩, trivial, trivial⟩
  · obtain ⟨i, hi⟩ := i
    (conv => whnf); repeat ((first | (refine And.intro ?_ ?_; (focus ((repeat' (first | exact trivial | refine And.intro rfl ?_)); done))) | (refine And.intro ?_ ?_; (focus (first | omega | (dsimp -iota only; omega) | (simp -iota; omega) | (simp -iota; done) | decide)))); conv => whnf)
    refine branchB_of (fun h1 => ?_) (fun h1 => ?_) <;> (first | replace h1 := not_t h1 | replace h1 := not_f h1 | skip) <;> (first | replace h1 := of_decide_eq_true h1 | replace h1 := of_decide_eq_false h1 | skip) <;> (first | replace h1 := Classical.not_not.1 h1 | skip) <;> (try dsimp only at h1)
    · (conv => whnf); repeat ((first | (refine And.intro ?_ ?_; (focus ((repeat' (first | exact trivial | refine And.intro rfl ?_)); done))) | (refine And.intro ?_ ?_; (focus (first | omega | (dsimp -iota only; omega) | (simp -iota; omega) | (simp -iota; done) | decide)))); conv => whnf)
      rw [mfind_smap]
      refine ⟨fun x hx => ?_, fun hx => ?_⟩
      · obtain ⟨z, hz, hz2⟩ := Option.map_eq_some_iff.1 hx
        obtain ⟨n, hn, rfl⟩ := Option.map_eq_some_iff.1 hz
        subst hz2
        (conv => whnf); repeat ((first | (refine And.intro ?_ ?_; (focus ((repeat' (first | exact trivial | refine And.intro rfl ?_)); done))) | (refine And.intro ?_ ?_; (focus (first | omega | (dsimp -iota only; omega) | (simp -iota; omega) | (simp -iota; done) | decide)))); conv => whnf)
        refine ⟨⟨i + 1, by omega⟩, Ent.mk' [some 0, some 1, some 2, some 3, some 5] (by kernel_rfl) (by repeat' first | exact trivial | refine And.intro (AVE.refl _) ?_ | refine And.intro (AVE.int (by first | rfl | omega | (dsimp only; omega) | (simp -iota; omega) | (simp -iota; done))) ?_ | refine And.intro (AVE.bool (by assumption)) ?_ | refine And.intro (AVE.len (by first | rfl | omega | (dsimp only; omega) | (simp -iota; omega) | (simp -iota; done))) ?_) ?_, ?_⟩
        · exact ⟨⟨_, rfl, ChE.refl _⟩, ⟨_, rfl, ChE.refl _⟩, ⟨_, rfl, ChE.refl _⟩, ⟨_, rfl, ChE.refl _⟩, ⟨_, rfl, ChE.push (fun _ _ => rfl) (by simp only [enF]; rw [hget i (by omega)]; simp only [Int.toNat_natCast] at hn ⊢; rw [hn]; exact IVEs.refl _)⟩, trivial⟩
        · show f.now.length - (i + 1) < f.now.length - i
          omega
      · have hx := Option.map_eq_none_iff.1 (Option.map_eq_none_iff.1 hx)
        (conv => whnf); repeat ((first | (refine And.intro ?_ ?_; (focus ((repeat' (first | exact trivial | refine And.intro rfl ?_)); done))) | (refine And.intro ?_ ?_; (focus (first | omega | (dsimp -iota only; omega) | (simp -iota; omega) | (simp -iota; done) | decide)))); conv => whnf)
        refine ⟨⟨i + 1, by omega⟩, Ent.mk' [some 0, some 1, some 2, some 3, some 5] (by kernel_rfl) (by repeat' first | exact trivial | refine And.intro (AVE.refl _) ?_ | refine And.intro (AVE.int (by first | rfl | omega | (dsimp only; omega) | (simp -iota; omega) | (simp -iota; done))) ?_ | refine And.intro (AVE.bool (by assumption)) ?_ | refine And.intro (AVE.len (by first | rfl | omega | (dsimp only; omega) | (simp -iota; omega) | (simp -iota; done))) ?_) ?_, ?_⟩
        · exact ⟨⟨_, rfl, ChE.refl _⟩, ⟨_, rfl, ChE.refl _⟩, ⟨_, rfl, ChE.refl _⟩, ⟨_, rfl, ChE.refl _⟩, ⟨_, rfl, ChE.push (fun _ _ => rfl) (by simp only [enF]; rw [hget i (by omega)]; simp only [Int.toNat_natCast] at hx ⊢; rw [hx]; exact IVEs.refl _)⟩, trivial⟩
        · show f.now.length - (i + 1) < f.now.length - i
          omega
    · (conv => whnf); repeat ((first | (refine And.intro ?_ ?_; (focus ((repeat' (first | exact trivial | refine And.intro rfl ?_)); done))) | (refine And.intro ?_ ?_; (focus (first | omega | (dsimp -iota only; omega) | (simp -iota; omega) | (simp -iota; done) | decide)))); conv => whnf)
      have hi' : i = (lsN f.now).length := by omega
      subst hi'
      refine ⟨_, _, (Ent.freeze 4 _ rfl rfl (e' := [(0, .iv (.sl 2 (lsN f.now).length (enF (lsN f.now))))]) ?_).trans (Ent.mk' (e' := [(0, .iv (.sl 2 (lsN f.now).length (enF (lsN f.now))))]) (H' := f.H) [some 0, some 1, some 2, some 3] (by kernel_rfl) ⟨AVE.refl _, trivial⟩ ?_), (), rfl, rfl⟩
      · exact ⟨AVF.sl (Nat.le_refl _), trivial⟩
      · (repeat' first | exact trivial | refine ⟨⟨_, rfl, ChE.refl _⟩, ?_⟩)
theorem list_ok (hm : NOk f.now) : AFn Go.Proofs.Try.prog 10 [.ptr 0 0] (one f.H) (fun _ : Unit => .iv (.sl 2 (lsN f.now).length (enF (lsN f.now)))) (fun _ => one f.H) := AFn.shut (list_in f hm) rfl rfl (fun _ => ⟨by kernel_rfl, by kernel_rfl⟩) (fun _ => (by repeat' first | exact trivial | refine ⟨rfl, ?_⟩)) (fun _ => rfl)
end
end Go.Proofs.Yteeifedpabcehaa.Ax

namespace Go.Proofs.Yteeifedpabcehaa.Ax
open Go.RowKit Go.Sort
set_option maxRecDepth 100000
theorem sortU_perm {a b : List Nat} (h : a.Perm b) : sortU a = sortU b := by
  have tr : ∀ x y z : Nat, (!nlt y x) = true → (!nlt z y) = true → (!nlt z x) = true := fun x y z h1 h2 => by
    simp only [nlt, Bool.not_eq_true', decide_eq_false_iff_not] at *
    omega
  have tt : ∀ x y : Nat, ((!nlt y x) || (!nlt x y)) = true := fun x y => by
    simp only [nlt, Bool.or_eq_true, Bool.not_eq_true', decide_eq_false_iff_not]
    omega
  refine List.Perm.eq_of_pairwise (le := fun x y : Nat => x ≤ y) (fun x y _ _ h1 h2 => Nat.le_antisymm h1 h2) ?_ ?_ ?_
  · exact (List.pairwise_mergeSort tr tt a).imp fun h => by simp only [nlt, Bool.not_eq_true', decide_eq_false_iff_not] at h; omega
  · exact (List.pairwise_mergeSort tr tt b).imp fun h => by simp only [nlt, Bool.not_eq_true', decide_eq_false_iff_not] at h; omega
  · exact ((List.mergeSort_perm _ _).trans h).trans (List.mergeSort_perm _ _).symm
theorem sortU_length (l : List Nat) : (sortU l).length = l.length := by simp [sortU]
theorem sortU_mem {l : List Nat} {x : Nat} : x ∈ sortU l ↔ x ∈ l := by simp [sortU]
theorem sortU_sorted (l : List Nat) : (sortU l).Pairwise (· ≤ ·) := by
  have tr : ∀ x y z : Nat, (!nlt y x) = true → (!nlt z y) = true → (!nlt z x) = true := fun x y z h1 h2 => by
    simp only [nlt, Bool.not_eq_true', decide_eq_false_iff_not] at *
    omega
  have tt : ∀ x y : Nat, ((!nlt y x) || (!nlt x y)) = true := fun x y => by
    simp only [nlt, Bool.or_eq_true, Bool.not_eq_true', decide_eq_false_iff_not]
    omega
  exact (List.pairwise_mergeSort tr tt l).imp fun h => by simp only [nlt, Bool.not_eq_true', decide_eq_false_iff_not] at h; omega
theorem ddGo_mem : ∀ {l : List Nat} {p x : Nat}, x ∈ ddGo p l → x ∈ l
  | y :: l, p, x, h => by
    unfold ddGo at h
    split at h
    · exact List.mem_cons_of_mem _ (ddGo_mem h)
    · rcases List.mem_cons.1 h with rfl | h
      · exact List.mem_cons_self ..
      · exact List.mem_cons_of_mem _ (ddGo_mem h)
theorem ddGo_mem2 : ∀ {l : List Nat} {p x : Nat}, x ∈ l → x = p ∨ x ∈ ddGo p l
  | y :: l, p, x, h => by
    unfold ddGo
    rcases List.mem_cons.1 h with rfl | h
    · by_cases e : x = p
      · exact .inl e
      · rw [if_neg e]; exact .inr (List.mem_cons_self ..)
    · split
      · exact ddGo_mem2 h
      · rcases ddGo_mem2 (p := y) h with rfl | h
        · exact .inr (List.mem_cons_self ..)
        · exact .inr (List.mem_cons_of_mem _ h)
theorem dd_mem {l : List Nat} {x : Nat} : x ∈ dd l ↔ x ∈ l := by
  cases l with
  | nil => simp [dd]
  | cons y l =>
    simp only [dd, List.mem_cons]
    constructor
    · rintro (h | h)
      · exact .inl h
      · exact .inr (ddGo_mem h)
    · rintro (h | h)
      · exact .inl h
      · exact ddGo_mem2 h
theorem ddGo_lt : ∀ {l : List Nat} {p : Nat}, (∀ x ∈ l, p ≤ x) → l.Pairwise (· ≤ ·) → (ddGo p l).Pairwise (· < ·) ∧ ∀ x ∈ ddGo p l, p < x
  | [], _, _, _ => ⟨by simp [ddGo], by simp [ddGo]⟩
  | y :: l, p, h1, h2 => by
    rw [List.pairwise_cons] at h2
    unfold ddGo
    have hy := h1 y (List.mem_cons_self ..)
    split
    · exact ddGo_lt (fun x hx => h1 x (List.mem_cons_of_mem _ hx)) h2.2
    · obtain ⟨g1, g2⟩ := ddGo_lt (p := y) h2.1 h2.2
      refine ⟨List.pairwise_cons.2 ⟨g2, g1⟩, fun x hx => ?_⟩
      rcases List.mem_cons.1 hx with rfl | hx
      · omega
      · have := g2 x hx
        omega
theorem dd_lt {l : List Nat} (h : l.Pairwise (· ≤ ·)) : (dd l).Pairwise (· < ·) := by
  cases l with
  | nil => simp [dd]
  | cons y l =>
    rw [List.pairwise_cons] at h
    obtain ⟨g1, g2⟩ := ddGo_lt (p := y) h.1 h.2
    exact List.pairwise_cons.2 ⟨g2, g1⟩
/-- The inodes of a state; of the first states. -/
def vals (m : NM) : List Nat := m.map (·.2)
def upTo (f : FD) (n : Nat) : List Nat := (List.range (n + 1)).flatMap fun k => vals (onAll f.safe (f.ds.take k))
theorem upTo_succ (f : FD) (n : Nat) : upTo f (n + 1) = upTo f n ++ vals (onAll f.safe (f.ds.take (n + 1))) := by
  unfold upTo
  rw [List.range_succ, List.flatMap_append]
  simp
/-- The inodes that live. -/
def FD.live (f : FD) : List Nat := dd (sortU (upTo f f.ds.length))
structure LS (f : FD) where
  i : Nat
  hi : i ≤ f.ds.length
  D : Array Nat
  hD : D.toList.Perm (upTo f i)
theorem upTo_len {f : FD} (h : f.In NOk) : ∀ n, n ≤ f.ds.length → (upTo f n).length ≤ 1000 * (n + 1)
  | 0, h0 => by
    have := (h.all 0 h0).len
    simp [upTo, vals] at this ⊢
    omega
  | n + 1, hn => by
    have h1 := upTo_len h n (by omega)
    have h2 := (h.all (n + 1) hn).len
    rw [upTo_succ, List.length_append]
    unfold vals
    rw [List.length_map]
    omega
section
variable (f : FD)
set_option maxHeartbeats 1000000 in
theorem live_in (hin : f.In NOk) (hds : f.ds.length ≤ 500) : AFn Go.Proofs.Try.prog 12 [.ptr 0 0] f.H (fun _ : Unit => .iv (.sl 1 f.live.length (uF f.live.toArray))) (fun _ => f.H) := by
  have ok : ∀ k, k ≤ f.ds.length → NOk (onAll f.safe (f.ds.take k)) := hin.all
  have ok0 := ok 0 (Nat.zero_le _)
  have e0 : onAll f.safe (f.ds.take 0) = f.safe := rfl
  rw [e0] at ok0
  refine ACall.fin ?_
  refine ACall.walk (C := cfgV 38 4) (cfgVOk _ _) [] (fn := Go.Proofs.Try.f12) (by kernel_rfl) (by kernel_rfl) rfl (by kernel_rfl) (by kernel_rfl) rfl rfl ?_
  (conv => whnf); repeat ((first | (refine And.intro ?_ ?_; (focus ((repeat' (first | exact trivial | refine And.intro rfl ?_)); done))) | (refine And.intro ?_ ?_; (focus (first | omega | (dsimp -iota only; omega) | (simp -iota; omega) | (simp -iota; done) | decide)))); conv => whnf)
  refine AFn.use [0, 1, 2, 3] (none_in f) (by kernel_rfl) rfl (by repeat' first | exact trivial | refine ⟨rfl, ?_⟩) fun _ => ?_
  (conv => whnf); repeat ((first | (refine And.intro ?_ ?_; (focus ((repeat' (first | exact trivial | refine And.intro rfl ?_)); done))) | (refine And.intro ?_ ?_; (focus (first | omega | (dsimp -iota only; omega) | (simp -iota; omega) | (simp -iota; done) | decide)))); conv => whnf)
  refine AFn.use [1] (mclone_ok (smap un f.safe)) (by kernel_rfl) rfl (by repeat' first | exact trivial | refine ⟨rfl, ?_⟩) fun _ => ?_
  (conv => whnf); repeat ((first | (refine And.intro ?_ ?_; (focus ((repeat' (first | exact trivial | refine And.intro rfl ?_)); done))) | (refine And.intro ?_ ?_; (focus (first | omega | (dsimp -iota only; omega) | (simp -iota; omega) | (simp -iota; done) | decide)))); conv => whnf)
  refine AFn.use [4] (values_ok f.safe) (by kernel_rfl) rfl (by repeat' first | exact trivial | refine ⟨rfl, ?_⟩) fun _ => ?_
  (conv => whnf); repeat ((first | (refine And.intro ?_ ?_; (focus ((repeat' (first | exact trivial | refine And.intro rfl ?_)); done))) | (refine And.intro ?_ ?_; (focus (first | omega | (dsimp -iota only; omega) | (simp -iota; omega) | (simp -iota; done) | decide)))); conv => whnf)
  refine AFn.use [5, 4] (collect_ok f.safe ok0.nd (by have := ok0.len; omega)) (by kernel_rfl) rfl (by repeat' first | exact trivial | refine ⟨rfl, ?_⟩) fun x => ?_
  obtain ⟨l0, hl0⟩ := x
  (conv => whnf); repeat ((first | (refine And.intro ?_ ?_; (focus ((repeat' (first | exact trivial | refine And.intro rfl ?_)); done))) | (refine And.intro ?_ ?_; (focus (first | omega | (dsimp -iota only; omega) | (simp -iota; omega) | (simp -iota; done) | decide)))); conv => whnf)
  refine AWP.loop (X := LS f) (fun y => [(3, .mp 4), (4, .row 5 1 0 y.D.size), (20, .row 3 1 0 f.ds.length), (21, AV.int .i64 f.ds.length), (22, AV.int .i64 y.i)]) (fun y => ⟨6, f.H.ch ++ [(4, .map none (smap un (onAll f.safe (f.ds.take y.i)))), (5, .rowc 25 1 y.D.size (uF y.D))]⟩) (fun y => f.ds.length - y.i) (⟨0, Nat.zero_le _, apD #[] l0, by simpa [apD, upTo, vals, onAll] using hl0⟩) ?_ fun y => AWP.go (S := []) (cfgVOk _ _) (.of_eq (by kernel_rfl)) ?_
  · refine Ent.mk' [some 0, some 1, some 2, some 3, some 4, some 6] (by kernel_rfl) ⟨AVE.refl _, AVE.refl _, AVE.refl _, AVE.refl _, AVE.refl _, trivial⟩ ?_
    (repeat' first | exact trivial | refine ⟨⟨_, rfl, ChE.refl _⟩, ?_⟩)
  · obtain ⟨i, hi, D, hD⟩ := y
    have hix : ((i : Nat) : Int).toNat = i := by simp
    have hDl : D.size ≤ 1000 * (i + 1) := by
      have := hD.length_eq
      rw [Array.length_toList] at this
      rw [this]
      exact upTo_len hin i hi
    (conv => whnf); repeat ((first | (refine And.intro ?_ ?_; (focus ((repeat' (first | exact trivial | refine And.intro rfl ?_)); done))) | (refine And.intro ?_ ?_; (focus (first | omega | (dsimp -iota only; omega) | (simp -iota; omega) | (simp -iota; done) | decide)))); conv => whnf)
    refine branchB_of (fun h => ?_) (fun h => ?_) <;> (first | replace h := not_t h | replace h := not_f h | skip) <;> (first | replace h := of_decide_eq_true h | replace h := of_decide_eq_false h | skip) <;> (first | replace h := Classical.not_not.1 h | skip) <;> (try dsimp only at h)
    · have hnx := ds_next (A := f.ds) (i := i) (by omega)
      have okn := ok (i + 1) (by omega)
      have hmn := okn.nd
      have hln := okn.len
      (conv => whnf); repeat ((first | (refine And.intro ?_ ?_; (focus ((repeat' (first | exact trivial | refine And.intro rfl ?_)); done))) | (refine And.intro ?_ ?_; (focus (first | omega | (dsimp -iota only; omega) | (simp -iota; omega) | (simp -iota; done) | decide)))); conv => whnf)
      generalize hE : f.ds.getD (0 + ((i : Nat) : Int).toNat) default = E
      rw [hix, Nat.zero_add] at hE
      rw [hE] at hnx
      have hon : onAll f.safe (f.ds.take (i + 1)) = E.on (onAll f.safe (f.ds.take i)) := by rw [hnx, onAll_snoc]
      have perm : ∀ {lz : List Nat}, D.toList.Perm (upTo f i) → lz.Perm (vals (onAll f.safe (f.ds.take (i + 1)))) → (apD D lz).toList.Perm (upTo f (i + 1)) := fun h1 h2 => by
        rw [upTo_succ]
        unfold apD
        rw [Array.toList_append]
        exact h1.append h2
      cases E with
      | mk x m =>
        have hon : onAll f.safe (f.ds.take (i + 1)) = aput (onAll f.safe (f.ds.take i)) x m := hon
        rw [hon] at hmn hln
        (conv => whnf); repeat ((first | (refine And.intro ?_ ?_; (focus ((repeat' (first | exact trivial | refine And.intro rfl ?_)); done))) | (refine And.intro ?_ ?_; (focus (first | omega | (dsimp -iota only; omega) | (simp -iota; omega) | (simp -iota; done) | decide)))); conv => whnf)
        refine AFn.use [4] (mk_ok (onAll f.safe (f.ds.take i)) x m) (by kernel_rfl) rfl (by repeat' first | exact trivial | refine ⟨rfl, ?_⟩) fun _ => ?_
        (conv => whnf); repeat ((first | (refine And.intro ?_ ?_; (focus ((repeat' (first | exact trivial | refine And.intro rfl ?_)); done))) | (refine And.intro ?_ ?_; (focus (first | omega | (dsimp -iota only; omega) | (simp -iota; omega) | (simp -iota; done) | decide)))); conv => whnf)
        refine AFn.use [4] (values_ok (aput (onAll f.safe (f.ds.take i)) x m)) (by kernel_rfl) rfl (by repeat' first | exact trivial | refine ⟨rfl, ?_⟩) fun _ => ?_
        (conv => whnf); repeat ((first | (refine And.intro ?_ ?_; (focus ((repeat' (first | exact trivial | refine And.intro rfl ?_)); done))) | (refine And.intro ?_ ?_; (focus (first | omega | (dsimp -iota only; omega) | (simp -iota; omega) | (simp -iota; done) | decide)))); conv => whnf)
        refine AFn.use [5, 6, 4] (appendSeq_ok (aput (onAll f.safe (f.ds.take i)) x m) hmn D (by omega)) (by kernel_rfl) rfl (by repeat' first | exact trivial | refine ⟨rfl, ?_⟩) fun z => ?_
        obtain ⟨lz, hz⟩ := z
        (conv => whnf); repeat ((first | (refine And.intro ?_ ?_; (focus ((repeat' (first | exact trivial | refine And.intro rfl ?_)); done))) | (refine And.intro ?_ ?_; (focus (first | omega | (dsimp -iota only; omega) | (simp -iota; omega) | (simp -iota; done) | decide)))); conv => whnf)
        refine ⟨⟨i + 1, by omega, apD D lz, perm hD (by rw [hon]; exact hz)⟩, Ent.mk' [some 0, some 1, some 2, some 3, some 4, some 7] (by kernel_rfl) (by repeat' first | exact trivial | refine And.intro (AVE.refl _) ?_ | refine And.intro (AVE.int (by first | rfl | omega | (dsimp only; omega) | (simp -iota; omega) | (simp -iota; done))) ?_ | refine And.intro (AVE.bool (by assumption)) ?_ | refine And.intro (AVE.len (by first | rfl | omega | (dsimp only; omega) | (simp -iota; omega) | (simp -iota; done))) ?_) ?_, ?_⟩
        · exact ⟨⟨_, rfl, ChE.refl _⟩, ⟨_, rfl, ChE.refl _⟩, ⟨_, rfl, ChE.refl _⟩, ⟨_, rfl, ChE.refl _⟩, ⟨_, rfl, ChE.of_eq (by rw [hon]; rfl)⟩, ⟨_, rfl, ChE.refl _⟩, trivial⟩
        · show f.ds.length - (i + 1) < f.ds.length - i
          omega
      | mv a b m =>
        have hon : onAll f.safe (f.ds.take (i + 1)) = aput (adel (onAll f.safe (f.ds.take i)) a) b m := hon
        rw [hon] at hmn hln
        (conv => whnf); repeat ((first | (refine And.intro ?_ ?_; (focus ((repeat' (first | exact trivial | refine And.intro rfl ?_)); done))) | (refine And.intro ?_ ?_; (focus (first | omega | (dsimp -iota only; omega) | (simp -iota; omega) | (simp -iota; done) | decide)))); conv => whnf)
        refine AFn.use [4] (mv_ok (onAll f.safe (f.ds.take i)) a b m) (by kernel_rfl) rfl (by repeat' first | exact trivial | refine ⟨rfl, ?_⟩) fun _ => ?_
        (conv => whnf); repeat ((first | (refine And.intro ?_ ?_; (focus ((repeat' (first | exact trivial | refine And.intro rfl ?_)); done))) | (refine And.intro ?_ ?_; (focus (first | omega | (dsimp -iota only; omega) | (simp -iota; omega) | (simp -iota; done) | decide)))); conv => whnf)
        refine AFn.use [4] (values_ok (aput (adel (onAll f.safe (f.ds.take i)) a) b m)) (by kernel_rfl) rfl (by repeat' first | exact trivial | refine ⟨rfl, ?_⟩) fun _ => ?_
        (conv => whnf); repeat ((first | (refine And.intro ?_ ?_; (focus ((repeat' (first | exact trivial | refine And.intro rfl ?_)); done))) | (refine And.intro ?_ ?_; (focus (first | omega | (dsimp -iota only; omega) | (simp -iota; omega) | (simp -iota; done) | decide)))); conv => whnf)
        refine AFn.use [5, 6, 4] (appendSeq_ok (aput (adel (onAll f.safe (f.ds.take i)) a) b m) hmn D (by omega)) (by kernel_rfl) rfl (by repeat' first | exact trivial | refine ⟨rfl, ?_⟩) fun z => ?_
        obtain ⟨lz, hz⟩ := z
        (conv => whnf); repeat ((first | (refine And.intro ?_ ?_; (focus ((repeat' (first | exact trivial | refine And.intro rfl ?_)); done))) | (refine And.intro ?_ ?_; (focus (first | omega | (dsimp -iota only; omega) | (simp -iota; omega) | (simp -iota; done) | decide)))); conv => whnf)
        refine ⟨⟨i + 1, by omega, apD D lz, perm hD (by rw [hon]; exact hz)⟩, Ent.mk' [some 0, some 1, some 2, some 3, some 4, some 7] (by kernel_rfl) (by repeat' first | exact trivial | refine And.intro (AVE.refl _) ?_ | refine And.intro (AVE.int (by first | rfl | omega | (dsimp only; omega) | (simp -iota; omega) | (simp -iota; done))) ?_ | refine And.intro (AVE.bool (by assumption)) ?_ | refine And.intro (AVE.len (by first | rfl | omega | (dsimp only; omega) | (simp -iota; omega) | (simp -iota; done))) ?_) ?_, ?_⟩
        · exact ⟨⟨_, rfl, ChE.refl _⟩, ⟨_, rfl, ChE.refl _⟩, ⟨_, rfl, ChE.refl _⟩, ⟨_, rfl, ChE.refl _⟩, ⟨_, rfl, ChE.of_eq (by rw [hon]; rfl)⟩, ⟨_, rfl, ChE.refl _⟩, trivial⟩
        · show f.ds.length - (i + 1) < f.ds.length - i
          omega
      | rm x =>
        have hon : onAll f.safe (f.ds.take (i + 1)) = adel (onAll f.safe (f.ds.take i)) x := hon
        rw [hon] at hmn hln
        (conv => whnf); repeat ((first | (refine And.intro ?_ ?_; (focus ((repeat' (first | exact trivial | refine And.intro rfl ?_)); done))) | (refine And.intro ?_ ?_; (focus (first | omega | (dsimp -iota only; omega) | (simp -iota; omega) | (simp -iota; done) | decide)))); conv => whnf)
        refine AFn.use [4] (rm_ok (onAll f.safe (f.ds.take i)) x) (by kernel_rfl) rfl (by repeat' first | exact trivial | refine ⟨rfl, ?_⟩) fun _ => ?_
        (conv => whnf); repeat ((first | (refine And.intro ?_ ?_; (focus ((repeat' (first | exact trivial | refine And.intro rfl ?_)); done))) | (refine And.intro ?_ ?_; (focus (first | omega | (dsimp -iota only; omega) | (simp -iota; omega) | (simp -iota; done) | decide)))); conv => whnf)
        refine AFn.use [4] (values_ok (adel (onAll f.safe (f.ds.take i)) x)) (by kernel_rfl) rfl (by repeat' first | exact trivial | refine ⟨rfl, ?_⟩) fun _ => ?_
        (conv => whnf); repeat ((first | (refine And.intro ?_ ?_; (focus ((repeat' (first | exact trivial | refine And.intro rfl ?_)); done))) | (refine And.intro ?_ ?_; (focus (first | omega | (dsimp -iota only; omega) | (simp -iota; omega) | (simp -iota; done) | decide)))); conv => whnf)
        refine AFn.use [5, 6, 4] (appendSeq_ok (adel (onAll f.safe (f.ds.take i)) x) hmn D (by omega)) (by kernel_rfl) rfl (by repeat' first | exact trivial | refine ⟨rfl, ?_⟩) fun z => ?_
        obtain ⟨lz, hz⟩ := z
        (conv => whnf); repeat ((first | (refine And.intro ?_ ?_; (focus ((repeat' (first | exact trivial | refine And.intro rfl ?_)); done))) | (refine And.intro ?_ ?_; (focus (first | omega | (dsimp -iota only; omega) | (simp -iota; omega) | (simp -iota; done) | decide)))); conv => whnf)
        refine ⟨⟨i + 1, by omega, apD D lz, perm hD (by rw [hon]; exact hz)⟩, Ent.mk' [some 0, some 1, some 2, some 3, some 4, some 7] (by kernel_rfl) (by repeat' first | exact trivial | refine And.intro (AVE.refl _) ?_ | refine And.intro (AVE.int (by first | rfl | omega | (dsimp only; omega) | (simp -iota; omega) | (simp -iota; done))) ?_ | refine And.intro (AVE.bool (by assumption)) ?_ | refine And.intro (AVE.len (by first | rfl | omega | (dsimp only; omega) | (simp -iota; omega) | (simp -iota; done))) ?_) ?_, ?_⟩
        · exact ⟨⟨_, rfl, ChE.refl _⟩, ⟨_, rfl, ChE.refl _⟩, ⟨_, rfl, ChE.refl _⟩, ⟨_, rfl, ChE.refl _⟩, ⟨_, rfl, ChE.of_eq (by rw [hon]; rfl)⟩, ⟨_, rfl, ChE.refl _⟩, trivial⟩
        · show f.ds.length - (i + 1) < f.ds.length - i
          omega
    · have hin' : i = f.ds.length := by omega
      subst hin'
      obtain ⟨l⟩ := D
      have hlv : dd (sortU l) = f.live := by
        unfold FD.live
        rw [sortU_perm hD]
      have hsl : l.length = (sortU l).length := (sortU_length _).symm
      have hDl : l.length ≤ 1000 * (f.ds.length + 1) := hDl
      (conv => whnf); repeat ((first | (refine And.intro ?_ ?_; (focus ((repeat' (first | exact trivial | refine And.intro rfl ?_)); done))) | (refine And.intro ?_ ?_; (focus (first | omega | (dsimp -iota only; omega) | (simp -iota; omega) | (simp -iota; done) | decide)))); conv => whnf)
      refine AFn.use [5] (sort_ok l (by omega)) (by kernel_rfl) rfl (by repeat' first | exact trivial | refine ⟨rfl, ?_⟩) fun _ => ?_
      have hc := compact_ok (sortU l) (by omega)
      rw [← hsl] at hc
      (conv => whnf); repeat ((first | (refine And.intro ?_ ?_; (focus ((repeat' (first | exact trivial | refine And.intro rfl ?_)); done))) | (refine And.intro ?_ ?_; (focus (first | omega | (dsimp -iota only; omega) | (simp -iota; omega) | (simp -iota; done) | decide)))); conv => whnf)
      refine AFn.use [5] (hc) (by kernel_rfl) rfl (by repeat' first | exact trivial | refine ⟨rfl, ?_⟩) fun _ => ?_
      rw [hlv]
      (conv => whnf); repeat ((first | (refine And.intro ?_ ?_; (focus ((repeat' (first | exact trivial | refine And.intro rfl ?_)); done))) | (refine And.intro ?_ ?_; (focus (first | omega | (dsimp -iota only; omega) | (simp -iota; omega) | (simp -iota; done) | decide)))); conv => whnf)
      refine ⟨_, _, (Ent.freeze 5 _ rfl rfl (e' := [(0, .iv (.sl 1 f.live.length (uF f.live.toArray)))]) ⟨AVF.sl (Nat.le_refl _), trivial⟩).trans (Ent.mk' (e' := [(0, .iv (.sl 1 f.live.length (uF f.live.toArray)))]) (H' := f.H) [some 0, some 1, some 2, some 3] (by kernel_rfl) ⟨AVE.refl _, trivial⟩ ?_), (), rfl, rfl⟩
      (repeat' first | exact trivial | refine ⟨⟨_, rfl, ChE.refl _⟩, ?_⟩)
theorem live_ok (hin : f.In NOk) (hds : f.ds.length ≤ 500) : AFn Go.Proofs.Try.prog 12 [.ptr 0 0] (one f.H) (fun _ : Unit => .iv (.sl 1 f.live.length (uF f.live.toArray))) (fun _ => one f.H) := AFn.shut (live_in f hin hds) rfl rfl (fun _ => ⟨by kernel_rfl, by kernel_rfl⟩) (fun _ => (by repeat' first | exact trivial | refine ⟨rfl, ?_⟩)) (fun _ => rfl)
end
end Go.Proofs.Yteeifedpabcehaa.Ax

namespace Go.Proofs.Yteeifedpabcehaa.Ax
open Go.RowKit Go.Sort
set_option maxRecDepth 100000
def k0 : FD := ⟨[], [], [], 0⟩
def k1 : FD := ⟨[], [([97], 1)], [.mk [97] 1], 1⟩
def k2 : FD := ⟨[], [([97], 1), ([98], 2)], [.mk [97] 1, .mk [98] 2], 2⟩
def k3 : FD := ⟨[], [([98], 1)], [.mk [97] 1, .mk [98] 2, .mv [97] [98] 1], 2⟩
def k4 : FD := ⟨[([97], 1), ([98], 2)], [([97], 1), ([98], 2)], [], 2⟩
theorem k1_eq : k0.create [97] = k1 ∧ k0.createN [97] = 1 ∧ k0.createE [97] = 0 := by
  have : k0.createE [97] = 0 := by decide +kernel
  unfold FD.create FD.createN
  rw [if_pos this, if_pos this]
  exact ⟨rfl, rfl, this⟩
theorem k2_eq : k1.create [98] = k2 ∧ k1.createN [98] = 2 ∧ k1.createE [98] = 0 := by
  have : k1.createE [98] = 0 := by decide +kernel
  unfold FD.create FD.createN
  rw [if_pos this, if_pos this]
  exact ⟨rfl, rfl, this⟩
theorem k3_eq : k2.ren [97] [98] = k3 ∧ k2.renE [97] [98] = 0 := by
  have : k2.renE [97] [98] = 0 := by decide +kernel
  unfold FD.ren
  rw [if_pos ⟨this, by decide⟩]
  exact ⟨rfl, this⟩
theorem k4_eq : k3.crash 2 = k4 := rfl
theorem k3_in : k3.In NOk := ⟨rfl, fun k hk => by
  have hk : k ≤ 3 := hk
  have : k = 0 ∨ k = 1 ∨ k = 2 ∨ k = 3 := by omega
  rcases this with rfl | rfl | rfl | rfl <;> exact ⟨by decide +kernel, by decide +kernel, by decide +kernel⟩⟩
theorem k3_live : k3.live = [1, 2] := by
  have h1 : upTo k3 k3.ds.length = [1, 1, 2, 1] := by decide +kernel
  have h2 : sortU [1, 1, 2, 1] = [1, 1, 1, 2] := by
    rw [sortU_perm (show [1, 1, 2, 1].Perm [1, 1, 1, 2] by decide +kernel)]
    exact List.mergeSort_of_pairwise (by decide +kernel)
  unfold FD.live
  rw [h1, h2]
  decide +kernel
theorem k4_ok : NOk k4.now := ⟨by decide +kernel, by decide +kernel, by decide +kernel⟩
theorem k4_list : lsN k4.now = [([97], 1), ([98], 2)] := by
  have h1 : sortS (k4.now.map (·.1)) = [[97], [98]] := List.mergeSort_of_pairwise (by decide +kernel)
  unfold lsN
  rw [h1]
  decide +kernel
theorem knows_ok : AFn Go.Proofs.Try.prog 13 [] ⟨0, []⟩ (fun _ : Unit => AV.bool true) (fun _ => ⟨0, []⟩) := by
  refine ACall.fin ?_
  refine ACall.walk (C := cfg 94 0) (cfgOk _ _) [] (fn := Go.Proofs.Try.f13) (by kernel_rfl) (by kernel_rfl) rfl (by kernel_rfl) (by kernel_rfl) rfl rfl ?_
  (conv => whnf); repeat ((first | (refine And.intro ?_ ?_; (focus ((repeat' (first | exact trivial | refine And.intro rfl ?_)); done))) | (refine And.intro ?_ ?_; (focus (first | omega | (dsimp -iota only; omega) | (simp -iota; omega) | (simp -iota; done) | decide)))); conv => whnf)
  refine AFn.use [] (new_ok) (by kernel_rfl) rfl (by repeat' first | exact trivial | refine ⟨rfl, ?_⟩) fun _ => ?_
  (conv => whnf); repeat ((first | (refine And.intro ?_ ?_; (focus ((repeat' (first | exact trivial | refine And.intro rfl ?_)); done))) | (refine And.intro ?_ ?_; (focus (first | omega | (dsimp -iota only; omega) | (simp -iota; omega) | (simp -iota; done) | decide)))); conv => whnf)
  refine AFn.use [0] (create_ok k0 (by decide) (by decide) [97]) (by kernel_rfl) rfl (by repeat' first | exact trivial | refine ⟨rfl, ?_⟩) fun _ => ?_
  rw [k1_eq.1, k1_eq.2.1, k1_eq.2.2]
  (conv => whnf); repeat ((first | (refine And.intro ?_ ?_; (focus ((repeat' (first | exact trivial | refine And.intro rfl ?_)); done))) | (refine And.intro ?_ ?_; (focus (first | omega | (dsimp -iota only; omega) | (simp -iota; omega) | (simp -iota; done) | decide)))); conv => whnf)
  refine AFn.use [0] (create_ok k1 (by decide) (by decide) [98]) (by kernel_rfl) rfl (by repeat' first | exact trivial | refine ⟨rfl, ?_⟩) fun _ => ?_
  rw [k2_eq.1, k2_eq.2.1, k2_eq.2.2]
  (conv => whnf); repeat ((first | (refine And.intro ?_ ?_; (focus ((repeat' (first | exact trivial | refine And.intro rfl ?_)); done))) | (refine And.intro ?_ ?_; (focus (first | omega | (dsimp -iota only; omega) | (simp -iota; omega) | (simp -iota; done) | decide)))); conv => whnf)
  refine AFn.use [0] (rename_ok k2 (by decide) [97] [98]) (by kernel_rfl) rfl (by repeat' first | exact trivial | refine ⟨rfl, ?_⟩) fun _ => ?_
  rw [k3_eq.1, k3_eq.2]
  (conv => whnf); repeat ((first | (refine And.intro ?_ ?_; (focus ((repeat' (first | exact trivial | refine And.intro rfl ?_)); done))) | (refine And.intro ?_ ?_; (focus (first | omega | (dsimp -iota only; omega) | (simp -iota; omega) | (simp -iota; done) | decide)))); conv => whnf)
  refine AFn.use [0] (loose_ok k3) (by kernel_rfl) rfl (by repeat' first | exact trivial | refine ⟨rfl, ?_⟩) fun _ => ?_
  (conv => whnf); repeat ((first | (refine And.intro ?_ ?_; (focus ((repeat' (first | exact trivial | refine And.intro rfl ?_)); done))) | (refine And.intro ?_ ?_; (focus (first | omega | (dsimp -iota only; omega) | (simp -iota; omega) | (simp -iota; done) | decide)))); conv => whnf)
  refine AFn.use [0] (live_ok k3 k3_in (by decide)) (by kernel_rfl) rfl (by repeat' first | exact trivial | refine ⟨rfl, ?_⟩) fun _ => ?_
  rw [k3_live]
  (conv => whnf); repeat ((first | (refine And.intro ?_ ?_; (focus ((repeat' (first | exact trivial | refine And.intro rfl ?_)); done))) | (refine And.intro ?_ ?_; (focus (first | omega | (dsimp -iota only; omega) | (simp -iota; omega) | (simp -iota; done) | decide)))); conv => whnf)
  refine AFn.use [0] (crash_ok k3 (by decide) 2) (by kernel_rfl) rfl (by repeat' first | exact trivial | refine ⟨rfl, ?_⟩) fun _ => ?_
  rw [k4_eq]
  (conv => whnf); repeat ((first | (refine And.intro ?_ ?_; (focus ((repeat' (first | exact trivial | refine And.intro rfl ?_)); done))) | (refine And.intro ?_ ?_; (focus (first | omega | (dsimp -iota only; omega) | (simp -iota; omega) | (simp -iota; done) | decide)))); conv => whnf)
  refine AFn.use [0] (list_ok k4 k4_ok) (by kernel_rfl) rfl (by repeat' first | exact trivial | refine ⟨rfl, ?_⟩) fun _ => ?_
  rw [k4_list]
  (conv => whnf); repeat ((first | (refine And.intro ?_ ?_; (focus ((repeat' (first | exact trivial | refine And.intro rfl ?_)); done))) | (refine And.intro ?_ ?_; (focus (first | omega | (dsimp -iota only; omega) | (simp -iota; omega) | (simp -iota; done) | decide)))); conv => whnf)
  exact ⟨_, _, Ent.mk' (e' := [(0, AV.bool true)]) (H' := ⟨0, []⟩) [] (by kernel_rfl) ⟨AVE.bool (by decide +kernel), trivial⟩ trivial, (), rfl, rfl⟩
end Go.Proofs.Yteeifedpabcehaa.Ax

namespace Go.Proofs.Yteeifedpabcehaa.Ax
open Go.RowKit Go.Sort
set_option maxRecDepth 100000
theorem mem_adel {β : Type} {l : List (List UInt8 × β)} {s : List UInt8} {p : List UInt8 × β} : p ∈ adel l s ↔ p ∈ l ∧ p.1 ≠ s := by
  unfold adel
  rw [List.mem_filter]
  simp
theorem keys_adel {β : Type} (l : List (List UInt8 × β)) (s : List UInt8) : (adel l s).map (·.1) = (l.map (·.1)).filter fun k => decide (k ≠ s) := by
  unfold adel
  rw [List.filter_map]
  congr 1
theorem nodup_adel {β : Type} {l : List (List UInt8 × β)} (s : List UInt8) (h : (l.map (·.1)).Nodup) : ((adel l s).map (·.1)).Nodup := by
  rw [keys_adel]
  exact h.sublist List.filter_sublist
theorem keys_aput {β : Type} (s : List UInt8) (n : β) : ∀ l : List (List UInt8 × β), (aput l s n).map (·.1) = if s ∈ l.map (·.1) then l.map (·.1) else l.map (·.1) ++ [s]
  | [] => by simp [aput]
  | p :: l => by
    have ih := keys_aput s n l
    unfold aput
    by_cases h : p.1 = s
    · rw [if_pos h, if_pos (by simp [h])]
      simp [h]
    · rw [if_neg h, List.map_cons, ih]
      by_cases h2 : s ∈ l.map (·.1)
      · rw [if_pos h2, if_pos (by rw [List.map_cons]; exact List.mem_cons_of_mem _ h2)]
        rfl
      · rw [if_neg h2, if_neg (by simp only [List.map_cons, List.mem_cons, not_or]; exact ⟨fun e => h e.symm, h2⟩)]
        rfl
theorem nodup_aput {β : Type} {l : List (List UInt8 × β)} (s : List UInt8) (n : β) (h : (l.map (·.1)).Nodup) : ((aput l s n).map (·.1)).Nodup := by
  rw [keys_aput]
  split
  · exact h
  · rename_i hs
    rw [List.nodup_append]
    refine ⟨h, by simp, fun a ha b hb => ?_⟩
    simp at hb
    subst hb
    exact fun e => hs (e ▸ ha)
theorem mem_aput {β : Type} {s : List UInt8} {n : β} {p : List UInt8 × β} : ∀ {l : List (List UInt8 × β)}, (l.map (·.1)).Nodup → (p ∈ aput l s n ↔ (p ∈ l ∧ p.1 ≠ s) ∨ p = (s, n))
  | [], _ => by simp [aput]
  | q :: l, h => by
    simp only [List.map_cons, List.nodup_cons] at h
    have ih := mem_aput (s := s) (n := n) (p := p) h.2
    unfold aput
    by_cases hq : q.1 = s
    · rw [if_pos hq]
      constructor
      · intro hp
        rcases List.mem_cons.1 hp with e | hp
        · exact .inr e
        · exact .inl ⟨List.mem_cons_of_mem _ hp, fun e => h.1 (by rw [hq, ← e]; exact List.mem_map_of_mem hp)⟩
      · rintro (⟨hp, hne⟩ | e)
        · rcases List.mem_cons.1 hp with e | hp
          · exact absurd (by rw [e]; exact hq) hne
          · exact List.mem_cons_of_mem _ hp
        · rw [e]; exact List.mem_cons_self ..
    · rw [if_neg hq, List.mem_cons, ih, List.mem_cons]
      constructor
      · rintro (e | (⟨h1, h2⟩ | e))
        · subst e; exact .inl ⟨.inl rfl, hq⟩
        · exact .inl ⟨.inr h1, h2⟩
        · exact .inr e
      · rintro (⟨e | h1, h2⟩ | e)
        · exact .inl e
        · exact .inr (.inl ⟨h1, h2⟩)
        · exact .inr (.inr e)
theorem afind_of_mem {β : Type} {l : List (List UInt8 × β)} {p : List UInt8 × β} (h : (l.map (·.1)).Nodup) (hp : p ∈ l) : afind l p.1 = some p.2 := by
  cases hf : afind l p.1 with
  | none => exact absurd (List.mem_map_of_mem hp) (afind_none.1 hf)
  | some n =>
    have h2 := afind_mem hf
    have : (p.1, n) = p := by
      have key : ∀ {l : List (List UInt8 × β)}, (l.map (·.1)).Nodup → (p.1, n) ∈ l → p ∈ l → (p.1, n) = p := by
        intro l
        induction l with
        | nil => intro _ h; cases h
        | cons q l ih =>
          intro hn h1 h2
          simp only [List.map_cons, List.nodup_cons] at hn
          rcases List.mem_cons.1 h1 with e1 | h1 <;> rcases List.mem_cons.1 h2 with e2 | h2
          · rw [e1, e2]
          · exact absurd (by rw [← e1]; exact List.mem_map.2 ⟨p, h2, rfl⟩) hn.1
          · exact absurd (by rw [← e2]; exact List.mem_map.2 ⟨(p.1, n), h1, rfl⟩) hn.1
          · exact ih hn.2 h1 h2
      exact key h h2 hp
    rw [← this]
/-- A state of which the inodes are told apart, between 1 and the last. -/
structure IOk (last n : Nat) (m : NM) : Prop where
  len : m.length ≤ n
  nd : (m.map (·.1)).Nodup
  inj : ∀ p ∈ m, ∀ q ∈ m, p.2 = q.2 → p = q
  rng : ∀ p ∈ m, 1 ≤ p.2 ∧ p.2 ≤ last ∧ mayB p.1 = true
theorem mayB_len {x : List UInt8} (h : mayB x = true) : x.length ≤ 32 := by
  unfold mayB at h
  simp only [Bool.and_eq_true, decide_eq_true_eq] at h
  omega
theorem IOk.nok {last n : Nat} {m : NM} (h : IOk last n m) (hn : n ≤ 1000) : NOk m := ⟨Nat.le_trans h.len hn, fun p hp => mayB_len (h.rng p hp).2.2, h.nd⟩
theorem IOk.more {last n last' n' : Nat} {m : NM} (h : IOk last n m) (h1 : last ≤ last') (h2 : n ≤ n') : IOk last' n' m := ⟨Nat.le_trans h.len h2, h.nd, h.inj, fun p hp => by have := h.rng p hp; exact ⟨this.1, by omega, this.2.2⟩⟩
theorem IOk.none (last n : Nat) : IOk last n [] := ⟨Nat.zero_le _, by simp, (fun _ hp => by cases hp), (fun _ hp => by cases hp)⟩
theorem IOk.put {last n : Nat} {m : NM} (h : IOk last n m) {s : List UInt8} (hs : mayB s = true) : IOk (last + 1) (n + 1) (aput m s (last + 1)) := by
  refine ⟨Nat.le_trans (aput_length m) (by have := h.len; omega), nodup_aput s _ h.nd, fun p hp q hq e => ?_, fun p hp => ?_⟩
  · rcases (mem_aput h.nd).1 hp with ⟨p1, _⟩ | p1 <;> rcases (mem_aput h.nd).1 hq with ⟨q1, _⟩ | q1
    · exact h.inj p p1 q q1 e
    · have := (h.rng p p1).2.1; rw [q1] at e; simp only at e; omega
    · have := (h.rng q q1).2.1; rw [p1] at e; simp only at e; omega
    · rw [p1, q1]
  · rcases (mem_aput h.nd).1 hp with ⟨p1, _⟩ | p1
    · have := h.rng p p1; exact ⟨this.1, by omega, this.2.2⟩
    · rw [p1]; exact ⟨by simp, by simp, hs⟩
theorem IOk.del {last n : Nat} {m : NM} (h : IOk last n m) (s : List UInt8) : IOk last n (adel m s) :=
  ⟨Nat.le_trans (adel_length m s) h.len, nodup_adel s h.nd, fun p hp q hq e => h.inj p (mem_adel.1 hp).1 q (mem_adel.1 hq).1 e, fun p hp => h.rng p (mem_adel.1 hp).1⟩
theorem IOk.mv {last n : Nat} {m : NM} (h : IOk last n m) {a b : List UInt8} {k : Nat} (hb : mayB b = true) (ha : afind m a = some k) : IOk last (n + 1) (aput (adel m a) b k) := by
  have hd := h.del a
  have hm := afind_mem ha
  refine ⟨Nat.le_trans (aput_length _) (by have := hd.len; omega), nodup_aput b _ hd.nd, fun p hp q hq e => ?_, fun p hp => ?_⟩
  · rcases (mem_aput hd.nd).1 hp with ⟨p1, _⟩ | p1 <;> rcases (mem_aput hd.nd).1 hq with ⟨q1, _⟩ | q1
    · exact hd.inj p p1 q q1 e
    · obtain ⟨p2, p3⟩ := mem_adel.1 p1
      have := h.inj p p2 _ hm (by rw [e, q1])
      exact absurd (by rw [this]) p3
    · obtain ⟨q2, q3⟩ := mem_adel.1 q1
      have := h.inj q q2 _ hm (by rw [← e, p1])
      exact absurd (by rw [this]) q3
    · rw [p1, q1]
  · rcases (mem_aput hd.nd).1 hp with ⟨p1, _⟩ | p1
    · exact hd.rng p p1
    · rw [p1]
      have := h.rng _ hm
      exact ⟨this.1, this.2.1, hb⟩
theorem FD.In.did2 {P Q : NM → Prop} {f : FD} (h : f.In P) (hPQ : ∀ m, P m → Q m) {D : Deed} (hD : Q (D.on f.now)) (n : Nat) : (FD.did ⟨f.safe, f.now, f.ds, n⟩ D).In Q := by
  refine ⟨?_, fun k hk => ?_⟩
  · show D.on f.now = onAll f.safe (f.ds ++ [D])
    rw [onAll_snoc, h.eq]
  · show Q (onAll f.safe ((f.ds ++ [D]).take k))
    have hk : k ≤ (f.ds ++ [D]).length := hk
    rw [List.length_append] at hk
    by_cases e : k ≤ f.ds.length
    · rw [List.take_append_of_le_length e]
      exact hPQ _ (h.all k e)
    · rw [List.take_of_length_le (by simp at hk ⊢; omega), onAll_snoc, ← h.eq]
      exact hD
theorem mayB_of {x : List UInt8} {e : Int} (h : (bif !mayB x then (1 : Int) else e) = 0) : mayB x = true ∧ e = 0 := by
  cases hb : mayB x with
  | true => rw [hb] at h; exact ⟨rfl, h⟩
  | false => rw [hb] at h; simp at h
theorem createE_zero {f : FD} {x : List UInt8} (h : f.createE x = 0) : mayB x = true ∧ afind f.now x = none := by
  obtain ⟨h1, h2⟩ := mayB_of h
  refine ⟨h1, ?_⟩
  cases hf : afind f.now x with
  | none => rfl
  | some n => rw [hf] at h2; simp at h2
theorem remE_zero {f : FD} {x : List UInt8} (h : f.remE x = 0) : mayB x = true ∧ ∃ n, afind f.now x = some n := by
  obtain ⟨h1, h2⟩ := mayB_of h
  refine ⟨h1, ?_⟩
  cases hf : afind f.now x with
  | none => rw [hf] at h2; simp at h2
  | some n => exact ⟨n, rfl⟩
theorem renE_zero {f : FD} {a b : List UInt8} (h : f.renE a b = 0) : mayB a = true ∧ mayB b = true ∧ ∃ n, afind f.now a = some n ∧ f.findN a = n := by
  unfold FD.renE at h
  cases ha : mayB a with
  | false => rw [ha] at h; simp at h
  | true =>
    cases hb : mayB b with
    | false => rw [hb] at h; simp at h
    | true =>
      refine ⟨rfl, rfl, ?_⟩
      rw [ha, hb] at h
      cases hf : afind f.now a with
      | none => rw [hf] at h; simp at h
      | some n => exact ⟨n, rfl, by simp [FD.findN, hf]⟩
theorem does_iok {f : FD} {n : Nat} (h : f.In (IOk f.last n)) (c : Call) : (f.does c).In (IOk (f.does c).last (n + 1)) := by
  have stay : f.In (IOk f.last (n + 1)) := h.mono fun m hm => hm.more (Nat.le_refl _) (Nat.le_succ _)
  unfold FD.does
  split
  · unfold FD.create
    split
    · rename_i h0
      obtain ⟨h1, h2⟩ := createE_zero h0
      exact h.did2 (fun m hm => hm.more (Nat.le_succ _) (Nat.le_succ _)) (D := .mk c.s (f.last + 1)) (h.now.put h1) _
    · exact stay
  · split
    · unfold FD.ren
      split
      · rename_i h0
        obtain ⟨h1, h2, k, h3, h4⟩ := renE_zero h0.1
        rw [h4]
        exact h.did2 (fun m hm => hm.more (Nat.le_refl _) (Nat.le_succ _)) (D := .mv c.s c.t k) (h.now.mv h2 h3) _
      · exact stay
    · split
      · unfold FD.rem
        split
        · exact h.did2 (fun m hm => hm.more (Nat.le_refl _) (Nat.le_succ _)) (D := .rm c.s) ((h.now.del c.s).more (Nat.le_refl _) (Nat.le_succ _)) _
        · exact stay
      · split
        · exact stay.synced
        · split
          · exact stay.crash _
          · exact stay
/-! Sorted lists of names. -/
theorem lsN_mem {m : NM} (h : (m.map (·.1)).Nodup) {p : EN} : p ∈ lsN m ↔ p ∈ m := by
  unfold lsN
  rw [List.mem_map]
  constructor
  · rintro ⟨k, hk, rfl⟩
    obtain ⟨q, hq, rfl⟩ := List.mem_map.1 (mem_sortS.1 hk)
    rw [afind_of_mem h hq]
    exact hq
  · intro hp
    refine ⟨p.1, mem_sortS.2 (List.mem_map_of_mem hp), ?_⟩
    rw [afind_of_mem h hp]
    rfl
theorem lsN_keys (m : NM) : (lsN m).map (·.1) = sortS (m.map (·.1)) := by
  unfold lsN
  rw [List.map_map]
  exact List.map_id'' (fun _ => rfl) _
theorem live_mem {f : FD} {x : Nat} : x ∈ f.live ↔ ∃ k, k ≤ f.ds.length ∧ x ∈ vals (onAll f.safe (f.ds.take k)) := by
  unfold FD.live
  rw [dd_mem, sortU_mem]
  unfold upTo
  rw [List.mem_flatMap]
  constructor
  · rintro ⟨k, hk, hx⟩
    exact ⟨k, by have := List.mem_range.1 hk; omega, hx⟩
  · rintro ⟨k, hk, hx⟩
    exact ⟨k, List.mem_range.2 (by omega), hx⟩
theorem live_len {f : FD} (h : f.In NOk) : f.live.length ≤ 1000 * (f.ds.length + 1) := by
  have h1 := dd_len (sortU (upTo f f.ds.length)) (sortU (upTo f f.ds.length)).length
  rw [List.take_length, sortU_length] at h1
  exact Nat.le_trans h1 (upTo_len h _ (Nat.le_refl _))
theorem live_lt (f : FD) : f.live.Pairwise (· < ·) := dd_lt (sortU_sorted _)
theorem live_rng {f : FD} {n : Nat} (h : f.In (IOk f.last n)) : ∀ x ∈ f.live, x ≤ f.last := fun x hx => by
  obtain ⟨k, hk, hx⟩ := live_mem.1 hx
  obtain ⟨p, hp, rfl⟩ := List.mem_map.1 hx
  exact ((h.all k hk).rng p hp).2.1
theorem live_now {f : FD} {n : Nat} (h : f.In (IOk f.last n)) : ∀ p ∈ f.now, p.2 ∈ f.live := fun p hp =>
  live_mem.2 ⟨f.ds.length, Nat.le_refl _, by rw [List.take_length, ← h.eq]; exact List.mem_map_of_mem hp⟩
end Go.Proofs.Yteeifedpabcehaa.Ax
