/-
  Chapter 19: the numbers that are pinned; rows that are compared.
-/
import Derived.Test.YtoofmkkcaoojiaaUh
namespace Go.Proofs.Ytoofmkkcaoojiaa.Ax
open Go.RowKit Go.Sort
set_option maxRecDepth 100000
theorem sortU_perm {a b : List Nat} (h : a.Perm b) : sortU a = sortU b := by
  have tr : ∀ x y z : Nat, (!nlt y x) = true → (!nlt z y) = true → (!nlt z x) = true := fun x y z h1 h2 => by
    simp only [nlt, Bool.not_eq_true', decide_eq_false_iff_not] at *
    omega
  have tt : ∀ x y : Nat, ((!nlt y x) || (!nlt x y)) = true := fun x y => by
    simp only [nlt, Bool.or_eq_true, Bool.not_eq_true', decide_eq_false_iff_not]
    omega
  refine List.Perm.eq_of_pairwise (le := fun x y : Nat => x ≤ y) (fun x y _ _ h1 h2 => Nat.le_antisymm h1 h2) ?_ ?_ ?_
  · exact (List.pairwise_mergeSort tr tt a).imp fun h => by simp only [nlt, Bool.not_eq_true', decide_eq_false_iff_not] at h; omega
  · exact (List.pairwise_mergeSort tr tt b).imp fun h => by simp only [nlt, Bool.not_eq_true', decide_eq_false_iff_not] at h; omega
  · exact ((List.mergeSort_perm _ _).trans h).trans (List.mergeSort_perm _ _).symm
theorem sortU_length (l : List Nat) : (sortU l).length = l.length := by simp [sortU]
theorem sortU_mem {l : List Nat} {x : Nat} : x ∈ sortU l ↔ x ∈ l := by simp [sortU]
theorem sortU_sorted (l : List Nat) : (sortU l).Pairwise (· ≤ ·) := by
  have tr : ∀ x y z : Nat, (!nlt y x) = true → (!nlt z y) = true → (!nlt z x) = true := fun x y z h1 h2 => by
    simp only [nlt, Bool.not_eq_true', decide_eq_false_iff_not] at *
    omega
  have tt : ∀ x y : Nat, ((!nlt y x) || (!nlt x y)) = true := fun x y => by
    simp only [nlt, Bool.or_eq_true, Bool.not_eq_true', decide_eq_false_iff_not]
    omega
  exact (List.pairwise_mergeSort tr tt l).imp fun h => by simp only [nlt, Bool.not_eq_true', decide_eq_false_iff_not] at h; omega
theorem ddGo_mem : ∀ {l : List Nat} {p x : Nat}, x ∈ ddGo p l → x ∈ l
  | y :: l, p, x, h => by
    unfold ddGo at h
    split at h
    · exact List.mem_cons_of_mem _ (ddGo_mem h)
    · rcases List.mem_cons.1 h with rfl | h
      · exact List.mem_cons_self ..
      · exact List.mem_cons_of_mem _ (ddGo_mem h)
theorem ddGo_mem2 : ∀ {l : List Nat} {p x : Nat}, x ∈ l → x = p ∨ x ∈ ddGo p l
  | y :: l, p, x, h => by
    unfold ddGo
    rcases List.mem_cons.1 h with rfl | h
    · by_cases e : x = p
      · exact .inl e
      · rw [if_neg e]; exact .inr (List.mem_cons_self ..)
    · split
      · exact ddGo_mem2 h
      · rcases ddGo_mem2 (p := y) h with rfl | h
        · exact .inr (List.mem_cons_self ..)
        · exact .inr (List.mem_cons_of_mem _ h)
theorem dd_mem {l : List Nat} {x : Nat} : x ∈ dd l ↔ x ∈ l := by
  cases l with
  | nil => simp [dd]
  | cons y l =>
    simp only [dd, List.mem_cons]
    constructor
    · rintro (h | h)
      · exact .inl h
      · exact .inr (ddGo_mem h)
    · rintro (h | h)
      · exact .inl h
      · exact ddGo_mem2 h
theorem ddGo_lt : ∀ {l : List Nat} {p : Nat}, (∀ x ∈ l, p ≤ x) → l.Pairwise (· ≤ ·) → (ddGo p l).Pairwise (· < ·) ∧ ∀ x ∈ ddGo p l, p < x
  | [], _, _, _ => ⟨by simp [ddGo], by simp [ddGo]⟩
  | y :: l, p, h1, h2 => by
    rw [List.pairwise_cons] at h2
    unfold ddGo
    have hy := h1 y (List.mem_cons_self ..)
    split
    · exact ddGo_lt (fun x hx => h1 x (List.mem_cons_of_mem _ hx)) h2.2
    · obtain ⟨g1, g2⟩ := ddGo_lt (p := y) h2.1 h2.2
      refine ⟨List.pairwise_cons.2 ⟨g2, g1⟩, fun x hx => ?_⟩
      rcases List.mem_cons.1 hx with rfl | hx
      · omega
      · have := g2 x hx
        omega
theorem dd_lt {l : List Nat} (h : l.Pairwise (· ≤ ·)) : (dd l).Pairwise (· < ·) := by
  cases l with
  | nil => simp [dd]
  | cons y l =>
    rw [List.pairwise_cons] at h
    obtain ⟨g1, g2⟩ := ddGo_lt (p := y) h.1 h.2
    exact List.pairwise_cons.2 ⟨g2, g1⟩
section
variable (s : SN)
def SN.seqs : List Nat := dd (sortU (s.l.map (·.2.1)))
structure WX (s : SN) where
  left : List MK
  A : List (List UInt8 × Pin)
  nd : (A.map (·.1)).Nodup
  mem : ∀ p, p ∈ A ↔ p ∈ s.l ∧ MK.s p.1 ∉ left
theorem WX.len {s : SN} (hs : s.Ok) {left : List MK} {A : List (List UInt8 × Pin)} (nd : (A.map (·.1)).Nodup) (mem : ∀ p, p ∈ A ↔ p ∈ s.l ∧ MK.s p.1 ∉ left) : A.length ≤ 16 := by
  have h1 : A.length ≤ s.l.length := nodup_len (keys_nodup nd) fun p hp => ((mem p).1 hp).1
  have := hs.len
  omega
def WX.q {s : SN} (x : WX s) : List Nat := x.A.map (·.2.1)
@[simp] theorem WX.qlen {s : SN} {left : List MK} {A : List (List UInt8 × Pin)} {h1 h2} : (WX.mk left A h1 h2 : WX s).q.length = A.length := List.length_map _
theorem ChE.pushU {e : Nat} {A B : List Nat} {p : Nat} {g : Nat → List IV} (hg : g 0 = [.v (.int .u64 (p : Nat))]) (hB : B = A ++ [p]) : ChE (.rowc e 1 (A.length + 1) fun j => if j < A.length then uF A.toArray j else g (j - A.length)) (.rowc e 1 B.length (uF B.toArray)) := by
  subst hB
  refine ChE.row (by simp) fun j hj => ?_
  by_cases h : j < A.length
  · simp only [if_pos h]
    unfold uF
    rw [bang_getD, bang_getD]
    simp [List.getD, List.getElem?_append_left, h]
  · have : j = A.length := by simp at hj; omega
    subst this
    simp only [if_neg h, Nat.sub_self]
    rw [hg]
    unfold uF
    rw [bang_getD]
    simp
theorem seqs_in (hs : s.Ok) : AFn Go.Proofs.Try.prog 9 [.ptr 0 0] s.H (fun _ : Unit => .iv (.sl 1 s.seqs.length (uF s.seqs.toArray))) (fun _ => s.H) := by
  refine ACall.fin ?_
  refine ACall.walk (C := cfg 26 2) (cfgOk _ _) [] (fn := Go.Proofs.Try.f9) (by kernel_rfl) (by kernel_rfl) rfl (by kernel_rfl) (by kernel_rfl) rfl rfl ?_
  (conv => whnf); repeat ((first | (refine And.intro ?_ ?_; (focus ((repeat' (first | exact trivial | refine And.intro rfl ?_)); done))) | (refine And.intro ?_ ?_; (focus (first | omega | (dsimp -iota only; omega) | (simp -iota; omega) | (simp -iota; done) | decide)))); conv => whnf)
  refine AFn.use [0, 1] (none_in s) (by kernel_rfl) rfl (by repeat' first | exact trivial | refine ⟨rfl, ?_⟩) fun _ => ?_
  (conv => whnf); repeat ((first | (refine And.intro ?_ ?_; (focus ((repeat' (first | exact trivial | refine And.intro rfl ?_)); done))) | (refine And.intro ?_ ?_; (focus (first | omega | (dsimp -iota only; omega) | (simp -iota; omega) | (simp -iota; done) | decide)))); conv => whnf)
  refine AWP.loop (X := WX s) (fun x => [(3, .row 3 1 0 x.q.length), (12, .ptr 2 0)]) (fun x => ⟨4, [(0, .cells 64 [.mp 1, AV.int .u64 s.n]), (1, .mapit none (smap pg s.l) x.left 2 none), (3, .rowc 26 1 x.q.length (uF x.q.toArray))]⟩) (fun x => x.left.length) (⟨(smap pg s.l).map (·.1), [], by simp, fun p => ?_⟩) ?_ fun x => AWP.go (S := []) (cfgOk _ _) (.of_eq (by kernel_rfl)) ?_
  · simp only [List.not_mem_nil, false_iff, not_and, Classical.not_not]
    intro hp
    exact List.mem_map.2 ⟨(MK.s p.1, pg p.2), List.mem_map.2 ⟨p, hp, rfl⟩, rfl⟩
  · refine Ent.mk' [some 0, some 1, some 2, none] (by kernel_rfl) ?_ ?_
    · exact ⟨AVE.nil _ _, AVE.refl _, trivial⟩
    · exact ⟨⟨_, rfl, ChE.refl _⟩, ⟨_, rfl, ChE.refl _⟩, trivial, trivial⟩
  · obtain ⟨left, A, hnd, hmem⟩ := x
    have hAl := WX.len hs hnd hmem
    have hql : (WX.mk left A hnd hmem : WX s).q.length ≤ 16 := by simpa [WX.q] using hAl
    (conv => whnf); repeat ((first | (refine And.intro ?_ ?_; (focus ((repeat' (first | exact trivial | refine And.intro rfl ?_)); done))) | (refine And.intro ?_ ?_; (focus (first | omega | (dsimp -iota only; omega) | (simp -iota; omega) | (simp -iota; done) | decide)))); conv => whnf)
    refine ⟨fun p hp hl => ?_, fun hend => ?_⟩
    · obtain ⟨q, hq, rfl⟩ := List.mem_map.1 hp
      have hl : MK.s q.1 ∈ left := hl
      (conv => whnf); repeat ((first | (refine And.intro ?_ ?_; (focus ((repeat' (first | exact trivial | refine And.intro rfl ?_)); done))) | (refine And.intro ?_ ?_; (focus (first | omega | (dsimp -iota only; omega) | (simp -iota; omega) | (simp -iota; done) | decide)))); conv => whnf)
      have nd2 : ((A ++ [q]).map (·.1)).Nodup := by
        rw [List.map_append, List.nodup_append]
        refine ⟨hnd, by simp, fun a ha b hb => ?_⟩
        simp only [List.map_cons, List.map_nil, List.mem_singleton] at hb
        subst hb
        obtain ⟨r, hr, rfl⟩ := List.mem_map.1 ha
        intro e
        exact ((hmem r).1 hr).2 (e ▸ hl)
      have mem2 : ∀ p, p ∈ A ++ [q] ↔ p ∈ s.l ∧ MK.s p.1 ∉ left.filter fun j => decide (j ≠ MK.s q.1) := fun p => by
        rw [left_mem, List.mem_append, List.mem_singleton, hmem p]
        constructor
        · rintro (⟨h1, h2⟩ | rfl)
          · exact ⟨h1, .inl h2⟩
          · exact ⟨hq, .inr rfl⟩
        · rintro ⟨h1, h2 | h2⟩
          · exact .inl ⟨h1, h2⟩
          · refine .inr (nodup_eq hs.dup h1 hq ?_)
            injection h2
      refine ⟨⟨left.filter fun j => decide (j ≠ MK.s q.1), A ++ [q], nd2, mem2⟩, Ent.mk' [some 0, some 1, some 2, some 6] (by kernel_rfl) (by repeat' first | exact trivial | refine And.intro (AVE.refl _) ?_ | refine And.intro (AVE.int (by first | rfl | omega | (dsimp only; omega) | (simp -iota; omega) | (simp -iota; done))) ?_ | refine And.intro (AVE.bool (by assumption)) ?_ | refine And.intro (AVE.len (by first | rfl | omega | (dsimp only; omega) | (simp -iota; omega) | (simp -iota; done))) ?_) ?_, ?_⟩
      · exact ⟨⟨_, rfl, ChE.refl _⟩, ⟨_, rfl, ChE.stand⟩, ⟨_, rfl, ChE.pushU (A := A.map (·.2.1)) (p := q.2.1) rfl (by simp [WX.q])⟩, trivial⟩
      · exact left_lt hl
    · have hpm : A.Perm s.l := (List.perm_ext_iff_of_nodup (keys_nodup hnd) (keys_nodup hs.dup)).2 fun p => by
        rw [hmem p]
        exact ⟨fun h => h.1, fun h => ⟨h, hend (MK.s p.1, pg p.2) (List.mem_map.2 ⟨p, h, rfl⟩)⟩⟩
      have hq : dd (sortU (A.map (·.2.1))) = s.seqs := by
        unfold SN.seqs
        rw [sortU_perm (hpm.map _)]
      have hsl : (A.map (·.2.1)).length = (sortU (A.map (·.2.1))).length := (sortU_length _).symm
      have hl16 : (A.map (·.2.1)).length ≤ 16 := by simpa using hAl
      have hx : (WX.mk left A hnd hmem : WX s).q = A.map (·.2.1) := rfl
      (conv => whnf); repeat ((first | (refine And.intro ?_ ?_; (focus ((repeat' (first | exact trivial | refine And.intro rfl ?_)); done))) | (refine And.intro ?_ ?_; (focus (first | omega | (dsimp -iota only; omega) | (simp -iota; omega) | (simp -iota; done) | decide)))); conv => whnf)
      rw [hx]
      generalize A.map (·.2.1) = B at *
      refine AFn.use [3] (sort_ok B (by omega)) (by kernel_rfl) rfl (by repeat' first | exact trivial | refine ⟨rfl, ?_⟩) fun _ => ?_
      rw [hsl]
      (conv => whnf); repeat ((first | (refine And.intro ?_ ?_; (focus ((repeat' (first | exact trivial | refine And.intro rfl ?_)); done))) | (refine And.intro ?_ ?_; (focus (first | omega | (dsimp -iota only; omega) | (simp -iota; omega) | (simp -iota; done) | decide)))); conv => whnf)
      refine AFn.use [3] (compact_ok (sortU B) (by omega)) (by kernel_rfl) rfl (by repeat' first | exact trivial | refine ⟨rfl, ?_⟩) fun _ => ?_
      rw [hq]
      (conv => whnf); repeat ((first | (refine And.intro ?_ ?_; (focus ((repeat' (first | exact trivial | refine And.intro rfl ?_)); done))) | (refine And.intro ?_ ?_; (focus (first | omega | (dsimp -iota only; omega) | (simp -iota; omega) | (simp -iota; done) | decide)))); conv => whnf)
      refine ⟨_, _, (Ent.freeze 3 _ rfl rfl (e' := [(0, .iv (.sl 1 s.seqs.length (uF s.seqs.toArray)))]) ⟨AVF.sl (Nat.le_refl _), trivial⟩).trans (Ent.mk' (e' := [(0, .iv (.sl 1 s.seqs.length (uF s.seqs.toArray)))]) (H' := s.H) [some 0, some 1] (by kernel_rfl) ?_ ?_), (), rfl, rfl⟩
      · exact ⟨AVE.refl _, trivial⟩
      · (repeat' first | exact trivial | refine ⟨⟨_, rfl, ChE.refl _⟩, ?_⟩)
theorem seqs_ok (hs : s.Ok) : AFn Go.Proofs.Try.prog 9 [.ptr 0 0] (one s.H) (fun _ : Unit => .iv (.sl 1 s.seqs.length (uF s.seqs.toArray))) (fun _ => one s.H) := AFn.shut (seqs_in s hs) rfl rfl (fun _ => ⟨by kernel_rfl, by kernel_rfl⟩) (fun _ => (by repeat' first | exact trivial | refine ⟨rfl, ?_⟩)) (fun _ => rfl)
end
/-! Rows are compared. -/
theorem nq_ext {A B : List NQ} (h : A.length = B.length) (hj : ∀ j, j < A.length → A.getD j ([], 0) = B.getD j ([], 0)) : A = B := by
  refine List.ext_getElem h fun j h1 h2 => ?_
  have := hj j h1
  simpa [List.getD, h1, h2] using this
theorem equal_ok (A B : List NQ) (hA : A.length ≤ 1000) (hB : B.length ≤ 1000) : AFn Go.Proofs.Try.prog 10 [.iv (.sl 2 A.length (nqF A)), .iv (.sl 2 B.length (nqF B))] ⟨0, []⟩ (fun _ : Unit => AV.bool (decide (A = B))) (fun _ => ⟨0, []⟩) := by
  refine ACall.walk (C := cfg 26 0) (cfgOk _ _) sch10 (fn := Go.Proofs.Try.f10) (by kernel_rfl) (by kernel_rfl) rfl (by kernel_rfl) (by kernel_rfl) rfl rfl ?_
  (conv => whnf); repeat ((first | (refine And.intro ?_ ?_; (focus ((repeat' (first | exact trivial | refine And.intro rfl ?_)); done))) | (refine And.intro ?_ ?_; (focus (first | omega | (dsimp -iota only; omega) | (simp -iota; omega) | (simp -iota; done) | decide)))); conv => whnf)
  refine branchB_of (fun h => ?_) (fun h => ?_) <;> (first | replace h := not_t h | replace h := not_f h | skip) <;> (first | replace h := of_decide_eq_true h | replace h := of_decide_eq_false h | skip) <;> (first | replace h := Classical.not_not.1 h | skip) <;> (try dsimp only at h)
  · (conv => whnf); repeat ((first | (refine And.intro ?_ ?_; (focus ((repeat' (first | exact trivial | refine And.intro rfl ?_)); done))) | (refine And.intro ?_ ?_; (focus (first | omega | (dsimp -iota only; omega) | (simp -iota; omega) | (simp -iota; done) | decide)))); conv => whnf)
    refine ⟨(), ?_, rfl⟩
    congr 3
    exact (decide_eq_false fun e => by subst e; exact h rfl).symm
  · have hl : A.length = B.length := by omega
    (conv => whnf); repeat ((first | (refine And.intro ?_ ?_; (focus ((repeat' (first | exact trivial | refine And.intro rfl ?_)); done))) | (refine And.intro ?_ ?_; (focus (first | omega | (dsimp -iota only; omega) | (simp -iota; omega) | (simp -iota; done) | decide)))); conv => whnf)
    refine AWP.loop (X := { x : Nat // x ≤ A.length ∧ ∀ j, j < x → A.getD j ([], 0) = B.getD j ([], 0) }) (fun x => [(0, .iv (.sl 2 A.length (nqF A))), (1, .iv (.sl 2 B.length (nqF B))), (12, AV.int .i64 A.length), (13, AV.int .i64 x.1)]) (fun x => ⟨0, []⟩) (fun x => A.length - x.1) (⟨0, by omega, fun j hj => by omega⟩) ?_ fun x => AWP.go (S := sch10) (cfgOk _ _) (.of_eq (by kernel_rfl)) ?_
    · exact Ent.mk' [] (by kernel_rfl) (by repeat' first | exact trivial | refine And.intro (AVE.refl _) ?_ | refine And.intro (AVE.int (by first | rfl | omega | (dsimp only; omega) | (simp -iota; omega) | (simp -iota; done))) ?_ | refine And.intro (AVE.bool (by assumption)) ?_ | refine And.intro (AVE.len (by first | rfl | omega | (dsimp only; omega) | (simp -iota; omega) | (simp -iota; done))) ?_) (by repeat' (first | exact trivial | refine ⟨⟨_, rfl, ChE.refl _⟩, ?_⟩))
    · obtain ⟨x, hx, hj⟩ := x
      have hxx : ((x : Nat) : Int).toNat = x := by simp
      (conv => whnf); repeat ((first | (refine And.intro ?_ ?_; (focus ((repeat' (first | exact trivial | refine And.intro rfl ?_)); done))) | (refine And.intro ?_ ?_; (focus (first | omega | (dsimp -iota only; omega) | (simp -iota; omega) | (simp -iota; done) | decide)))); conv => whnf)
      refine branchB_of (fun g => ?_) (fun g => ?_) <;> (first | replace g := not_t g | replace g := not_f g | skip) <;> (first | replace g := of_decide_eq_true g | replace g := of_decide_eq_false g | skip) <;> (first | replace g := Classical.not_not.1 g | skip) <;> (try dsimp only at g)
      · (conv => whnf); repeat ((first | (refine And.intro ?_ ?_; (focus ((repeat' (first | exact trivial | refine And.intro rfl ?_)); done))) | (refine And.intro ?_ ?_; (focus (first | omega | (dsimp -iota only; omega) | (simp -iota; omega) | (simp -iota; done) | decide)))); conv => whnf)
        refine branchB_of (fun g2 => ?_) (fun g2 => ?_) <;> (first | replace g2 := not_t g2 | replace g2 := not_f g2 | skip) <;> (first | replace g2 := of_decide_eq_true g2 | replace g2 := of_decide_eq_false g2 | skip) <;> (first | replace g2 := Classical.not_not.1 g2 | skip) <;> (try dsimp only at g2)
        · have hne : A ≠ B := fun e => by
            subst e
            simp at g2
          (conv => whnf); repeat ((first | (refine And.intro ?_ ?_; (focus ((repeat' (first | exact trivial | refine And.intro rfl ?_)); done))) | (refine And.intro ?_ ?_; (focus (first | omega | (dsimp -iota only; omega) | (simp -iota; omega) | (simp -iota; done) | decide)))); conv => whnf)
          refine ⟨(), ?_, rfl⟩
          congr 3
          exact (decide_eq_false hne).symm
        · rw [hxx] at g2
          simp only [Bool.and_eq_true, decide_eq_true_eq, and_true] at g2
          (conv => whnf); repeat ((first | (refine And.intro ?_ ?_; (focus ((repeat' (first | exact trivial | refine And.intro rfl ?_)); done))) | (refine And.intro ?_ ?_; (focus (first | omega | (dsimp -iota only; omega) | (simp -iota; omega) | (simp -iota; done) | decide)))); conv => whnf)
          refine ⟨⟨x + 1, by omega, fun j hj' => ?_⟩, Ent.mk' [] (by kernel_rfl) (by repeat' first | exact trivial | refine And.intro (AVE.refl _) ?_ | refine And.intro (AVE.int (by first | rfl | omega | (dsimp only; omega) | (simp -iota; omega) | (simp -iota; done))) ?_ | refine And.intro (AVE.bool (by assumption)) ?_ | refine And.intro (AVE.len (by first | rfl | omega | (dsimp only; omega) | (simp -iota; omega) | (simp -iota; done))) ?_) (by repeat' (first | exact trivial | refine ⟨⟨_, rfl, ChE.refl _⟩, ?_⟩)), ?_⟩
          · by_cases e : j = x
            · subst e
              exact Prod.ext g2.1 (by have := g2.2; omega)
            · exact hj j (by omega)
          · show A.length - (x + 1) < A.length - x
            omega
      · (conv => whnf); repeat ((first | (refine And.intro ?_ ?_; (focus ((repeat' (first | exact trivial | refine And.intro rfl ?_)); done))) | (refine And.intro ?_ ?_; (focus (first | omega | (dsimp -iota only; omega) | (simp -iota; omega) | (simp -iota; done) | decide)))); conv => whnf)
        refine ⟨(), ?_, rfl⟩
        congr 3
        exact (decide_eq_true (nq_ext hl fun j hjl => hj j (by omega))).symm
theorem u_ext {A B : List Nat} (h : A.length = B.length) (hj : ∀ j, j < A.length → A.getD j 0 = B.getD j 0) : A = B := by
  refine List.ext_getElem h fun j h1 h2 => ?_
  have := hj j h1
  simpa [List.getD, h1, h2] using this
theorem equalU_ok (A B : List Nat) (hA : A.length ≤ 1000) (hB : B.length ≤ 1000) : AFn Go.Proofs.Try.prog 11 [.iv (.sl 1 A.length (uF A.toArray)), .iv (.sl 1 B.length (uF B.toArray))] ⟨0, []⟩ (fun _ : Unit => AV.bool (decide (A = B))) (fun _ => ⟨0, []⟩) := by
  refine ACall.walk (C := cfg 26 0) (cfgOk _ _) sch11 (fn := Go.Proofs.Try.f11) (by kernel_rfl) (by kernel_rfl) rfl (by kernel_rfl) (by kernel_rfl) rfl rfl ?_
  (conv => whnf); repeat ((first | (refine And.intro ?_ ?_; (focus ((repeat' (first | exact trivial | refine And.intro rfl ?_)); done))) | (refine And.intro ?_ ?_; (focus (first | omega | (dsimp -iota only; omega) | (simp -iota; omega) | (simp -iota; done) | decide)))); conv => whnf)
  refine branchB_of (fun h => ?_) (fun h => ?_) <;> (first | replace h := not_t h | replace h := not_f h | skip) <;> (first | replace h := of_decide_eq_true h | replace h := of_decide_eq_false h | skip) <;> (first | replace h := Classical.not_not.1 h | skip) <;> (try dsimp only at h)
  · (conv => whnf); repeat ((first | (refine And.intro ?_ ?_; (focus ((repeat' (first | exact trivial | refine And.intro rfl ?_)); done))) | (refine And.intro ?_ ?_; (focus (first | omega | (dsimp -iota only; omega) | (simp -iota; omega) | (simp -iota; done) | decide)))); conv => whnf)
    refine ⟨(), ?_, rfl⟩
    congr 3
    exact (decide_eq_false fun e => by subst e; exact h rfl).symm
  · have hl : A.length = B.length := by omega
    (conv => whnf); repeat ((first | (refine And.intro ?_ ?_; (focus ((repeat' (first | exact trivial | refine And.intro rfl ?_)); done))) | (refine And.intro ?_ ?_; (focus (first | omega | (dsimp -iota only; omega) | (simp -iota; omega) | (simp -iota; done) | decide)))); conv => whnf)
    refine AWP.loop (X := { x : Nat // x ≤ A.length ∧ ∀ j, j < x → A.getD j 0 = B.getD j 0 }) (fun x => [(0, .iv (.sl 1 A.length (uF A.toArray))), (1, .iv (.sl 1 B.length (uF B.toArray))), (12, AV.int .i64 A.length), (13, AV.int .i64 x.1)]) (fun x => ⟨0, []⟩) (fun x => A.length - x.1) (⟨0, by omega, fun j hj => by omega⟩) ?_ fun x => AWP.go (S := sch11) (cfgOk _ _) (.of_eq (by kernel_rfl)) ?_
    · exact Ent.mk' [] (by kernel_rfl) (by repeat' first | exact trivial | refine And.intro (AVE.refl _) ?_ | refine And.intro (AVE.int (by first | rfl | omega | (dsimp only; omega) | (simp -iota; omega) | (simp -iota; done))) ?_ | refine And.intro (AVE.bool (by assumption)) ?_ | refine And.intro (AVE.len (by first | rfl | omega | (dsimp only; omega) | (simp -iota; omega) | (simp -iota; done))) ?_) (by repeat' (first | exact trivial | refine ⟨⟨_, rfl, ChE.refl _⟩, ?_⟩))
    · obtain ⟨x, hx, hj⟩ := x
      have hxx : ((x : Nat) : Int).toNat = x := by simp
      (conv => whnf); repeat ((first | (refine And.intro ?_ ?_; (focus ((repeat' (first | exact trivial | refine And.intro rfl ?_)); done))) | (refine And.intro ?_ ?_; (focus (first | omega | (dsimp -iota only; omega) | (simp -iota; omega) | (simp -iota; done) | decide)))); conv => whnf)
      refine branchB_of (fun g => ?_) (fun g => ?_) <;> (first | replace g := not_t g | replace g := not_f g | skip) <;> (first | replace g := of_decide_eq_true g | replace g := of_decide_eq_false g | skip) <;> (first | replace g := Classical.not_not.1 g | skip) <;> (try dsimp only at g)
      · (conv => whnf); repeat ((first | (refine And.intro ?_ ?_; (focus ((repeat' (first | exact trivial | refine And.intro rfl ?_)); done))) | (refine And.intro ?_ ?_; (focus (first | omega | (dsimp -iota only; omega) | (simp -iota; omega) | (simp -iota; done) | decide)))); conv => whnf)
        refine branchB_of (fun g2 => ?_) (fun g2 => ?_) <;> (first | replace g2 := not_t g2 | replace g2 := not_f g2 | skip) <;> (first | replace g2 := of_decide_eq_true g2 | replace g2 := of_decide_eq_false g2 | skip) <;> (first | replace g2 := Classical.not_not.1 g2 | skip) <;> (try dsimp only at g2)
        · have hne : A ≠ B := fun e => by
            subst e
            simp at g2
          (conv => whnf); repeat ((first | (refine And.intro ?_ ?_; (focus ((repeat' (first | exact trivial | refine And.intro rfl ?_)); done))) | (refine And.intro ?_ ?_; (focus (first | omega | (dsimp -iota only; omega) | (simp -iota; omega) | (simp -iota; done) | decide)))); conv => whnf)
          refine ⟨(), ?_, rfl⟩
          congr 3
          exact (decide_eq_false hne).symm
        · rw [hxx] at g2
          simp only [bang_getD] at g2
          (conv => whnf); repeat ((first | (refine And.intro ?_ ?_; (focus ((repeat' (first | exact trivial | refine And.intro rfl ?_)); done))) | (refine And.intro ?_ ?_; (focus (first | omega | (dsimp -iota only; omega) | (simp -iota; omega) | (simp -iota; done) | decide)))); conv => whnf)
          refine ⟨⟨x + 1, by omega, fun j hj' => ?_⟩, Ent.mk' [] (by kernel_rfl) (by repeat' first | exact trivial | refine And.intro (AVE.refl _) ?_ | refine And.intro (AVE.int (by first | rfl | omega | (dsimp only; omega) | (simp -iota; omega) | (simp -iota; done))) ?_ | refine And.intro (AVE.bool (by assumption)) ?_ | refine And.intro (AVE.len (by first | rfl | omega | (dsimp only; omega) | (simp -iota; omega) | (simp -iota; done))) ?_) (by repeat' (first | exact trivial | refine ⟨⟨_, rfl, ChE.refl _⟩, ?_⟩)), ?_⟩
          · by_cases e : j = x
            · subst e
              omega
            · exact hj j (by omega)
          · show A.length - (x + 1) < A.length - x
            omega
      · (conv => whnf); repeat ((first | (refine And.intro ?_ ?_; (focus ((repeat' (first | exact trivial | refine And.intro rfl ?_)); done))) | (refine And.intro ?_ ?_; (focus (first | omega | (dsimp -iota only; omega) | (simp -iota; omega) | (simp -iota; done) | decide)))); conv => whnf)
        refine ⟨(), ?_, rfl⟩
        congr 3
        exact (decide_eq_true (u_ext hl fun j hjl => hj j (by omega))).symm
end Go.Proofs.Ytoofmkkcaoojiaa.Ax
