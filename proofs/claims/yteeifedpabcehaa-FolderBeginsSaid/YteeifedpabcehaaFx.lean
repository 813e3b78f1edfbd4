/-
  Chapter 06: FolderBegins, the walk.
-/
import Derived.Test.YteeifedpabcehaaFj
namespace Go.Proofs.Yteeifedpabcehaa.Ax
open Go.RowKit Go.Sort
set_option maxRecDepth 100000
theorem en_ext {A B : List EN} (h : A.length = B.length) (hj : ∀ j, j < A.length → A.getD j ([], 0) = B.getD j ([], 0)) : A = B := by
  refine List.ext_getElem h fun j h1 h2 => ?_
  have := hj j h1
  simpa [List.getD, h1, h2] using this
theorem like_ok (A B : List EN) (hA : A.length ≤ 100000) (hB : B.length ≤ 100000) : AFn Go.Proofs.Try.prog 15 [.iv (.sl 2 A.length (enF A)), .iv (.sl 2 B.length (enF B))] ⟨0, []⟩ (fun _ : Unit => AV.bool (decide (A = B))) (fun _ => ⟨0, []⟩) := by
  refine ACall.walk (C := cfg 26 0) (cfgOk _ _) sch15 (fn := Go.Proofs.Try.f15) (by kernel_rfl) (by kernel_rfl) rfl (by kernel_rfl) (by kernel_rfl) rfl rfl ?_
  (conv => whnf); repeat ((first | (refine And.intro ?_ ?_; (focus ((repeat' (first | exact trivial | refine And.intro rfl ?_)); done))) | (refine And.intro ?_ ?_; (focus (first | omega | (dsimp -iota only; omega) | (simp -iota; omega) | (simp -iota; done) | decide)))); conv => whnf)
  refine branchB_of (fun h => ?_) (fun h => ?_) <;> (first | replace h := not_t h | replace h := not_f h | skip) <;> (first | replace h := of_decide_eq_true h | replace h := of_decide_eq_false h | skip) <;> (first | replace h := Classical.not_not.1 h | skip) <;> (try dsimp only at h)
  · (conv => whnf); repeat ((first | (refine And.intro ?_ ?_; (focus ((repeat' (first | exact trivial | refine And.intro rfl ?_)); done))) | (refine And.intro ?_ ?_; (focus (first | omega | (dsimp -iota only; omega) | (simp -iota; omega) | (simp -iota; done) | decide)))); conv => whnf)
    refine ⟨(), ?_, rfl⟩
    congr 3
    exact (decide_eq_false fun e => by subst e; exact h rfl).symm
  · have hl : A.length = B.length := by omega
    (conv => whnf); repeat ((first | (refine And.intro ?_ ?_; (focus ((repeat' (first | exact trivial | refine And.intro rfl ?_)); done))) | (refine And.intro ?_ ?_; (focus (first | omega | (dsimp -iota only; omega) | (simp -iota; omega) | (simp -iota; done) | decide)))); conv => whnf)
    refine AWP.loop (X := { x : Nat // x ≤ A.length ∧ ∀ j, j < x → A.getD j ([], 0) = B.getD j ([], 0) }) (fun x => [(0, .iv (.sl 2 A.length (enF A))), (1, .iv (.sl 2 B.length (enF B))), (5, AV.int .i64 x.1)]) (fun x => ⟨0, []⟩) (fun x => A.length - x.1) (⟨0, by omega, fun j hj => by omega⟩) ?_ fun x => AWP.go (S := sch15) (cfgOk _ _) (.of_eq (by kernel_rfl)) ?_
    · exact Ent.mk' [] (by kernel_rfl) (by repeat' first | exact trivial | refine And.intro (AVE.refl _) ?_ | refine And.intro (AVE.int (by first | rfl | omega | (dsimp only; omega) | (simp -iota; omega) | (simp -iota; done))) ?_ | refine And.intro (AVE.bool (by assumption)) ?_ | refine And.intro (AVE.len (by first | rfl | omega | (dsimp only; omega) | (simp -iota; omega) | (simp -iota; done))) ?_) (by repeat' (first | exact trivial | refine ⟨⟨_, rfl, ChE.refl _⟩, ?_⟩))
    · obtain ⟨x, hx, hj⟩ := x
      have hxx : ((x : Nat) : Int).toNat = x := by simp
      (conv => whnf); repeat ((first | (refine And.intro ?_ ?_; (focus ((repeat' (first | exact trivial | refine And.intro rfl ?_)); done))) | (refine And.intro ?_ ?_; (focus (first | omega | (dsimp -iota only; omega) | (simp -iota; omega) | (simp -iota; done) | decide)))); conv => whnf)
      refine branchB_of (fun g => ?_) (fun g => ?_) <;> (first | replace g := not_t g | replace g := not_f g | skip) <;> (first | replace g := of_decide_eq_true g | replace g := of_decide_eq_false g | skip) <;> (first | replace g := Classical.not_not.1 g | skip) <;> (try dsimp only at g)
      · (conv => whnf); repeat ((first | (refine And.intro ?_ ?_; (focus ((repeat' (first | exact trivial | refine And.intro rfl ?_)); done))) | (refine And.intro ?_ ?_; (focus (first | omega | (dsimp -iota only; omega) | (simp -iota; omega) | (simp -iota; done) | decide)))); conv => whnf)
        refine branchB_of (fun g2 => ?_) (fun g2 => ?_) <;> (first | replace g2 := not_t g2 | replace g2 := not_f g2 | skip) <;> (first | replace g2 := of_decide_eq_true g2 | replace g2 := of_decide_eq_false g2 | skip) <;> (first | replace g2 := Classical.not_not.1 g2 | skip) <;> (try dsimp only at g2)
        · have hne : A ≠ B := fun e => by
            subst e
            simp at g2
          (conv => whnf); repeat ((first | (refine And.intro ?_ ?_; (focus ((repeat' (first | exact trivial | refine And.intro rfl ?_)); done))) | (refine And.intro ?_ ?_; (focus (first | omega | (dsimp -iota only; omega) | (simp -iota; omega) | (simp -iota; done) | decide)))); conv => whnf)
          refine ⟨(), ?_, rfl⟩
          congr 3
          exact (decide_eq_false hne).symm
        · rw [hxx] at g2
          simp only [Bool.and_eq_true, decide_eq_true_eq, and_true] at g2
          (conv => whnf); repeat ((first | (refine And.intro ?_ ?_; (focus ((repeat' (first | exact trivial | refine And.intro rfl ?_)); done))) | (refine And.intro ?_ ?_; (focus (first | omega | (dsimp -iota only; omega) | (simp -iota; omega) | (simp -iota; done) | decide)))); conv => whnf)
          refine ⟨⟨x + 1, by omega, fun j hj' => ?_⟩, Ent.mk' [] (by kernel_rfl) (by repeat' first | exact trivial | refine And.intro (AVE.refl _) ?_ | refine And.intro (AVE.int (by first | rfl | omega | (dsimp only; omega) | (simp -iota; omega) | (simp -iota; done))) ?_ | refine And.intro (AVE.bool (by assumption)) ?_ | refine And.intro (AVE.len (by first | rfl | omega | (dsimp only; omega) | (simp -iota; omega) | (simp -iota; done))) ?_) (by repeat' (first | exact trivial | refine ⟨⟨_, rfl, ChE.refl _⟩, ?_⟩)), ?_⟩
          · by_cases e : j = x
            · subst e
              exact Prod.ext g2.1 (by have := g2.2; omega)
            · exact hj j (by omega)
          · show A.length - (x + 1) < A.length - x
            omega
      · (conv => whnf); repeat ((first | (refine And.intro ?_ ?_; (focus ((repeat' (first | exact trivial | refine And.intro rfl ?_)); done))) | (refine And.intro ?_ ?_; (focus (first | omega | (dsimp -iota only; omega) | (simp -iota; omega) | (simp -iota; done) | decide)))); conv => whnf)
        refine ⟨(), ?_, rfl⟩
        congr 3
        exact (decide_eq_true (en_ext hl fun j hjl => hj j (by omega))).symm
theorem like_self (A : List EN) (hA : A.length ≤ 100000) : AFn Go.Proofs.Try.prog 15 [.iv (.sl 2 A.length (enF A)), .iv (.sl 2 A.length (enF A))] ⟨0, []⟩ (fun _ : Unit => AV.bool true) (fun _ => ⟨0, []⟩) := by
  have h := like_ok A A hA hA
  rw [decide_eq_true rfl] at h
  exact h
/-- What a folder lists behind so many deeds. -/
def sts (f : FD) (k : Nat) : List EN := lsN (onAll f.safe (f.ds.take k))
def siF (f : FD) (k : Nat) : List IV := [.sl 2 (sts f k).length (enF (sts f k))]
theorem sts_now {P : NM → Prop} {f : FD} (h : f.In P) : sts f f.ds.length = lsN f.now := by
  unfold sts
  rw [List.take_length, ← h.eq]
theorem sts_len {f : FD} {n : Nat} (h : f.In (IOk f.last n)) {k : Nat} (hk : k ≤ f.ds.length) : (sts f k).length ≤ n := by
  unfold sts
  rw [lsN_length]
  exact (h.all k hk).len
theorem sts_did {f : FD} {n : Nat} {D : Deed} {k : Nat} (hk : k ≤ f.ds.length) : sts (FD.did ⟨f.safe, f.now, f.ds, n⟩ D) k = sts f k := by
  unfold sts
  show lsN (onAll f.safe ((f.ds ++ [D]).take k)) = _
  rw [List.take_append_of_le_length hk]
theorem does_ways (f : FD) (c : Call) (h5 : c.w ≠ 5) (h6 : c.w ≠ 6) : f.does c = f ∨ ∃ n D, f.does c = FD.did ⟨f.safe, f.now, f.ds, n⟩ D := by
  unfold FD.does
  split
  · unfold FD.create
    split
    · exact .inr ⟨_, _, rfl⟩
    · exact .inl rfl
  · split
    · unfold FD.ren
      split
      · exact .inr ⟨f.last, _, rfl⟩
      · exact .inl rfl
    · split
      · unfold FD.rem
        split
        · exact .inr ⟨f.last, _, rfl⟩
        · exact .inl rfl
      · exact .inl rfl
theorem lsN_lt {m : NM} (h : (m.map (·.1)).Nodup) {j k : Nat} (hjk : j < k) (hk : k < (lsN m).length) : ((lsN m).getD j ([], 0)).1 < ((lsN m).getD k ([], 0)).1 := by
  have hs : (sortS (m.map (·.1))).Pairwise fun a b => decide (a ≤ b) = true := List.pairwise_mergeSort (fun a b c h1 h2 => by simp only [decide_eq_true_eq] at *; exact List.le_trans h1 h2) (fun a b => by simp only [Bool.or_eq_true, decide_eq_true_eq]; exact List.le_total a b) _
  have hn : (sortS (m.map (·.1))).Nodup := (List.mergeSort_perm _ _).nodup_iff.2 h
  have e : ∀ i, i < (lsN m).length → ∃ hi : i < (sortS (m.map (·.1))).length, ((lsN m).getD i ([], 0)).1 = (sortS (m.map (·.1)))[i] := fun i hi => by
    have h1 : i < (sortS (m.map (·.1))).length := by rw [sortS_length, List.length_map]; rwa [lsN_length] at hi
    refine ⟨h1, ?_⟩
    simp only [lsN, List.getD, List.getElem?_map, List.getElem?_eq_getElem h1, Option.map_some, Option.getD_some]
  obtain ⟨j1, ej⟩ := e j (by omega)
  obtain ⟨k1, ek⟩ := e k hk
  rw [ej, ek]
  have h1 := List.pairwise_iff_getElem.1 hs j k j1 k1 hjk
  simp only [decide_eq_true_eq] at h1
  have h2 : (sortS (m.map (·.1)))[j] ≠ (sortS (m.map (·.1)))[k] := fun e => by
    have := (List.getElem_inj hn).1 e
    omega
  exact Decidable.byContradiction fun hc => h2 (List.le_antisymm h1 (List.not_lt.1 hc))
theorem does5 (f : FD) {c : Call} (h : c.w = 5) : f.does c = f.synced := by
  have h0 : ¬isMk c.w := fun e => by
    rcases e with e | e | e <;> omega
  show (if isMk c.w then f.create c.s else if c.w = 3 then f.ren c.s c.t else if c.w = 4 then f.rem c.s else if c.w = 5 then f.synced else if c.w = 6 then f.crash c.k else f) = _
  simp only [h]
  rfl
theorem does6 (f : FD) {c : Call} (h : c.w = 6) : f.does c = f.crash c.k := by
  have h0 : ¬isMk c.w := fun e => by
    rcases e with e | e | e <;> omega
  show (if isMk c.w then f.create c.s else if c.w = 3 then f.ren c.s c.t else if c.w = 4 then f.rem c.s else if c.w = 5 then f.synced else if c.w = 6 then f.crash c.k else f) = _
  simp only [h]
  rfl
theorem keep_le (f : FD) (k : Int) : f.keep k ≤ f.ds.length := by
  unfold FD.keep
  omega
@[reducible] def snc (f : FD) : Chunk := .rowc 34 1 (f.ds.length + 1) (siF f)
theorem si_one {f : FD} (h0 : f.ds = []) {L : List EN} (hL : lsN f.safe = L) {g : Nat → List IV} (hg : g 0 = [.sl 2 L.length (enF L)]) : ChE (.rowc 34 1 1 g) (snc f) := by
  unfold snc
  rw [h0]
  refine ChE.row (Nat.le_refl _) fun i hi => ?_
  have : i = 0 := by simp at hi; omega
  subst this
  rw [hg]
  unfold siF sts
  rw [h0]
  show _ = [IV.sl 2 (lsN f.safe).length (enF (lsN f.safe))]
  rw [hL]
theorem si_push {f f' : FD} {n : Nat} {D : Deed} (h : f' = FD.did ⟨f.safe, f.now, f.ds, n⟩ D) {P : NM → Prop} (hp : f'.In P) {L : List EN} (hL : L = lsN f'.now) {g : Nat → List IV} (hg : g 0 = [.sl 2 L.length (enF L)]) : ChE (.rowc 34 1 (f.ds.length + 1 + 1) fun j => if j < f.ds.length + 1 then siF f j else g (j - (f.ds.length + 1))) (snc f') := by
  have hl : f'.ds.length = f.ds.length + 1 := by rw [h]; simp [FD.did]
  refine ChE.row (by omega) fun j hj => ?_
  by_cases hc : j < f.ds.length + 1
  · simp only [if_pos hc]
    unfold siF
    rw [h, sts_did (by omega)]
  · have : j = f.ds.length + 1 := by omega
    subst this
    simp only [if_neg hc, Nat.sub_self]
    rw [hg, hL, ← sts_now hp, hl]
    rfl
end Go.Proofs.Yteeifedpabcehaa.Ax
