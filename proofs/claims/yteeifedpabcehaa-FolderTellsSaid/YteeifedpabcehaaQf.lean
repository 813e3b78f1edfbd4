/-
  chapter 06: the document's folder
-/
import Derived.Test.YteeifedpabcehaaQe
namespace Go.Proofs.Yteeifedpabcehaa.Ax
open Go.RowKit Go.Sort
set_option maxRecDepth 100000
theorem en_ext {A B : List EN} (h : A.length = B.length) (hj : ∀ j, j < A.length → A.getD j ([], 0) = B.getD j ([], 0)) : A = B := by
  refine List.ext_getElem h fun j h1 h2 => ?_
  have := hj j h1
  simpa [List.getD, h1, h2] using this
theorem like_ok (A B : List EN) (hA : A.length ≤ 100000) (hB : B.length ≤ 100000) : AFn Go.Proofs.Try.prog 15 [.iv (.sl 2 A.length (enF A)), .iv (.sl 2 B.length (enF B))] ⟨0, []⟩ (fun _ : Unit => AV.bool (decide (A = B))) (fun _ => ⟨0, []⟩) := by
  refine ACall.walk (C := cfg 26 0) (cfgOk _ _) sch15 (fn := Go.Proofs.Try.f15) (by kernel_rfl) (by kernel_rfl) rfl (by kernel_rfl) (by kernel_rfl) rfl rfl ?_
  (conv => whnf); repeat ((first | (refine And.intro ?_ ?_; (focus ((repeat' (first | exact trivial | refine And.intro rfl ?_)); done))) | (refine And.intro ?_ ?_; (focus (first | omega | (dsimp -iota only; omega) | (simp -iota; omega) | (simp -iota; done) | decide)))); conv => whnf)
  refine branchB_of (fun h => ?_) (fun h => ?_) <;> (first | replace h := not_t h | replace h := not_f h | skip) <;> (first | replace h := of_decide_eq_true h | replace h := of_decide_eq_false h | skip) <;> (first | replace h := Classical.not_not.1 h | skip) <;> (try dsimp only at h)
  · (conv => whnf); repeat ((first | (refine And.intro ?_ ?_; (focus ((repeat' (first | exact trivial | refine And.intro rfl ?_)); done))) | (refine And.intro ?_ ?_; (focus (first | omega | (dsimp -iota only; omega) | (simp -iota; omega) | (simp -iota; done) | decide)))); conv => whnf)
    refine ⟨(), ?_, rfl⟩
    congr 3
    exact (decide_eq_false fun e => by subst e; exact h rfl).symm
  · have hl : A.length = B.length := by omega
    (conv => whnf); repeat ((first | (refine And.intro ?_ ?_; (focus ((repeat' (first | exact trivial | refine And.intro rfl ?_)); done))) | (refine And.intro ?_ ?_; (focus (first | omega | (dsimp -iota only; omega) | (simp -iota; omega) | (simp -iota; done) | decide)))); conv => whnf)
    refine AWP.loop (X := { x : Nat // x ≤ A.length ∧ ∀ j, j < x → A.getD j ([], 0) = B.getD j ([], 0) }) (fun x => [(0, .iv (.sl 2 A.length (enF A))), (1, .iv (.sl 2 B.length (enF B))), (5, AV.int .i64 x.1)]) (fun x => ⟨0, []⟩) (fun x => A.length - x.1) (⟨0, by omega, fun j hj => by omega⟩) ?_ fun x => AWP.go (S := sch15) (cfgOk _ _) (.of_eq (by kernel_rfl)) ?_
    · exact Ent.mk' [] (by kernel_rfl) (by repeat' first | exact trivial | refine And.intro (AVE.refl _) ?_ | refine And.intro (AVE.int (by first | rfl | omega | (dsimp only; omega) | (simp -iota; omega) | (simp -iota; done))) ?_ | refine And.intro (AVE.bool (by assumption)) ?_ | refine And.intro (AVE.len (by first | rfl | omega | (dsimp only; omega) | (simp -iota; omega) | (simp -iota; done))) ?_) (by repeat' (first | exact trivial | refine ⟨⟨_, rfl, ChE.refl _⟩, ?_⟩))
    · obtain ⟨x, hx, hj⟩ := x
      have hxx : ((x : Nat) : Int).toNat = x := by simp
      (conv => whnf); repeat ((first | (refine And.intro ?_ ?_; (focus ((repeat' (first | exact trivial | refine And.intro rfl ?_)); done))) | (refine And.intro ?_ ?_; (focus (first | omega | (dsimp -iota only; omega) | (simp -iota; omega) | (simp -iota; done) | decide)))); conv => whnf)
      refine branchB_of (fun g => ?_) (fun g => ?_) <;> (first | replace g := not_t g | replace g := not_f g | skip) <;> (first | replace g := of_decide_eq_true g | replace g := of_decide_eq_false g | skip) <;> (first | replace g := Classical.not_not.1 g | skip) <;> (try dsimp only at g)
      · (conv => whnf); repeat ((first | (refine And.intro ?_ ?_; (focus ((repeat' (first | exact trivial | refine And.intro rfl ?_)); done))) | (refine And.intro ?_ ?_; (focus (first | omega | (dsimp -iota only; omega) | (simp -iota; omega) | (simp -iota; done) | decide)))); conv => whnf)
        refine branchB_of (fun g2 => ?_) (fun g2 => ?_) <;> (first | replace g2 := not_t g2 | replace g2 := not_f g2 | skip) <;> (first | replace g2 := of_decide_eq_true g2 | replace g2 := of_decide_eq_false g2 | skip) <;> (first | replace g2 := Classical.not_not.1 g2 | skip) <;> (try dsimp only at g2)
        · have hne : A ≠ B := fun e => by
            subst e
            simp at g2
          (conv => whnf); repeat ((first | (refine And.intro ?_ ?_; (focus ((repeat' (first | exact trivial | refine And.intro rfl ?_)); done))) | (refine And.intro ?_ ?_; (focus (first | omega | (dsimp -iota only; omega) | (simp -iota; omega) | (simp -iota; done) | decide)))); conv => whnf)
          refine ⟨(), ?_, rfl⟩
          congr 3
          exact (decide_eq_false hne).symm
        · rw [hxx] at g2
          simp only [Bool.and_eq_true, decide_eq_true_eq, and_true] at g2
          (conv => whnf); repeat ((first | (refine And.intro ?_ ?_; (focus ((repeat' (first | exact trivial | refine And.intro rfl ?_)); done))) | (refine And.intro ?_ ?_; (focus (first | omega | (dsimp -iota only; omega) | (simp -iota; omega) | (simp -iota; done) | decide)))); conv => whnf)
          refine ⟨⟨x + 1, by omega, fun j hj' => ?_⟩, Ent.mk' [] (by kernel_rfl) (by repeat' first | exact trivial | refine And.intro (AVE.refl _) ?_ | refine And.intro (AVE.int (by first | rfl | omega | (dsimp only; omega) | (simp -iota; omega) | (simp -iota; done))) ?_ | refine And.intro (AVE.bool (by assumption)) ?_ | refine And.intro (AVE.len (by first | rfl | omega | (dsimp only; omega) | (simp -iota; omega) | (simp -iota; done))) ?_) (by repeat' (first | exact trivial | refine ⟨⟨_, rfl, ChE.refl _⟩, ?_⟩)), ?_⟩
          · by_cases e : j = x
            · subst e
              exact Prod.ext g2.1 (by have := g2.2; omega)
            · exact hj j (by omega)
          · show A.length - (x + 1) < A.length - x
            omega
      · (conv => whnf); repeat ((first | (refine And.intro ?_ ?_; (focus ((repeat' (first | exact trivial | refine And.intro rfl ?_)); done))) | (refine And.intro ?_ ?_; (focus (first | omega | (dsimp -iota only; omega) | (simp -iota; omega) | (simp -iota; done) | decide)))); conv => whnf)
        refine ⟨(), ?_, rfl⟩
        congr 3
        exact (decide_eq_true (en_ext hl fun j hjl => hj j (by omega))).symm
theorem like_self (A : List EN) (hA : A.length ≤ 100000) : AFn Go.Proofs.Try.prog 15 [.iv (.sl 2 A.length (enF A)), .iv (.sl 2 A.length (enF A))] ⟨0, []⟩ (fun _ : Unit => AV.bool true) (fun _ => ⟨0, []⟩) := by
  have h := like_ok A A hA hA
  rw [decide_eq_true rfl] at h
  exact h
/-- What a folder lists behind so many deeds. -/
def sts (f : FD) (k : Nat) : List EN := lsN (onAll f.safe (f.ds.take k))
def siF (f : FD) (k : Nat) : List IV := [.sl 2 (sts f k).length (enF (sts f k))]
theorem sts_now {P : NM → Prop} {f : FD} (h : f.In P) : sts f f.ds.length = lsN f.now := by
  unfold sts
  rw [List.take_length, ← h.eq]
theorem sts_len {f : FD} {n : Nat} (h : f.In (IOk f.last n)) {k : Nat} (hk : k ≤ f.ds.length) : (sts f k).length ≤ n := by
  unfold sts
  rw [lsN_length]
  exact (h.all k hk).len
theorem sts_did {f : FD} {n : Nat} {D : Deed} {k : Nat} (hk : k ≤ f.ds.length) : sts (FD.did ⟨f.safe, f.now, f.ds, n⟩ D) k = sts f k := by
  unfold sts
  show lsN (onAll f.safe ((f.ds ++ [D]).take k)) = _
  rw [List.take_append_of_le_length hk]
theorem does_ways (f : FD) (c : Call) (h5 : c.w ≠ 5) (h6 : c.w ≠ 6) : f.does c = f ∨ ∃ n D, f.does c = FD.did ⟨f.safe, f.now, f.ds, n⟩ D := by
  unfold FD.does
  split
  · unfold FD.create
    split
    · exact .inr ⟨_, _, rfl⟩
    · exact .inl rfl
  · split
    · unfold FD.ren
      split
      · exact .inr ⟨f.last, _, rfl⟩
      · exact .inl rfl
    · split
      · unfold FD.rem
        split
        · exact .inr ⟨f.last, _, rfl⟩
        · exact .inl rfl
      · exact .inl rfl
theorem lsN_lt {m : NM} (h : (m.map (·.1)).Nodup) {j k : Nat} (hjk : j < k) (hk : k < (lsN m).length) : ((lsN m).getD j ([], 0)).1 < ((lsN m).getD k ([], 0)).1 := by
  have hs : (sortS (m.map (·.1))).Pairwise fun a b => decide (a ≤ b) = true := List.pairwise_mergeSort (fun a b c h1 h2 => by simp only [decide_eq_true_eq] at *; exact List.le_trans h1 h2) (fun a b => by simp only [Bool.or_eq_true, decide_eq_true_eq]; exact List.le_total a b) _
  have hn : (sortS (m.map (·.1))).Nodup := (List.mergeSort_perm _ _).nodup_iff.2 h
  have e : ∀ i, i < (lsN m).length → ∃ hi : i < (sortS (m.map (·.1))).length, ((lsN m).getD i ([], 0)).1 = (sortS (m.map (·.1)))[i] := fun i hi => by
    have h1 : i < (sortS (m.map (·.1))).length := by rw [sortS_length, List.length_map]; rwa [lsN_length] at hi
    refine ⟨h1, ?_⟩
    simp only [lsN, List.getD, List.getElem?_map, List.getElem?_eq_getElem h1, Option.map_some, Option.getD_some]
  obtain ⟨j1, ej⟩ := e j (by omega)
  obtain ⟨k1, ek⟩ := e k hk
  rw [ej, ek]
  have h1 := List.pairwise_iff_getElem.1 hs j k j1 k1 hjk
  simp only [decide_eq_true_eq] at h1
  have h2 : (sortS (m.map (·.1)))[j] ≠ (sortS (m.map (·.1)))[k] := fun e => by
    have := (List.getElem_inj hn).1 e
    omega
  exact Decidable.byContradiction fun hc => h2 (List.le_antisymm h1 (List.not_lt.1 hc))
theorem does5 (f : FD) {c : Call} (h : c.w = 5) : f.does c = f.synced := by
  have h0 : ¬isMk c.w := fun e => by
    rcases e with e | e | e <;> omega
  show (if isMk c.w then f.create c.s else if c.w = 3 then f.ren c.s c.t else if c.w = 4 then f.rem c.s else if c.w = 5 then f.synced else if c.w = 6 then f.crash c.k else f) = _
  simp only [h]
  rfl
theorem does6 (f : FD) {c : Call} (h : c.w = 6) : f.does c = f.crash c.k := by
  have h0 : ¬isMk c.w := fun e => by
    rcases e with e | e | e <;> omega
  show (if isMk c.w then f.create c.s else if c.w = 3 then f.ren c.s c.t else if c.w = 4 then f.rem c.s else if c.w = 5 then f.synced else if c.w = 6 then f.crash c.k else f) = _
  simp only [h]
  rfl
theorem keep_le (f : FD) (k : Int) : f.keep k ≤ f.ds.length := by
  unfold FD.keep
  omega
@[reducible] def snc (f : FD) : Chunk := .rowc 34 1 (f.ds.length + 1) (siF f)
theorem si_one {f : FD} (h0 : f.ds = []) {L : List EN} (hL : lsN f.safe = L) {g : Nat → List IV} (hg : g 0 = [.sl 2 L.length (enF L)]) : ChE (.rowc 34 1 1 g) (snc f) := by
  unfold snc
  rw [h0]
  refine ChE.row (Nat.le_refl _) fun i hi => ?_
  have : i = 0 := by simp at hi; omega
  subst this
  rw [hg]
  unfold siF sts
  rw [h0]
  show _ = [IV.sl 2 (lsN f.safe).length (enF (lsN f.safe))]
  rw [hL]
theorem si_push {f f' : FD} {n : Nat} {D : Deed} (h : f' = FD.did ⟨f.safe, f.now, f.ds, n⟩ D) {P : NM → Prop} (hp : f'.In P) {L : List EN} (hL : L = lsN f'.now) {g : Nat → List IV} (hg : g 0 = [.sl 2 L.length (enF L)]) : ChE (.rowc 34 1 (f.ds.length + 1 + 1) fun j => if j < f.ds.length + 1 then siF f j else g (j - (f.ds.length + 1))) (snc f') := by
  have hl : f'.ds.length = f.ds.length + 1 := by rw [h]; simp [FD.did]
  refine ChE.row (by omega) fun j hj => ?_
  by_cases hc : j < f.ds.length + 1
  · simp only [if_pos hc]
    unfold siF
    rw [h, sts_did (by omega)]
  · have : j = f.ds.length + 1 := by omega
    subst this
    simp only [if_neg hc, Nat.sub_self]
    rw [hg, hL, ← sts_now hp, hl]
    rfl
end Go.Proofs.Yteeifedpabcehaa.Ax

namespace Go.Proofs.Yteeifedpabcehaa.Ax
open Go.RowKit Go.Sort
set_option maxRecDepth 100000
theorem en_push {e : Nat} {L : List EN} {p : EN} {g : Nat → List IV} (hg : g 0 = [.str p.1, un p.2]) : ChE (.rowc e 2 (L.length + 1) fun j => if j < L.length then enF L j else g (j - L.length)) (.rowc e 2 (L ++ [p]).length (enF (L ++ [p]))) := by
  refine ChE.row (by simp) fun j hj => ?_
  by_cases h : j < L.length
  · simp only [if_pos h]
    unfold enF
    simp [List.getD, List.getElem?_append_left, h]
  · have : j = L.length := by simp at hj; omega
    subst this
    simp only [if_neg h, Nat.sub_self]
    rw [hg]
    unfold enF
    simp [List.getD]
theorem rmay_ok (x : List UInt8) : AFn Go.Proofs.Try.prog 25 [.str x] ⟨0, []⟩ (fun _ : Unit => AV.bool (mayB x)) (fun _ => ⟨0, []⟩) := by
  refine ACall.fin ?_
  refine ACall.walkF (C := cfg 50 0) (cfgOk _ _) [] (fn := Go.Proofs.Try.f25) (by kernel_rfl) (by kernel_rfl) rfl (by kernel_rfl) (by kernel_rfl) rfl rfl fun hlen hheap => ?_
  (conv => whnf); repeat ((first | (refine And.intro ?_ ?_; (focus ((repeat' (first | exact trivial | refine And.intro rfl ?_)); done))) | (refine And.intro ?_ ?_; (focus (first | omega | (dsimp -iota only; omega) | (simp -iota; omega) | (simp -iota; done) | decide)))); conv => whnf)
  refine branchB_of (fun h => ?_) (fun h => ?_) <;> (first | replace h := not_t h | replace h := not_f h | skip) <;> (first | replace h := of_decide_eq_true h | replace h := of_decide_eq_false h | skip) <;> (first | replace h := Classical.not_not.1 h | skip) <;> (try dsimp only at h)
  · have hm : mayB x = false := by
      unfold mayB
      rw [decide_eq_false (by omega)]
      rfl
    rw [hm]
    (conv => whnf); repeat ((first | (refine And.intro ?_ ?_; (focus ((repeat' (first | exact trivial | refine And.intro rfl ?_)); done))) | (refine And.intro ?_ ?_; (focus (first | omega | (dsimp -iota only; omega) | (simp -iota; omega) | (simp -iota; done) | decide)))); conv => whnf)
    exact ⟨_, _, Ent.mk' (e' := [(0, AV.bool false)]) (H' := ⟨0, []⟩) [] (by kernel_rfl) ⟨AVE.of_eq rfl, trivial⟩ trivial, (), rfl, rfl⟩
  (conv => whnf); repeat ((first | (refine And.intro ?_ ?_; (focus ((repeat' (first | exact trivial | refine And.intro rfl ?_)); done))) | (refine And.intro ?_ ?_; (focus (first | omega | (dsimp -iota only; omega) | (simp -iota; omega) | (simp -iota; done) | decide)))); conv => whnf)
  refine branchB_of (fun h32 => ?_) (fun h32 => ?_) <;> (first | replace h32 := not_t h32 | replace h32 := not_f h32 | skip) <;> (first | replace h32 := of_decide_eq_true h32 | replace h32 := of_decide_eq_false h32 | skip) <;> (first | replace h32 := Classical.not_not.1 h32 | skip) <;> (try dsimp only at h32)
  · have hm : mayB x = false := by
      unfold mayB
      rw [decide_eq_false (by omega)]
      rfl
    rw [hm]
    (conv => whnf); repeat ((first | (refine And.intro ?_ ?_; (focus ((repeat' (first | exact trivial | refine And.intro rfl ?_)); done))) | (refine And.intro ?_ ?_; (focus (first | omega | (dsimp -iota only; omega) | (simp -iota; omega) | (simp -iota; done) | decide)))); conv => whnf)
    exact ⟨_, _, Ent.mk' (e' := [(0, AV.bool false)]) (H' := ⟨0, []⟩) [] (by kernel_rfl) ⟨AVE.of_eq rfl, trivial⟩ trivial, (), rfl, rfl⟩
  (conv => whnf); repeat ((first | (refine And.intro ?_ ?_; (focus ((repeat' (first | exact trivial | refine And.intro rfl ?_)); done))) | (refine And.intro ?_ ?_; (focus (first | omega | (dsimp -iota only; omega) | (simp -iota; omega) | (simp -iota; done) | decide)))); conv => whnf)
  refine AWP.loop (X := { i : Nat // i ≤ x.length ∧ ∀ j (hj : j < x.length), j < i → okC x[j].toNat = true }) (fun i => [(0, .str x), (3, AV.int .i64 i.1)]) (fun i => ⟨0, []⟩) (fun i => x.length - i.1) (⟨0, by omega, fun j hj => by omega⟩) ?_ fun i => AWP.go (S := []) (cfgOk _ _) (.of_eq (by kernel_rfl)) ?_
  · exact Ent.mk' [] (by kernel_rfl) (by repeat' first | exact trivial | refine And.intro (AVE.refl _) ?_ | refine And.intro (AVE.int (by first | rfl | omega | (dsimp only; omega) | (simp -iota; omega) | (simp -iota; done))) ?_ | refine And.intro (AVE.bool (by assumption)) ?_ | refine And.intro (AVE.len (by first | rfl | omega | (dsimp only; omega) | (simp -iota; omega) | (simp -iota; done))) ?_) (by repeat' (first | exact trivial | refine ⟨⟨_, rfl, ChE.refl _⟩, ?_⟩))
  · obtain ⟨i, hi, hj⟩ := i
    have ix : ((i : Nat) : Int).toNat = i := by simp
    (conv => whnf); repeat ((first | (refine And.intro ?_ ?_; (focus ((repeat' (first | exact trivial | refine And.intro rfl ?_)); done))) | (refine And.intro ?_ ?_; (focus (first | omega | (dsimp -iota only; omega) | (simp -iota; omega) | (simp -iota; done) | decide)))); conv => whnf)
    refine branchB_of (fun g => ?_) (fun g => ?_) <;> (first | replace g := not_t g | replace g := not_f g | skip) <;> (first | replace g := of_decide_eq_true g | replace g := of_decide_eq_false g | skip) <;> (first | replace g := Classical.not_not.1 g | skip) <;> (try dsimp only at g)
    · have hil : i < x.length := by omega
      have e0 : x.getD ((i : Nat) : Int).toNat 0 = x[i] := by rw [ix]; simp [List.getD, hil]
      have hc := x[i].toNat_lt
      have hbad : okC x[i].toNat = false → mayB x = false := fun hb => by
        unfold mayB
        rw [Bool.and_eq_false_iff]
        exact .inr (List.all_eq_false.2 ⟨x[i], List.getElem_mem hil, by rw [hb]; simp⟩)
      have hgood : okC x[i].toNat = true → ∀ j (hj : j < x.length), j < i + 1 → okC x[j].toNat = true := fun hg j hjl hj' => by
        by_cases e : j = i
        · subst e
          exact hg
        · exact hj j hjl (by omega)
      (conv => whnf); repeat ((first | (refine And.intro ?_ ?_; (focus ((repeat' (first | exact trivial | refine And.intro rfl ?_)); done))) | (refine And.intro ?_ ?_; (focus (first | omega | (dsimp -iota only; omega) | (simp -iota; omega) | (simp -iota; done) | decide)))); conv => whnf)
      rw [e0]
      generalize x[i].toNat = c at *
      repeat' (refine branchB_of (fun q => ?_) (fun q => ?_) <;> (first | replace q := not_t q | replace q := not_f q | skip) <;> (first | replace q := of_decide_eq_true q | replace q := of_decide_eq_false q | skip) <;> (first | replace q := Classical.not_not.1 q | skip) <;> (try dsimp only at q) <;> ((conv => whnf); repeat ((first | (refine And.intro ?_ ?_; (focus ((repeat' (first | exact trivial | refine And.intro rfl ?_)); done))) | (refine And.intro ?_ ?_; (focus (first | omega | (dsimp -iota only; omega) | (simp -iota; omega) | (simp -iota; done) | decide)))); conv => whnf)))
      all_goals first
        | (have hm : mayB x = false := hbad (by simp only [okC, Bool.or_eq_false_iff, decide_eq_false_iff_not]; omega)
           rw [hm]
           exact ⟨_, _, Ent.mk' (e' := [(0, AV.bool false)]) (H' := ⟨0, []⟩) [] (by kernel_rfl) ⟨AVE.of_eq rfl, trivial⟩ trivial, (), rfl, rfl⟩)
        | (have hg := hgood (by simp only [okC, Bool.or_eq_true, decide_eq_true_eq]; omega)
           refine ⟨⟨i + 1, by omega, hg⟩, Ent.mk' [] (by kernel_rfl) (by repeat' first | exact trivial | refine And.intro (AVE.refl _) ?_ | refine And.intro (AVE.int (by first | rfl | omega | (dsimp only; omega) | (simp -iota; omega) | (simp -iota; done))) ?_ | refine And.intro (AVE.bool (by assumption)) ?_ | refine And.intro (AVE.len (by first | rfl | omega | (dsimp only; omega) | (simp -iota; omega) | (simp -iota; done))) ?_) (by repeat' (first | exact trivial | refine ⟨⟨_, rfl, ChE.refl _⟩, ?_⟩)), ?_⟩
           show x.length - (i + 1) < x.length - i
           omega)
    · have hm : mayB x = true := by
        unfold mayB
        rw [decide_eq_true (by omega), List.all_eq_true.2]
        · rfl
        · intro c hc
          obtain ⟨j, hjl, rfl⟩ := List.getElem_of_mem hc
          exact hj j hjl (by omega)
      rw [hm]
      (conv => whnf); repeat ((first | (refine And.intro ?_ ?_; (focus ((repeat' (first | exact trivial | refine And.intro rfl ?_)); done))) | (refine And.intro ?_ ?_; (focus (first | omega | (dsimp -iota only; omega) | (simp -iota; omega) | (simp -iota; done) | decide)))); conv => whnf)
      exact ⟨_, _, Ent.mk' (e' := [(0, AV.bool true)]) (H' := ⟨0, []⟩) [] (by kernel_rfl) ⟨AVE.of_eq rfl, trivial⟩ trivial, (), rfl, rfl⟩
def woF (x : List UInt8) (L : List EN) : List EN := L.filter fun p => decide (p.1 ≠ x)
theorem woF_in {x : List UInt8} {L : List EN} {p : EN} (h : p.1 ≠ x) : woF x (L ++ [p]) = woF x L ++ [p] := by
  unfold woF
  rw [List.filter_append]
  simp [h]
theorem woF_out {x : List UInt8} {L : List EN} {p : EN} (h : p.1 = x) : woF x (L ++ [p]) = woF x L := by
  unfold woF
  rw [List.filter_append]
  simp [h]
theorem woF_len (x : List UInt8) (L : List EN) : (woF x L).length ≤ L.length := List.length_filter_le _ _
theorem without_ok (L : List EN) (hL : L.length ≤ 1000) (x : List UInt8) : AFn Go.Proofs.Try.prog 57 [.iv (.sl 2 L.length (enF L)), .str x] ⟨0, []⟩ (fun _ : Unit => .iv (.sl 2 (woF x L).length (enF (woF x L)))) (fun _ => ⟨0, []⟩) := by
  refine ACall.fin ?_
  refine ACall.walk (C := cfg 28 0) (cfgOk _ _) [] (fn := Go.Proofs.Try.f57) (by kernel_rfl) (by kernel_rfl) rfl (by kernel_rfl) (by kernel_rfl) rfl rfl ?_
  (conv => whnf); repeat ((first | (refine And.intro ?_ ?_; (focus ((repeat' (first | exact trivial | refine And.intro rfl ?_)); done))) | (refine And.intro ?_ ?_; (focus (first | omega | (dsimp -iota only; omega) | (simp -iota; omega) | (simp -iota; done) | decide)))); conv => whnf)
  refine AWP.loop (X := { i : Nat // i ≤ L.length }) (fun i => [(0, .iv (.sl 2 L.length (enF L))), (1, .str x), (5, .row 0 2 0 (woF x (L.take i.1)).length), (6, AV.int .i64 i.1)]) (fun i => ⟨1, [(0, .rowc 58 2 (woF x (L.take i.1)).length (enF (woF x (L.take i.1))))]⟩) (fun i => L.length - i.1) (⟨0, Nat.zero_le _⟩) ?_ fun i => AWP.go (S := []) (cfgOk _ _) (.of_eq (by kernel_rfl)) ?_
  · exact Ent.mk' [none] (by kernel_rfl) ⟨AVE.refl _, AVE.refl _, AVE.nil _ _, AVE.refl _, trivial⟩ ⟨trivial, trivial⟩
  · obtain ⟨i, hi⟩ := i
    have ix : ((i : Nat) : Int).toNat = i := by simp
    have hfl : (woF x (L.take i)).length ≤ i := Nat.le_trans (woF_len _ _) (by simp; omega)
    (conv => whnf); repeat ((first | (refine And.intro ?_ ?_; (focus ((repeat' (first | exact trivial | refine And.intro rfl ?_)); done))) | (refine And.intro ?_ ?_; (focus (first | omega | (dsimp -iota only; omega) | (simp -iota; omega) | (simp -iota; done) | decide)))); conv => whnf)
    refine branchB_of (fun h => ?_) (fun h => ?_) <;> (first | replace h := not_t h | replace h := not_f h | skip) <;> (first | replace h := of_decide_eq_true h | replace h := of_decide_eq_false h | skip) <;> (first | replace h := Classical.not_not.1 h | skip) <;> (try dsimp only at h)
    · have hil : i < L.length := by omega
      have e0 : L.getD ((i : Nat) : Int).toNat ([], 0) = L[i] := by rw [ix]; simp [List.getD, hil]
      have e1 : L.take (i + 1) = L.take i ++ [L[i]] := List.take_succ_eq_append_getElem hil
      (conv => whnf); repeat ((first | (refine And.intro ?_ ?_; (focus ((repeat' (first | exact trivial | refine And.intro rfl ?_)); done))) | (refine And.intro ?_ ?_; (focus (first | omega | (dsimp -iota only; omega) | (simp -iota; omega) | (simp -iota; done) | decide)))); conv => whnf)
      refine branchB_of (fun g => ?_) (fun g => ?_) <;> (first | replace g := not_t g | replace g := not_f g | skip) <;> (first | replace g := of_decide_eq_true g | replace g := of_decide_eq_false g | skip) <;> (first | replace g := Classical.not_not.1 g | skip) <;> (try dsimp only at g)
      · rw [e0] at g
        have e2 : woF x (L.take (i + 1)) = woF x (L.take i) ++ [L[i]] := by rw [e1, woF_in g]
        have e3 : (woF x (L.take (i + 1))).length = (woF x (L.take i)).length + 1 := by rw [e2]; simp
        (conv => whnf); repeat ((first | (refine And.intro ?_ ?_; (focus ((repeat' (first | exact trivial | refine And.intro rfl ?_)); done))) | (refine And.intro ?_ ?_; (focus (first | omega | (dsimp -iota only; omega) | (simp -iota; omega) | (simp -iota; done) | decide)))); conv => whnf)
        rw [e0]
        refine ⟨⟨i + 1, by omega⟩, Ent.mk' [some 2] (by kernel_rfl) (by repeat' first | exact trivial | refine And.intro (AVE.refl _) ?_ | refine And.intro (AVE.int (by first | rfl | omega | (dsimp only; omega) | (simp -iota; omega) | (simp -iota; done))) ?_ | refine And.intro (AVE.bool (by assumption)) ?_ | refine And.intro (AVE.len (by first | rfl | omega | (dsimp only; omega) | (simp -iota; omega) | (simp -iota; done))) ?_) ?_, ?_⟩
        · refine ⟨⟨_, rfl, ?_⟩, trivial⟩
          show ChE _ (.rowc _ 2 (woF x (L.take (i + 1))).length (enF (woF x (L.take (i + 1)))))
          rw [e2]
          exact en_push rfl
        · show L.length - (i + 1) < L.length - i
          omega
      · rw [e0] at g
        have e2 : woF x (L.take (i + 1)) = woF x (L.take i) := by rw [e1, woF_out g]
        have e3 : (woF x (L.take (i + 1))).length = (woF x (L.take i)).length := by rw [e2]
        (conv => whnf); repeat ((first | (refine And.intro ?_ ?_; (focus ((repeat' (first | exact trivial | refine And.intro rfl ?_)); done))) | (refine And.intro ?_ ?_; (focus (first | omega | (dsimp -iota only; omega) | (simp -iota; omega) | (simp -iota; done) | decide)))); conv => whnf)
        refine ⟨⟨i + 1, by omega⟩, Ent.mk' [some 0] (by kernel_rfl) (by repeat' first | exact trivial | refine And.intro (AVE.refl _) ?_ | refine And.intro (AVE.int (by first | rfl | omega | (dsimp only; omega) | (simp -iota; omega) | (simp -iota; done))) ?_ | refine And.intro (AVE.bool (by assumption)) ?_ | refine And.intro (AVE.len (by first | rfl | omega | (dsimp only; omega) | (simp -iota; omega) | (simp -iota; done))) ?_) ?_, ?_⟩
        · refine ⟨⟨_, rfl, ?_⟩, trivial⟩
          show ChE _ (.rowc _ 2 (woF x (L.take (i + 1))).length (enF (woF x (L.take (i + 1)))))
          rw [e2]
          exact ChE.refl _
        · show L.length - (i + 1) < L.length - i
          omega
    · have hall : L.take i = L := List.take_of_length_le (by omega)
      (conv => whnf); repeat ((first | (refine And.intro ?_ ?_; (focus ((repeat' (first | exact trivial | refine And.intro rfl ?_)); done))) | (refine And.intro ?_ ?_; (focus (first | omega | (dsimp -iota only; omega) | (simp -iota; omega) | (simp -iota; done) | decide)))); conv => whnf)
      rw [hall]
      refine ⟨_, _, (Ent.freeze 0 _ rfl rfl (e' := [(0, .iv (.sl 2 (woF x L).length (enF (woF x L))))]) ?_).trans (Ent.mk' (e' := [(0, .iv (.sl 2 (woF x L).length (enF (woF x L))))]) (H' := ⟨0, []⟩) [] (by kernel_rfl) ⟨AVE.refl _, trivial⟩ trivial), (), rfl, rfl⟩
      exact ⟨AVF.sl (Nat.le_refl _), trivial⟩
/-! A pair put in its place. -/
def dnE (e : EN) (L : List EN) : Bool := L.any fun p => decide (e.1 < p.1)
def insE (e : EN) : List EN → List EN
  | [] => [e]
  | p :: l => if e.1 < p.1 then e :: p :: l else p :: insE e l
/-- What has been laid of it so far. -/
def inR (e : EN) (L : List EN) : List EN := if dnE e L = true then insE e L else L
theorem dnE_snoc (e : EN) (L : List EN) (p : EN) : dnE e (L ++ [p]) = (dnE e L || decide (e.1 < p.1)) := by simp [dnE]
theorem insE_no (e : EN) : ∀ L : List EN, dnE e L = false → insE e L = L ++ [e]
  | [], _ => rfl
  | p :: l, h => by
    simp only [dnE, List.any_cons, Bool.or_eq_false_iff, decide_eq_false_iff_not] at h
    unfold insE
    rw [if_neg h.1, insE_no e l h.2]
    rfl
theorem insE_yes (e p : EN) : ∀ L : List EN, dnE e L = true → insE e (L ++ [p]) = insE e L ++ [p]
  | [], h => by simp [dnE] at h
  | q :: l, h => by
    simp only [List.cons_append]
    unfold insE
    by_cases hq : e.1 < q.1
    · rw [if_pos hq, if_pos hq]
      rfl
    · rw [if_neg hq, if_neg hq]
      simp only [dnE, List.any_cons, hq, decide_false, Bool.false_or] at h
      rw [insE_yes e p l h]
      rfl
theorem insE_now (e p : EN) (hp : e.1 < p.1) : ∀ L : List EN, dnE e L = false → insE e (L ++ [p]) = L ++ [e] ++ [p]
  | [], _ => by simp [insE, hp]
  | q :: l, h => by
    simp only [dnE, List.any_cons, Bool.or_eq_false_iff, decide_eq_false_iff_not] at h
    simp only [List.cons_append]
    unfold insE
    rw [if_neg h.1, insE_now e p hp l h.2]
theorem inR_len (e : EN) (L : List EN) : (inR e L).length ≤ L.length + 1 := by
  have h : ∀ L : List EN, (insE e L).length = L.length + 1 := fun L => by
    induction L with
    | nil => rfl
    | cons p l ih =>
      unfold insE
      split
      · rfl
      · simp [ih]
  unfold inR
  split
  · exact Nat.le_of_eq (h L)
  · omega
theorem inR_done {e p : EN} {L : List EN} (h : dnE e L = true) : inR e (L ++ [p]) = inR e L ++ [p] := by
  have h2 : dnE e (L ++ [p]) = true := by rw [dnE_snoc, h]; rfl
  unfold inR
  rw [if_pos h2, if_pos h, insE_yes e p L h]
theorem inR_put {e p : EN} {L : List EN} (h : dnE e L = false) (hp : e.1 < p.1) : inR e (L ++ [p]) = inR e L ++ [e] ++ [p] := by
  have h2 : dnE e (L ++ [p]) = true := by rw [dnE_snoc, h]; simp [hp]
  have h3 : ¬ dnE e L = true := by rw [h]; simp
  unfold inR
  rw [if_pos h2, if_neg h3, insE_now e p hp L h]
theorem inR_no {e p : EN} {L : List EN} (h : dnE e L = false) (hp : ¬ e.1 < p.1) : inR e (L ++ [p]) = inR e L ++ [p] := by
  have h2 : ¬ dnE e (L ++ [p]) = true := by rw [dnE_snoc, h]; simp [hp]
  have h3 : ¬ dnE e L = true := by rw [h]; simp
  unfold inR
  rw [if_neg h2, if_neg h3]
theorem inR_end {e : EN} {L : List EN} : insE e L = if dnE e L = true then inR e L else inR e L ++ [e] := by
  unfold inR
  cases h : dnE e L with
  | true => simp
  | false => simp [insE_no e L h]
end Go.Proofs.Yteeifedpabcehaa.Ax

namespace Go.Proofs.Yteeifedpabcehaa.Ax
open Go.RowKit Go.Sort
set_option maxRecDepth 100000
theorem en_push2 {e : Nat} {L : List EN} {p q : EN} {g g' : Nat → List IV} (hg : g 0 = [.str p.1, un p.2]) (hg' : g' 0 = [.str q.1, un q.2]) : ChE (.rowc e 2 (L.length + 1 + 1) fun j => if j < L.length + 1 then (if j < L.length then enF L j else g (j - L.length)) else g' (j - (L.length + 1))) (.rowc e 2 (L ++ [p] ++ [q]).length (enF (L ++ [p] ++ [q]))) := by
  refine ChE.row (by simp) fun j hj => ?_
  simp at hj
  by_cases h : j < L.length
  · simp only [if_pos h, if_pos (show j < L.length + 1 by omega)]
    unfold enF
    simp [List.getD, List.getElem?_append_left, h]
  · by_cases h2 : j < L.length + 1
    · have : j = L.length := by omega
      subst this
      simp only [if_neg h, if_pos h2, Nat.sub_self]
      rw [hg]
      unfold enF
      simp [List.getD]
    · have : j = L.length + 1 := by omega
      subst this
      simp only [if_neg h2, Nat.sub_self]
      rw [hg']
      unfold enF
      simp [List.getD]
theorem with_ok (L : List EN) (hL : L.length ≤ 1000) (x : List UInt8) (n : Nat) : AFn Go.Proofs.Try.prog 56 [.iv (.sl 2 L.length (enF L)), .str x, AV.int .u64 n] ⟨0, []⟩ (fun _ : Unit => .iv (.sl 2 (insE (x, n) (woF x L)).length (enF (insE (x, n) (woF x L))))) (fun _ => ⟨0, []⟩) := by
  refine ACall.fin ?_
  refine ACall.walk (C := cfg 52 0) (cfgOk _ _) [] (fn := Go.Proofs.Try.f56) (by kernel_rfl) (by kernel_rfl) rfl (by kernel_rfl) (by kernel_rfl) rfl rfl ?_
  (conv => whnf); repeat ((first | (refine And.intro ?_ ?_; (focus ((repeat' (first | exact trivial | refine And.intro rfl ?_)); done))) | (refine And.intro ?_ ?_; (focus (first | omega | (dsimp -iota only; omega) | (simp -iota; omega) | (simp -iota; done) | decide)))); conv => whnf)
  refine AFn.use [] (without_ok L hL x) (by kernel_rfl) rfl (by repeat' first | exact trivial | refine ⟨rfl, ?_⟩) fun _ => ?_
  have hWl := woF_len x L
  generalize woF x L = W at *
  obtain ⟨e, he⟩ : ∃ e : EN, e = (x, n) := ⟨_, rfl⟩
  rw [← he]
  (conv => whnf); repeat ((first | (refine And.intro ?_ ?_; (focus ((repeat' (first | exact trivial | refine And.intro rfl ?_)); done))) | (refine And.intro ?_ ?_; (focus (first | omega | (dsimp -iota only; omega) | (simp -iota; omega) | (simp -iota; done) | decide)))); conv => whnf)
  refine AWP.loop (X := { i : Nat // i ≤ W.length }) (fun i => [(0, .iv (.sl 2 W.length (enF W))), (1, .str x), (2, AV.int .u64 n), (7, .row 0 2 0 (inR e (W.take i.1)).length), (8, AV.bool (dnE e (W.take i.1))), (9, AV.int .i64 i.1)]) (fun i => ⟨1, [(0, .rowc 58 2 (inR e (W.take i.1)).length (enF (inR e (W.take i.1))))]⟩) (fun i => W.length - i.1) (⟨0, Nat.zero_le _⟩) ?_ fun i => AWP.go (S := []) (cfgOk _ _) (.of_eq (by kernel_rfl)) ?_
  · exact Ent.mk' [none] (by kernel_rfl) ⟨AVE.refl _, AVE.refl _, AVE.refl _, AVE.nil _ _, AVE.refl _, AVE.refl _, trivial⟩ ⟨trivial, trivial⟩
  · obtain ⟨i, hi⟩ := i
    have ix : ((i : Nat) : Int).toNat = i := by simp
    have hrl : (inR e (W.take i)).length ≤ i + 1 := Nat.le_trans (inR_len _ _) (by simp; omega)
    (conv => whnf); repeat ((first | (refine And.intro ?_ ?_; (focus ((repeat' (first | exact trivial | refine And.intro rfl ?_)); done))) | (refine And.intro ?_ ?_; (focus (first | omega | (dsimp -iota only; omega) | (simp -iota; omega) | (simp -iota; done) | decide)))); conv => whnf)
    refine branchB_of (fun h => ?_) (fun h => ?_) <;> (first | replace h := not_t h | replace h := not_f h | skip) <;> (first | replace h := of_decide_eq_true h | replace h := of_decide_eq_false h | skip) <;> (first | replace h := Classical.not_not.1 h | skip) <;> (try dsimp only at h)
    · have hil : i < W.length := by omega
      have e0 : W.getD ((i : Nat) : Int).toNat ([], 0) = W[i] := by rw [ix]; simp [List.getD, hil]
      have e1 : W.take (i + 1) = W.take i ++ [W[i]] := List.take_succ_eq_append_getElem hil
      (conv => whnf); repeat ((first | (refine And.intro ?_ ?_; (focus ((repeat' (first | exact trivial | refine And.intro rfl ?_)); done))) | (refine And.intro ?_ ?_; (focus (first | omega | (dsimp -iota only; omega) | (simp -iota; omega) | (simp -iota; done) | decide)))); conv => whnf)
      refine branchB_of (fun hd => ?_) (fun hd => ?_) <;> (first | replace hd := not_t hd | replace hd := not_f hd | skip) <;> (first | replace hd := of_decide_eq_true hd | replace hd := of_decide_eq_false hd | skip) <;> (first | replace hd := Classical.not_not.1 hd | skip) <;> (try dsimp only at hd)
      · (conv => whnf); repeat ((first | (refine And.intro ?_ ?_; (focus ((repeat' (first | exact trivial | refine And.intro rfl ?_)); done))) | (refine And.intro ?_ ?_; (focus (first | omega | (dsimp -iota only; omega) | (simp -iota; omega) | (simp -iota; done) | decide)))); conv => whnf)
        refine branchB_of (fun hb => ?_) (fun hb => ?_)
        · rw [e0] at hb
          have hlt : e.1 < W[i].1 := by
            rw [Go.Proofs.bytesLess_eq] at hb
            rw [he]
            exact of_decide_eq_true hb
          have e2 : inR e (W.take (i + 1)) = inR e (W.take i) ++ [e] ++ [W[i]] := by rw [e1, inR_put hd hlt]
          have e3 : (inR e (W.take (i + 1))).length = (inR e (W.take i)).length + 1 + 1 := by rw [e2]; simp
          have e4 : true = dnE e (W.take (i + 1)) := by rw [e1, dnE_snoc]; simp [hlt]
          (conv => whnf); repeat ((first | (refine And.intro ?_ ?_; (focus ((repeat' (first | exact trivial | refine And.intro rfl ?_)); done))) | (refine And.intro ?_ ?_; (focus (first | omega | (dsimp -iota only; omega) | (simp -iota; omega) | (simp -iota; done) | decide)))); conv => whnf)
          rw [e0]
          refine ⟨⟨i + 1, by omega⟩, Ent.mk' [some 4] (by kernel_rfl) (by repeat' first | exact trivial | refine And.intro (AVE.refl _) ?_ | refine And.intro (AVE.int (by first | rfl | omega | (dsimp only; omega) | (simp -iota; omega) | (simp -iota; done))) ?_ | refine And.intro (AVE.bool (by assumption)) ?_ | refine And.intro (AVE.len (by first | rfl | omega | (dsimp only; omega) | (simp -iota; omega) | (simp -iota; done))) ?_) ?_, ?_⟩
          · refine ⟨⟨_, rfl, ?_⟩, trivial⟩
            show ChE _ (.rowc _ 2 (inR e (W.take (i + 1))).length (enF (inR e (W.take (i + 1)))))
            rw [e2]
            exact en_push2 (by rw [he]; rfl) rfl
          · show W.length - (i + 1) < W.length - i
            omega
        · rw [e0] at hb
          have hlt : ¬ e.1 < W[i].1 := by
            rw [Go.Proofs.bytesLess_eq] at hb
            rw [he]
            exact of_decide_eq_false hb
          have e2 : inR e (W.take (i + 1)) = inR e (W.take i) ++ [W[i]] := by rw [e1, inR_no hd hlt]
          have e3 : (inR e (W.take (i + 1))).length = (inR e (W.take i)).length + 1 := by rw [e2]; simp
          have e4 : dnE e (W.take i) = dnE e (W.take (i + 1)) := by rw [e1, dnE_snoc, hd]; simp [hlt]
          (conv => whnf); repeat ((first | (refine And.intro ?_ ?_; (focus ((repeat' (first | exact trivial | refine And.intro rfl ?_)); done))) | (refine And.intro ?_ ?_; (focus (first | omega | (dsimp -iota only; omega) | (simp -iota; omega) | (simp -iota; done) | decide)))); conv => whnf)
          rw [e0]
          refine ⟨⟨i + 1, by omega⟩, Ent.mk' [some 2] (by kernel_rfl) (by repeat' first | exact trivial | refine And.intro (AVE.refl _) ?_ | refine And.intro (AVE.int (by first | rfl | omega | (dsimp only; omega) | (simp -iota; omega) | (simp -iota; done))) ?_ | refine And.intro (AVE.bool (by assumption)) ?_ | refine And.intro (AVE.len (by first | rfl | omega | (dsimp only; omega) | (simp -iota; omega) | (simp -iota; done))) ?_) ?_, ?_⟩
          · refine ⟨⟨_, rfl, ?_⟩, trivial⟩
            show ChE _ (.rowc _ 2 (inR e (W.take (i + 1))).length (enF (inR e (W.take (i + 1)))))
            rw [e2]
            exact en_push rfl
          · show W.length - (i + 1) < W.length - i
            omega
      · have e2 : inR e (W.take (i + 1)) = inR e (W.take i) ++ [W[i]] := by rw [e1, inR_done hd]
        have e3 : (inR e (W.take (i + 1))).length = (inR e (W.take i)).length + 1 := by rw [e2]; simp
        have e4 : dnE e (W.take i) = dnE e (W.take (i + 1)) := by rw [e1, dnE_snoc, hd]; rfl
        (conv => whnf); repeat ((first | (refine And.intro ?_ ?_; (focus ((repeat' (first | exact trivial | refine And.intro rfl ?_)); done))) | (refine And.intro ?_ ?_; (focus (first | omega | (dsimp -iota only; omega) | (simp -iota; omega) | (simp -iota; done) | decide)))); conv => whnf)
        rw [e0]
        refine ⟨⟨i + 1, by omega⟩, Ent.mk' [some 2] (by kernel_rfl) (by repeat' first | exact trivial | refine And.intro (AVE.refl _) ?_ | refine And.intro (AVE.int (by first | rfl | omega | (dsimp only; omega) | (simp -iota; omega) | (simp -iota; done))) ?_ | refine And.intro (AVE.bool (by assumption)) ?_ | refine And.intro (AVE.len (by first | rfl | omega | (dsimp only; omega) | (simp -iota; omega) | (simp -iota; done))) ?_) ?_, ?_⟩
        · refine ⟨⟨_, rfl, ?_⟩, trivial⟩
          show ChE _ (.rowc _ 2 (inR e (W.take (i + 1))).length (enF (inR e (W.take (i + 1)))))
          rw [e2]
          exact en_push rfl
        · show W.length - (i + 1) < W.length - i
          omega
    · have hall : W.take i = W := List.take_of_length_le (by omega)
      have hend := inR_end (e := e) (L := W)
      rw [hall] at hrl
      (conv => whnf); repeat ((first | (refine And.intro ?_ ?_; (focus ((repeat' (first | exact trivial | refine And.intro rfl ?_)); done))) | (refine And.intro ?_ ?_; (focus (first | omega | (dsimp -iota only; omega) | (simp -iota; omega) | (simp -iota; done) | decide)))); conv => whnf)
      rw [hall]
      refine branchB_of (fun hd => ?_) (fun hd => ?_) <;> (first | replace hd := not_t hd | replace hd := not_f hd | skip) <;> (first | replace hd := of_decide_eq_true hd | replace hd := of_decide_eq_false hd | skip) <;> (first | replace hd := Classical.not_not.1 hd | skip) <;> (try dsimp only at hd)
      · rw [if_neg (by rw [hd]; simp)] at hend
        rw [hend]
        (conv => whnf); repeat ((first | (refine And.intro ?_ ?_; (focus ((repeat' (first | exact trivial | refine And.intro rfl ?_)); done))) | (refine And.intro ?_ ?_; (focus (first | omega | (dsimp -iota only; omega) | (simp -iota; omega) | (simp -iota; done) | decide)))); conv => whnf)
        have hpush := en_push (e := 58) (L := inR e W) (p := e) (g := fun _ => [.str x, un n]) (by rw [he])
        refine ⟨_, _, (Ent.mk' (e' := [(0, .row 0 2 0 (inR e W ++ [e]).length)]) (H' := ⟨1, [(0, .rowc 58 2 (inR e W ++ [e]).length (enF (inR e W ++ [e])))]⟩) [some 2] (by kernel_rfl) ?_ ?_).trans ((Ent.freeze 0 _ rfl rfl (e' := [(0, .iv (.sl 2 (inR e W ++ [e]).length (enF (inR e W ++ [e]))))]) ?_).trans (Ent.mk' (e' := [(0, .iv (.sl 2 (inR e W ++ [e]).length (enF (inR e W ++ [e]))))]) (H' := ⟨0, []⟩) [] (by kernel_rfl) ⟨AVE.refl _, trivial⟩ trivial)), (), rfl, rfl⟩
        · exact ⟨AVE.len (by simp), trivial⟩
        · exact ⟨⟨_, rfl, hpush⟩, trivial⟩
        · exact ⟨AVF.sl (Nat.le_refl _), trivial⟩
      · rw [if_pos hd] at hend
        rw [hend]
        (conv => whnf); repeat ((first | (refine And.intro ?_ ?_; (focus ((repeat' (first | exact trivial | refine And.intro rfl ?_)); done))) | (refine And.intro ?_ ?_; (focus (first | omega | (dsimp -iota only; omega) | (simp -iota; omega) | (simp -iota; done) | decide)))); conv => whnf)
        refine ⟨_, _, (Ent.freeze 0 _ rfl rfl (e' := [(0, .iv (.sl 2 (inR e W).length (enF (inR e W))))]) ?_).trans (Ent.mk' (e' := [(0, .iv (.sl 2 (inR e W).length (enF (inR e W))))]) (H' := ⟨0, []⟩) [] (by kernel_rfl) ⟨AVE.refl _, trivial⟩ trivial), (), rfl, rfl⟩
        exact ⟨AVF.sl (Nat.le_refl _), trivial⟩
end Go.Proofs.Yteeifedpabcehaa.Ax

namespace Go.Proofs.Yteeifedpabcehaa.Ax
open Go.RowKit Go.Sort
set_option maxRecDepth 100000
theorem ext_lt {α : Type} {r : α → α → Prop} (hir : ∀ a, ¬ r a a) (htr : ∀ a b c, r a b → r b c → r a c) : ∀ {A B : List α}, A.Pairwise r → B.Pairwise r → (∀ p, p ∈ A ↔ p ∈ B) → A = B
  | [], [], _, _, _ => rfl
  | [], b :: B, _, _, h => absurd ((h b).2 (List.mem_cons_self ..)) (by simp)
  | a :: A, [], _, _, h => absurd ((h a).1 (List.mem_cons_self ..)) (by simp)
  | a :: A, b :: B, hA, hB, h => by
    rw [List.pairwise_cons] at hA hB
    have hab : a = b := by
      rcases List.mem_cons.1 ((h a).1 (List.mem_cons_self ..)) with e | h1
      · exact e
      · rcases List.mem_cons.1 ((h b).2 (List.mem_cons_self ..)) with e | h2
        · exact e.symm
        · exact absurd (htr _ _ _ (hA.1 b h2) (hB.1 a h1)) (hir a)
    subst hab
    rw [ext_lt hir htr hA.2 hB.2 fun p => ?_]
    constructor
    · intro hp
      rcases List.mem_cons.1 ((h p).1 (List.mem_cons_of_mem _ hp)) with e | h1
      · subst e
        exact absurd (hA.1 p hp) (hir p)
      · exact h1
    · intro hp
      rcases List.mem_cons.1 ((h p).2 (List.mem_cons_of_mem _ hp)) with e | h1
      · subst e
        exact absurd (hB.1 p hp) (hir p)
      · exact h1
theorem ext_en {A B : List EN} (hA : A.Pairwise fun a b => a.1 < b.1) (hB : B.Pairwise fun a b => a.1 < b.1) (h : ∀ p, p ∈ A ↔ p ∈ B) : A = B :=
  ext_lt (r := fun a b : EN => a.1 < b.1) (fun a => List.lt_irrefl a.1) (fun _ _ _ h1 h2 => List.lt_trans h1 h2) hA hB h
theorem lsN_pw {m : NM} (h : (m.map (·.1)).Nodup) : (lsN m).Pairwise fun a b => a.1 < b.1 := List.pairwise_iff_getElem.2 fun i j hi hj hij => by
  have := lsN_lt h hij hj
  simpa [List.getD, hi, hj] using this
theorem woF_lsN {m : NM} (h : (m.map (·.1)).Nodup) (x : List UInt8) : woF x (lsN m) = lsN (adel m x) := by
  refine ext_en ((lsN_pw h).sublist List.filter_sublist) (lsN_pw (nodup_adel x h)) fun p => ?_
  unfold woF
  rw [lsN_mem (nodup_adel x h), mem_adel, List.mem_filter, lsN_mem h, decide_eq_true_eq]
theorem insE_mem {e p : EN} : ∀ {L : List EN}, p ∈ insE e L ↔ p = e ∨ p ∈ L
  | [] => by simp [insE]
  | q :: l => by
    unfold insE
    split
    · simp
    · rw [List.mem_cons, insE_mem (L := l), List.mem_cons]
      constructor <;> rintro (h | h | h) <;> simp [h]
theorem insE_pw {e : EN} : ∀ {L : List EN}, (L.Pairwise fun a b => a.1 < b.1) → (∀ p ∈ L, p.1 ≠ e.1) → (insE e L).Pairwise fun a b => a.1 < b.1
  | [], _, _ => by simp [insE]
  | q :: l, h, hne => by
    rw [List.pairwise_cons] at h
    unfold insE
    split
    · rename_i hq
      rw [List.pairwise_cons, List.pairwise_cons]
      refine ⟨fun p hp => ?_, h⟩
      rcases List.mem_cons.1 hp with e' | hp
      · rw [e']; exact hq
      · exact List.lt_trans hq (h.1 p hp)
    · rename_i hq
      rw [List.pairwise_cons]
      refine ⟨fun p hp => ?_, insE_pw h.2 fun p hp => hne p (List.mem_cons_of_mem _ hp)⟩
      rcases insE_mem.1 hp with e' | hp
      · rw [e']
        exact Decidable.byContradiction fun hc => hne q (List.mem_cons_self ..) (List.le_antisymm (List.not_lt.1 hq) (List.not_lt.1 hc))
      · exact h.1 p hp
theorem ins_lsN {m : NM} (h : (m.map (·.1)).Nodup) (x : List UInt8) (n : Nat) : insE (x, n) (woF x (lsN m)) = lsN (aput m x n) := by
  rw [woF_lsN h]
  refine ext_en (insE_pw (lsN_pw (nodup_adel x h)) fun p hp => ?_) (lsN_pw (nodup_aput x n h)) fun p => ?_
  · rw [lsN_mem (nodup_adel x h), mem_adel] at hp
    exact hp.2
  · rw [insE_mem, lsN_mem (nodup_adel x h), lsN_mem (nodup_aput x n h), mem_adel, mem_aput h]
    constructor
    · rintro (h1 | h1)
      · exact .inr h1
      · exact .inl h1
    · rintro (h1 | h1)
      · exact .inr h1
      · exact .inl h1
theorem lsN_nd {m : NM} (h : (m.map (·.1)).Nodup) : ((lsN m).map (·.1)).Nodup := by
  rw [lsN_keys]
  exact (List.mergeSort_perm _ _).nodup_iff.2 h
theorem afind_lsN {m : NM} (h : (m.map (·.1)).Nodup) (x : List UInt8) : afind (lsN m) x = afind m x := by
  cases hm : afind m x with
  | some n => exact afind_of_mem (p := (x, n)) (lsN_nd h) ((lsN_mem h).2 (afind_mem hm))
  | none =>
    cases hl : afind (lsN m) x with
    | none => rfl
    | some n =>
      have := afind_of_mem (p := (x, n)) h ((lsN_mem h).1 (afind_mem hl))
      rw [hm] at this
      cases this
theorem afind_at : ∀ {L : List EN} {i : Nat} {x : List UInt8} (hi : i < L.length), L[i].1 = x → (∀ j (hj : j < L.length), j < i → L[j].1 ≠ x) → afind L x = some L[i].2
  | [], i, _, hi, _, _ => absurd hi (Nat.not_lt_zero i)
  | p :: l, 0, x, _, h, _ => by
    unfold afind
    rw [List.find?_cons_of_pos (by simpa using h)]
    rfl
  | p :: l, i + 1, x, hi, h, hj => by
    have h0 : p.1 ≠ x := hj 0 (Nat.zero_lt_succ _) (Nat.zero_lt_succ _)
    unfold afind
    rw [List.find?_cons_of_neg (by simpa using h0)]
    have hi' : i < l.length := by simpa using hi
    have := afind_at (L := l) (i := i) (x := x) hi' (by simpa using h) fun j hjl hji => by
      have := hj (j + 1) (by simp; omega) (by omega)
      simpa using this
    unfold afind at this
    simpa using this
/-- The document's folder: its states since the last Sync, in a row. -/
@[reducible] def FD.RH (f : FD) : AH := ⟨2, [(0, .cells 57 [.row 1 1 0 (f.ds.length + 1), AV.int .u64 f.last]), (1, .rowc 53 1 (f.ds.length + 1) (siF f))]⟩
theorem rsi_push {e : Nat} {f f' : FD} {n : Nat} {D : Deed} (h : f' = FD.did ⟨f.safe, f.now, f.ds, n⟩ D) {P : NM → Prop} (hp : f'.In P) {L : List EN} (hL : L = lsN f'.now) {g : Nat → List IV} (hg : g 0 = [.sl 2 L.length (enF L)]) : ChE (.rowc e 1 (f.ds.length + 1 + 1) fun j => if j < f.ds.length + 1 then siF f j else g (j - (f.ds.length + 1))) (.rowc e 1 (f'.ds.length + 1) (siF f')) := by
  have hl : f'.ds.length = f.ds.length + 1 := by rw [h]; simp [FD.did]
  refine ChE.row (by omega) fun j hj => ?_
  by_cases hc : j < f.ds.length + 1
  · simp only [if_pos hc]
    unfold siF
    rw [h, sts_did (by omega)]
  · have : j = f.ds.length + 1 := by omega
    subst this
    simp only [if_neg hc, Nat.sub_self]
    rw [hg, hL, ← sts_now hp, hl]
    rfl
section
variable (f : FD)
theorem rnew_ok : AFn Go.Proofs.Try.prog 18 [] ⟨0, []⟩ (fun _ : Unit => .ptr 0 0) (fun _ => one (FD.RH ⟨[], [], [], 0⟩)) := by
  refine ACall.fin ?_
  refine ACall.walk (C := cfg 14 0) (cfgOk _ _) [] (fn := Go.Proofs.Try.f18) (by kernel_rfl) (by kernel_rfl) rfl (by kernel_rfl) (by kernel_rfl) rfl rfl ?_
  (conv => whnf); repeat ((first | (refine And.intro ?_ ?_; (focus ((repeat' (first | exact trivial | refine And.intro rfl ?_)); done))) | (refine And.intro ?_ ?_; (focus (first | omega | (dsimp -iota only; omega) | (simp -iota; omega) | (simp -iota; done) | decide)))); conv => whnf)
  refine ⟨_, _, Ent.shutAt (r2 := .ptr 0 0) [some 0, some 2] (FD.RH ⟨[], [], [], 0⟩) rfl (by kernel_rfl) (AVE.of_eq ?_) ?_ (by kernel_rfl) (by kernel_rfl) (by repeat' first | exact trivial | refine ⟨rfl, ?_⟩) rfl, (), ?_, ?_⟩
  all_goals first | rfl | skip
  refine ⟨⟨_, rfl, ChE.cells ⟨AVE.refl _, AVE.refl _, rfl⟩⟩, ⟨_, rfl, ?_⟩, trivial⟩
  refine ChE.rowE (Nat.le_refl _) fun i hi => ?_
  have hi : i < 1 := hi
  have : i = 0 := by omega
  subst this
  have e0 : sts ⟨[], [], [], 0⟩ 0 = [] := List.eq_nil_of_length_eq_zero (lsN_length _)
  show IVEs [IV.v (.slice none 0 0)] [.sl 2 (sts ⟨[], [], [], 0⟩ 0).length (enF (sts ⟨[], [], [], 0⟩ 0))]
  rw [e0]
  exact ⟨IVE.nilSl _ _, rfl⟩
theorem rlist_in (hl : f.ds.length ≤ 1000) : AFn Go.Proofs.Try.prog 23 [.ptr 0 0] f.RH (fun _ : Unit => .iv (.sl 2 (sts f f.ds.length).length (enF (sts f f.ds.length)))) (fun _ => f.RH) := by
  refine ACall.walk (C := cfg 15 2) (cfgOk _ _) sch23 (fn := Go.Proofs.Try.f23) (by kernel_rfl) (by kernel_rfl) rfl (by kernel_rfl) (by kernel_rfl) rfl rfl ?_
  have hix1 : 0 + (((f.ds.length + 1 : Nat) : Int) - 1).toNat = f.ds.length := by omega
  (conv => whnf); repeat ((first | (refine And.intro ?_ ?_; (focus ((repeat' (first | exact trivial | refine And.intro rfl ?_)); done))) | (refine And.intro ?_ ?_; (focus (first | omega | (dsimp -iota only; omega) | (simp -iota; omega) | (simp -iota; done) | decide)))); conv => whnf)
  rw [hix1]
  exact ⟨(), rfl, rfl⟩
theorem rlist_ok (hl : f.ds.length ≤ 1000) : AFn Go.Proofs.Try.prog 23 [.ptr 0 0] (one f.RH) (fun _ : Unit => .iv (.sl 2 (sts f f.ds.length).length (enF (sts f f.ds.length)))) (fun _ => one f.RH) := AFn.shut (rlist_in f hl) rfl rfl (fun _ => ⟨by kernel_rfl, by kernel_rfl⟩) (fun _ => (by repeat' first | exact trivial | refine ⟨rfl, ?_⟩)) (fun _ => rfl)
theorem rfind_in (hl : f.ds.length ≤ 1000) (hin : f.In NOk) (x : List UInt8) : AFn Go.Proofs.Try.prog 22 [.ptr 0 0, .str x] f.RH (fun _ : Unit => .tup [AV.int .u64 (f.findN x), AV.bool (f.findB x)]) (fun _ => f.RH) := by
  have hnd := hin.now.nd
  have haf := afind_lsN hnd x
  have hll : (lsN f.now).length ≤ 1000 := by rw [lsN_length]; exact hin.now.len
  refine ACall.fin ?_
  refine ACall.walk (C := cfg 28 2) (cfgOk _ _) [] (fn := Go.Proofs.Try.f22) (by kernel_rfl) (by kernel_rfl) rfl (by kernel_rfl) (by kernel_rfl) rfl rfl ?_
  (conv => whnf); repeat ((first | (refine And.intro ?_ ?_; (focus ((repeat' (first | exact trivial | refine And.intro rfl ?_)); done))) | (refine And.intro ?_ ?_; (focus (first | omega | (dsimp -iota only; omega) | (simp -iota; omega) | (simp -iota; done) | decide)))); conv => whnf)
  refine AFn.use [0, 1] (rlist_in f hl) (by kernel_rfl) rfl (by repeat' first | exact trivial | refine ⟨rfl, ?_⟩) fun _ => ?_
  rw [sts_now hin]
  unfold FD.findN FD.findB
  rw [← haf]
  generalize lsN f.now = L at *
  (conv => whnf); repeat ((first | (refine And.intro ?_ ?_; (focus ((repeat' (first | exact trivial | refine And.intro rfl ?_)); done))) | (refine And.intro ?_ ?_; (focus (first | omega | (dsimp -iota only; omega) | (simp -iota; omega) | (simp -iota; done) | decide)))); conv => whnf)
  refine AWP.loop (X := { i : Nat // i ≤ L.length ∧ ∀ j (hj : j < L.length), j < i → L[j].1 ≠ x }) (fun i => [(0, .ptr 0 0), (1, .str x), (6, .iv (.sl 2 L.length (enF L))), (7, AV.int .i64 i.1)]) (fun i => f.RH) (fun i => L.length - i.1) (⟨0, by omega, fun j hj => by omega⟩) ?_ fun i => AWP.go (S := []) (cfgOk _ _) (.of_eq (by kernel_rfl)) ?_
  · exact Ent.mk' [some 0, some 1] (by kernel_rfl) (by repeat' first | exact trivial | refine And.intro (AVE.refl _) ?_ | refine And.intro (AVE.int (by first | rfl | omega | (dsimp only; omega) | (simp -iota; omega) | (simp -iota; done))) ?_ | refine And.intro (AVE.bool (by assumption)) ?_ | refine And.intro (AVE.len (by first | rfl | omega | (dsimp only; omega) | (simp -iota; omega) | (simp -iota; done))) ?_) (by repeat' (first | exact trivial | refine ⟨⟨_, rfl, ChE.refl _⟩, ?_⟩))
  · obtain ⟨i, hi, hj⟩ := i
    have ix : ((i : Nat) : Int).toNat = i := by simp
    (conv => whnf); repeat ((first | (refine And.intro ?_ ?_; (focus ((repeat' (first | exact trivial | refine And.intro rfl ?_)); done))) | (refine And.intro ?_ ?_; (focus (first | omega | (dsimp -iota only; omega) | (simp -iota; omega) | (simp -iota; done) | decide)))); conv => whnf)
    refine branchB_of (fun h => ?_) (fun h => ?_) <;> (first | replace h := not_t h | replace h := not_f h | skip) <;> (first | replace h := of_decide_eq_true h | replace h := of_decide_eq_false h | skip) <;> (first | replace h := Classical.not_not.1 h | skip) <;> (try dsimp only at h)
    · have hil : i < L.length := by omega
      have e0 : L.getD ((i : Nat) : Int).toNat ([], 0) = L[i] := by rw [ix]; simp [List.getD, hil]
      (conv => whnf); repeat ((first | (refine And.intro ?_ ?_; (focus ((repeat' (first | exact trivial | refine And.intro rfl ?_)); done))) | (refine And.intro ?_ ?_; (focus (first | omega | (dsimp -iota only; omega) | (simp -iota; omega) | (simp -iota; done) | decide)))); conv => whnf)
      rw [e0]
      refine branchB_of (fun g => ?_) (fun g => ?_) <;> (first | replace g := not_t g | replace g := not_f g | skip) <;> (first | replace g := of_decide_eq_true g | replace g := of_decide_eq_false g | skip) <;> (first | replace g := Classical.not_not.1 g | skip) <;> (try dsimp only at g)
      · have ha : afind L x = some L[i].2 := afind_at hil g hj
        rw [ha]
        (conv => whnf); repeat ((first | (refine And.intro ?_ ?_; (focus ((repeat' (first | exact trivial | refine And.intro rfl ?_)); done))) | (refine And.intro ?_ ?_; (focus (first | omega | (dsimp -iota only; omega) | (simp -iota; omega) | (simp -iota; done) | decide)))); conv => whnf)
        rw [e0]
        refine ⟨_, _, Ent.mk' (e' := [(0, .tup [AV.int .u64 L[i].2, AV.bool true])]) (H' := f.RH) [some 0, some 1] (by kernel_rfl) ?_ ?_, (), rfl, rfl⟩
        · exact ⟨AVE.refl _, trivial⟩
        · (repeat' first | exact trivial | refine ⟨⟨_, rfl, ChE.refl _⟩, ?_⟩)
      · (conv => whnf); repeat ((first | (refine And.intro ?_ ?_; (focus ((repeat' (first | exact trivial | refine And.intro rfl ?_)); done))) | (refine And.intro ?_ ?_; (focus (first | omega | (dsimp -iota only; omega) | (simp -iota; omega) | (simp -iota; done) | decide)))); conv => whnf)
        refine ⟨⟨i + 1, by omega, fun j hjl hj' => by
          by_cases e : j = i
          · subst e; exact g
          · exact hj j hjl (by omega)⟩, Ent.mk' [some 0, some 1] (by kernel_rfl) (by repeat' first | exact trivial | refine And.intro (AVE.refl _) ?_ | refine And.intro (AVE.int (by first | rfl | omega | (dsimp only; omega) | (simp -iota; omega) | (simp -iota; done))) ?_ | refine And.intro (AVE.bool (by assumption)) ?_ | refine And.intro (AVE.len (by first | rfl | omega | (dsimp only; omega) | (simp -iota; omega) | (simp -iota; done))) ?_) (by repeat' (first | exact trivial | refine ⟨⟨_, rfl, ChE.refl _⟩, ?_⟩)), ?_⟩
        show L.length - (i + 1) < L.length - i
        omega
    · have ha : afind L x = none := afind_none.2 fun hm => by
        obtain ⟨p, hp, e⟩ := List.mem_map.1 hm
        obtain ⟨j, hjl, rfl⟩ := List.getElem_of_mem hp
        exact hj j hjl (by omega) e
      rw [ha]
      (conv => whnf); repeat ((first | (refine And.intro ?_ ?_; (focus ((repeat' (first | exact trivial | refine And.intro rfl ?_)); done))) | (refine And.intro ?_ ?_; (focus (first | omega | (dsimp -iota only; omega) | (simp -iota; omega) | (simp -iota; done) | decide)))); conv => whnf)
      refine ⟨_, _, Ent.mk' (e' := [(0, .tup [AV.int .u64 0, AV.bool false])]) (H' := f.RH) [some 0, some 1] (by kernel_rfl) ?_ ?_, (), rfl, rfl⟩
      · exact ⟨AVE.refl _, trivial⟩
      · (repeat' first | exact trivial | refine ⟨⟨_, rfl, ChE.refl _⟩, ?_⟩)
theorem rfind_ok (hl : f.ds.length ≤ 1000) (hin : f.In NOk) (x : List UInt8) : AFn Go.Proofs.Try.prog 22 [.ptr 0 0, .str x] (one f.RH) (fun _ : Unit => .tup [AV.int .u64 (f.findN x), AV.bool (f.findB x)]) (fun _ => one f.RH) := AFn.shut (rfind_in f hl hin x) rfl rfl (fun _ => ⟨by kernel_rfl, by kernel_rfl⟩) (fun _ => (by repeat' first | exact trivial | refine ⟨rfl, ?_⟩)) (fun _ => rfl)
end
end Go.Proofs.Yteeifedpabcehaa.Ax

namespace Go.Proofs.Yteeifedpabcehaa.Ax
open Go.RowKit Go.Sort
set_option maxRecDepth 100000
section
variable (f : FD)
theorem rcreate_ok (hl : f.ds.length ≤ 900) (hla : f.last ≤ 1000) (hin : f.In NOk) (x : List UInt8) : AFn Go.Proofs.Try.prog 43 [.ptr 0 0, .str x] (one f.RH) (fun _ : Unit => .tup [AV.int .u64 (f.createN x), AV.int .i64 (f.createE x)]) (fun _ => one (f.create x).RH) := by
  have hL := sts_now hin
  have hLl := lsN_length f.now
  have hLk := hin.now.len
  refine ACall.fin ?_
  refine ACall.walkE (C := cfg 50 1) (cfgOk _ _) sch43 (fn := Go.Proofs.Try.f43) (by kernel_rfl) (by kernel_rfl) rfl (by kernel_rfl) (by kernel_rfl) rfl rfl (H1 := f.RH) (fun _ _ => (HEnt.openOne (f.RH) rfl rfl).ent) fun hlen hheap => ?_
  (conv => whnf); repeat ((first | (refine And.intro ?_ ?_; (focus ((repeat' (first | exact trivial | refine And.intro rfl ?_)); done))) | (refine And.intro ?_ ?_; (focus (first | omega | (dsimp -iota only; omega) | (simp -iota; omega) | (simp -iota; done) | decide)))); conv => whnf)
  refine AFn.use [] (rmay_ok x) (by kernel_rfl) rfl (by repeat' first | exact trivial | refine ⟨rfl, ?_⟩) fun _ => ?_
  (conv => whnf); repeat ((first | (refine And.intro ?_ ?_; (focus ((repeat' (first | exact trivial | refine And.intro rfl ?_)); done))) | (refine And.intro ?_ ?_; (focus (first | omega | (dsimp -iota only; omega) | (simp -iota; omega) | (simp -iota; done) | decide)))); conv => whnf)
  cases hk : mayB x with
  | false =>
    have ha : f.createE x = 1 := by simp [FD.createE, hk]
    obtain ⟨e1, e2⟩ := create_no f (x := x) (by rw [ha]; decide)
    rw [e1, e2, ha]
    (conv => whnf); repeat ((first | (refine And.intro ?_ ?_; (focus ((repeat' (first | exact trivial | refine And.intro rfl ?_)); done))) | (refine And.intro ?_ ?_; (focus (first | omega | (dsimp -iota only; omega) | (simp -iota; omega) | (simp -iota; done) | decide)))); conv => whnf)
    refine ⟨_, _, Ent.shutAt (r2 := .tup [AV.int .u64 0, AV.int .i64 1]) [some 0, some 1] (f.RH) rfl (by kernel_rfl) (AVE.of_eq ?_) ?_ (by kernel_rfl) (by kernel_rfl) (by repeat' first | exact trivial | refine ⟨rfl, ?_⟩) rfl, (), ?_, ?_⟩
    all_goals first | rfl | (repeat' first | exact trivial | refine ⟨⟨_, rfl, ChE.refl _⟩, ?_⟩)
  | true =>
    (conv => whnf); repeat ((first | (refine And.intro ?_ ?_; (focus ((repeat' (first | exact trivial | refine And.intro rfl ?_)); done))) | (refine And.intro ?_ ?_; (focus (first | omega | (dsimp -iota only; omega) | (simp -iota; omega) | (simp -iota; done) | decide)))); conv => whnf)
    refine AFn.use [0, 1] (rfind_in f (by omega) hin x) (by kernel_rfl) rfl (by repeat' first | exact trivial | refine ⟨rfl, ?_⟩) fun _ => ?_
    (conv => whnf); repeat ((first | (refine And.intro ?_ ?_; (focus ((repeat' (first | exact trivial | refine And.intro rfl ?_)); done))) | (refine And.intro ?_ ?_; (focus (first | omega | (dsimp -iota only; omega) | (simp -iota; omega) | (simp -iota; done) | decide)))); conv => whnf)
    refine branchB_of (fun g9 => ?_) (fun g9 => ?_) <;> (first | replace g9 := not_t g9 | replace g9 := not_f g9 | skip) <;> (first | replace g9 := of_decide_eq_true g9 | replace g9 := of_decide_eq_false g9 | skip) <;> (first | replace g9 := Classical.not_not.1 g9 | skip) <;> (try dsimp only at g9)
    · have ha : f.createE x = 9 := by simp [FD.createE, hk, show (afind f.now x).isSome = true from g9]
      obtain ⟨e1, e2⟩ := create_no f (x := x) (by rw [ha]; decide)
      rw [e1, e2, ha]
      (conv => whnf); repeat ((first | (refine And.intro ?_ ?_; (focus ((repeat' (first | exact trivial | refine And.intro rfl ?_)); done))) | (refine And.intro ?_ ?_; (focus (first | omega | (dsimp -iota only; omega) | (simp -iota; omega) | (simp -iota; done) | decide)))); conv => whnf)
      refine ⟨_, _, Ent.shutAt (r2 := .tup [AV.int .u64 0, AV.int .i64 9]) [some 0, some 1] (f.RH) rfl (by kernel_rfl) (AVE.of_eq ?_) ?_ (by kernel_rfl) (by kernel_rfl) (by repeat' first | exact trivial | refine ⟨rfl, ?_⟩) rfl, (), ?_, ?_⟩
      all_goals first | rfl | (repeat' first | exact trivial | refine ⟨⟨_, rfl, ChE.refl _⟩, ?_⟩)
    (conv => whnf); repeat ((first | (refine And.intro ?_ ?_; (focus ((repeat' (first | exact trivial | refine And.intro rfl ?_)); done))) | (refine And.intro ?_ ?_; (focus (first | omega | (dsimp -iota only; omega) | (simp -iota; omega) | (simp -iota; done) | decide)))); conv => whnf)
    refine AFn.use [0, 1] (rlist_in f (by omega)) (by kernel_rfl) rfl (by repeat' first | exact trivial | refine ⟨rfl, ?_⟩) fun _ => ?_
    rw [hL]
    (conv => whnf); repeat ((first | (refine And.intro ?_ ?_; (focus ((repeat' (first | exact trivial | refine And.intro rfl ?_)); done))) | (refine And.intro ?_ ?_; (focus (first | omega | (dsimp -iota only; omega) | (simp -iota; omega) | (simp -iota; done) | decide)))); conv => whnf)
    have hnone : afind f.now x = none := Option.isSome_eq_false_iff.1 g9 |> Option.isNone_iff_eq_none.1
    refine branchB_of (fun g => ?_) (fun g => ?_) <;> (first | replace g := not_t g | replace g := not_f g | skip) <;> (first | replace g := of_decide_eq_true g | replace g := of_decide_eq_false g | skip) <;> (first | replace g := Classical.not_not.1 g | skip) <;> (try dsimp only at g)
    · have ha : f.createE x = 7 := by simp [FD.createE, hk, hnone, show 256 ≤ f.now.length from by omega]
      obtain ⟨e1, e2⟩ := create_no f (x := x) (by rw [ha]; decide)
      rw [e1, e2, ha]
      (conv => whnf); repeat ((first | (refine And.intro ?_ ?_; (focus ((repeat' (first | exact trivial | refine And.intro rfl ?_)); done))) | (refine And.intro ?_ ?_; (focus (first | omega | (dsimp -iota only; omega) | (simp -iota; omega) | (simp -iota; done) | decide)))); conv => whnf)
      refine ⟨_, _, Ent.shutAt (r2 := .tup [AV.int .u64 0, AV.int .i64 7]) [some 0, some 1] (f.RH) rfl (by kernel_rfl) (AVE.of_eq ?_) ?_ (by kernel_rfl) (by kernel_rfl) (by repeat' first | exact trivial | refine ⟨rfl, ?_⟩) rfl, (), ?_, ?_⟩
      all_goals first | rfl | (repeat' first | exact trivial | refine ⟨⟨_, rfl, ChE.refl _⟩, ?_⟩)
    · have ha : f.createE x = 0 := by simp [FD.createE, hk, hnone, show ¬ 256 ≤ f.now.length from by omega]
      have e1 : f.createN x = f.last + 1 := if_pos ha
      have e2 : f.create x = FD.did ⟨f.safe, f.now, f.ds, f.last + 1⟩ (.mk x (f.last + 1)) := if_pos ha
      rw [e1, e2, ha]
      have hL2 : sts ⟨f.safe, f.now, f.ds, f.last + 1⟩ f.ds.length = lsN f.now := hL
      have hT : (FD.did ⟨f.safe, f.now, f.ds, f.last + 1⟩ (.mk x (f.last + 1))).In (fun _ => True) := hin.did (fun _ _ => trivial) (fun _ _ => trivial) _
      have hins := ins_lsN hin.now.nd x (f.last + 1)
      (conv => whnf); repeat ((first | (refine And.intro ?_ ?_; (focus ((repeat' (first | exact trivial | refine And.intro rfl ?_)); done))) | (refine And.intro ?_ ?_; (focus (first | omega | (dsimp -iota only; omega) | (simp -iota; omega) | (simp -iota; done) | decide)))); conv => whnf)
      repeat' (first
        | (refine And.intro ?_ ?_ <;> ((conv => whnf); repeat ((first | (refine And.intro ?_ ?_; (focus ((repeat' (first | exact trivial | refine And.intro rfl ?_)); done))) | (refine And.intro ?_ ?_; (focus (first | omega | (dsimp -iota only; omega) | (simp -iota; omega) | (simp -iota; done) | decide)))); conv => whnf)))
        | (refine AFn.use [0, 1] (rlist_in ⟨f.safe, f.now, f.ds, f.last + 1⟩ (by dsimp only; omega)) (by kernel_rfl) rfl (by repeat' first | exact trivial | refine ⟨rfl, ?_⟩) fun _ => ?_
           rw [hL2]
           (conv => whnf); repeat ((first | (refine And.intro ?_ ?_; (focus ((repeat' (first | exact trivial | refine And.intro rfl ?_)); done))) | (refine And.intro ?_ ?_; (focus (first | omega | (dsimp -iota only; omega) | (simp -iota; omega) | (simp -iota; done) | decide)))); conv => whnf))
        | (refine AFn.use [] (with_ok (lsN f.now) (by omega) x (f.last + 1)) (by kernel_rfl) rfl (by repeat' first | exact trivial | refine ⟨rfl, ?_⟩) fun _ => ?_
           rw [hins]
           (conv => whnf); repeat ((first | (refine And.intro ?_ ?_; (focus ((repeat' (first | exact trivial | refine And.intro rfl ?_)); done))) | (refine And.intro ?_ ?_; (focus (first | omega | (dsimp -iota only; omega) | (simp -iota; omega) | (simp -iota; done) | decide)))); conv => whnf)))
      all_goals
        refine ⟨_, _, Ent.shutAt (r2 := .tup [AV.int .u64 (f.last + 1 : Nat), AV.int .i64 0]) [some 0, some 3] ((FD.did ⟨f.safe, f.now, f.ds, f.last + 1⟩ (.mk x (f.last + 1))).RH) rfl (by kernel_rfl) (AVE.of_eq ?_) ?_ (by kernel_rfl) (by kernel_rfl) (by repeat' first | exact trivial | refine ⟨rfl, ?_⟩) rfl, (), ?_, ?_⟩
        all_goals first | rfl | exact ⟨⟨_, rfl, ChE.cells ⟨AVE.len (by simp [FD.did]), AVE.refl _, rfl⟩⟩, ⟨_, rfl, rsi_push rfl hT rfl rfl⟩, trivial⟩ | (repeat' first | exact trivial | refine ⟨⟨_, rfl, ChE.refl _⟩, ?_⟩)
theorem rremove_ok (hl : f.ds.length ≤ 900) (hin : f.In NOk) (x : List UInt8) : AFn Go.Proofs.Try.prog 45 [.ptr 0 0, .str x] (one f.RH) (fun _ : Unit => AV.int .i64 (f.remE x)) (fun _ => one (f.rem x).RH) := by
  have hL := sts_now hin
  have hLl := lsN_length f.now
  have hLk := hin.now.len
  refine ACall.fin ?_
  refine ACall.walkE (C := cfg 31 1) (cfgOk _ _) sch45 (fn := Go.Proofs.Try.f45) (by kernel_rfl) (by kernel_rfl) rfl (by kernel_rfl) (by kernel_rfl) rfl rfl (H1 := f.RH) (fun _ _ => (HEnt.openOne (f.RH) rfl rfl).ent) fun hlen hheap => ?_
  (conv => whnf); repeat ((first | (refine And.intro ?_ ?_; (focus ((repeat' (first | exact trivial | refine And.intro rfl ?_)); done))) | (refine And.intro ?_ ?_; (focus (first | omega | (dsimp -iota only; omega) | (simp -iota; omega) | (simp -iota; done) | decide)))); conv => whnf)
  refine AFn.use [] (rmay_ok x) (by kernel_rfl) rfl (by repeat' first | exact trivial | refine ⟨rfl, ?_⟩) fun _ => ?_
  (conv => whnf); repeat ((first | (refine And.intro ?_ ?_; (focus ((repeat' (first | exact trivial | refine And.intro rfl ?_)); done))) | (refine And.intro ?_ ?_; (focus (first | omega | (dsimp -iota only; omega) | (simp -iota; omega) | (simp -iota; done) | decide)))); conv => whnf)
  cases hk : mayB x with
  | false =>
    have ha : f.remE x = 1 := by simp [FD.remE, hk]
    have e2 : f.rem x = f := if_neg (by rw [ha]; simp)
    rw [e2, ha]
    (conv => whnf); repeat ((first | (refine And.intro ?_ ?_; (focus ((repeat' (first | exact trivial | refine And.intro rfl ?_)); done))) | (refine And.intro ?_ ?_; (focus (first | omega | (dsimp -iota only; omega) | (simp -iota; omega) | (simp -iota; done) | decide)))); conv => whnf)
    refine ⟨_, _, Ent.shutAt (r2 := AV.int .i64 1) [some 0, some 1] (f.RH) rfl (by kernel_rfl) (AVE.of_eq ?_) ?_ (by kernel_rfl) (by kernel_rfl) (by repeat' first | exact trivial | refine ⟨rfl, ?_⟩) rfl, (), ?_, ?_⟩
    all_goals first | rfl | (repeat' first | exact trivial | refine ⟨⟨_, rfl, ChE.refl _⟩, ?_⟩)
  | true =>
    (conv => whnf); repeat ((first | (refine And.intro ?_ ?_; (focus ((repeat' (first | exact trivial | refine And.intro rfl ?_)); done))) | (refine And.intro ?_ ?_; (focus (first | omega | (dsimp -iota only; omega) | (simp -iota; omega) | (simp -iota; done) | decide)))); conv => whnf)
    refine AFn.use [0, 1] (rfind_in f (by omega) hin x) (by kernel_rfl) rfl (by repeat' first | exact trivial | refine ⟨rfl, ?_⟩) fun _ => ?_
    (conv => whnf); repeat ((first | (refine And.intro ?_ ?_; (focus ((repeat' (first | exact trivial | refine And.intro rfl ?_)); done))) | (refine And.intro ?_ ?_; (focus (first | omega | (dsimp -iota only; omega) | (simp -iota; omega) | (simp -iota; done) | decide)))); conv => whnf)
    refine branchB_of (fun g9 => ?_) (fun g9 => ?_) <;> (first | replace g9 := not_t g9 | replace g9 := not_f g9 | skip) <;> (first | replace g9 := of_decide_eq_true g9 | replace g9 := of_decide_eq_false g9 | skip) <;> (first | replace g9 := Classical.not_not.1 g9 | skip) <;> (try dsimp only at g9)
    · have hnone : afind f.now x = none := Option.isSome_eq_false_iff.1 g9 |> Option.isNone_iff_eq_none.1
      have ha : f.remE x = 6 := by simp [FD.remE, hk, hnone]
      have e2 : f.rem x = f := if_neg (by rw [ha]; simp)
      rw [e2, ha]
      (conv => whnf); repeat ((first | (refine And.intro ?_ ?_; (focus ((repeat' (first | exact trivial | refine And.intro rfl ?_)); done))) | (refine And.intro ?_ ?_; (focus (first | omega | (dsimp -iota only; omega) | (simp -iota; omega) | (simp -iota; done) | decide)))); conv => whnf)
      refine ⟨_, _, Ent.shutAt (r2 := AV.int .i64 6) [some 0, some 1] (f.RH) rfl (by kernel_rfl) (AVE.of_eq ?_) ?_ (by kernel_rfl) (by kernel_rfl) (by repeat' first | exact trivial | refine ⟨rfl, ?_⟩) rfl, (), ?_, ?_⟩
      all_goals first | rfl | (repeat' first | exact trivial | refine ⟨⟨_, rfl, ChE.refl _⟩, ?_⟩)
    · have ha : f.remE x = 0 := by simp [FD.remE, hk, show (afind f.now x).isSome = true from g9]
      have e2 : f.rem x = f.did (.rm x) := if_pos ha
      rw [e2, ha]
      have hT : (f.did (.rm x)).In (fun _ => True) := hin.did (fun _ _ => trivial) (fun _ _ => trivial) f.last
      have hwo := woF_lsN hin.now.nd x
      (conv => whnf); repeat ((first | (refine And.intro ?_ ?_; (focus ((repeat' (first | exact trivial | refine And.intro rfl ?_)); done))) | (refine And.intro ?_ ?_; (focus (first | omega | (dsimp -iota only; omega) | (simp -iota; omega) | (simp -iota; done) | decide)))); conv => whnf)
      repeat' (first
        | (refine And.intro ?_ ?_ <;> ((conv => whnf); repeat ((first | (refine And.intro ?_ ?_; (focus ((repeat' (first | exact trivial | refine And.intro rfl ?_)); done))) | (refine And.intro ?_ ?_; (focus (first | omega | (dsimp -iota only; omega) | (simp -iota; omega) | (simp -iota; done) | decide)))); conv => whnf)))
        | (refine AFn.use [0, 1] (rlist_in f (by omega)) (by kernel_rfl) rfl (by repeat' first | exact trivial | refine ⟨rfl, ?_⟩) fun _ => ?_
           rw [hL]
           (conv => whnf); repeat ((first | (refine And.intro ?_ ?_; (focus ((repeat' (first | exact trivial | refine And.intro rfl ?_)); done))) | (refine And.intro ?_ ?_; (focus (first | omega | (dsimp -iota only; omega) | (simp -iota; omega) | (simp -iota; done) | decide)))); conv => whnf))
        | (refine AFn.use [] (without_ok (lsN f.now) (by omega) x) (by kernel_rfl) rfl (by repeat' first | exact trivial | refine ⟨rfl, ?_⟩) fun _ => ?_
           rw [hwo]
           (conv => whnf); repeat ((first | (refine And.intro ?_ ?_; (focus ((repeat' (first | exact trivial | refine And.intro rfl ?_)); done))) | (refine And.intro ?_ ?_; (focus (first | omega | (dsimp -iota only; omega) | (simp -iota; omega) | (simp -iota; done) | decide)))); conv => whnf)))
      all_goals
        refine ⟨_, _, Ent.shutAt (r2 := AV.int .i64 0) [some 0, some 3] ((f.did (.rm x)).RH) rfl (by kernel_rfl) (AVE.of_eq ?_) ?_ (by kernel_rfl) (by kernel_rfl) (by repeat' first | exact trivial | refine ⟨rfl, ?_⟩) rfl, (), ?_, ?_⟩
        all_goals first | rfl | exact ⟨⟨_, rfl, ChE.cells ⟨AVE.len (by simp [FD.did]), AVE.refl _, rfl⟩⟩, ⟨_, rfl, rsi_push (n := f.last) rfl hT rfl rfl⟩, trivial⟩ | (repeat' first | exact trivial | refine ⟨⟨_, rfl, ChE.refl _⟩, ?_⟩)
theorem rrename_ok (hl : f.ds.length ≤ 900) (hin : f.In NOk) (a b : List UInt8) : AFn Go.Proofs.Try.prog 44 [.ptr 0 0, .str a, .str b] (one f.RH) (fun _ : Unit => AV.int .i64 (f.renE a b)) (fun _ => one (f.ren a b).RH) := by
  have hL := sts_now hin
  have hLl := lsN_length f.now
  have hLk := hin.now.len
  refine ACall.fin ?_
  refine ACall.walkE (C := cfg 44 1) (cfgOk _ _) sch44 (fn := Go.Proofs.Try.f44) (by kernel_rfl) (by kernel_rfl) rfl (by kernel_rfl) (by kernel_rfl) rfl rfl (H1 := f.RH) (fun _ _ => (HEnt.openOne (f.RH) rfl rfl).ent) fun hlen hheap => ?_
  (conv => whnf); repeat ((first | (refine And.intro ?_ ?_; (focus ((repeat' (first | exact trivial | refine And.intro rfl ?_)); done))) | (refine And.intro ?_ ?_; (focus (first | omega | (dsimp -iota only; omega) | (simp -iota; omega) | (simp -iota; done) | decide)))); conv => whnf)
  refine AFn.use [] (rmay_ok a) (by kernel_rfl) rfl (by repeat' first | exact trivial | refine ⟨rfl, ?_⟩) fun _ => ?_
  (conv => whnf); repeat ((first | (refine And.intro ?_ ?_; (focus ((repeat' (first | exact trivial | refine And.intro rfl ?_)); done))) | (refine And.intro ?_ ?_; (focus (first | omega | (dsimp -iota only; omega) | (simp -iota; omega) | (simp -iota; done) | decide)))); conv => whnf)
  cases hk : mayB a with
  | false =>
    have ha : f.renE a b = 1 := by simp [FD.renE, hk]
    have e2 : f.ren a b = f := if_neg (by rw [ha]; simp)
    rw [e2, ha]
    (conv => whnf); repeat ((first | (refine And.intro ?_ ?_; (focus ((repeat' (first | exact trivial | refine And.intro rfl ?_)); done))) | (refine And.intro ?_ ?_; (focus (first | omega | (dsimp -iota only; omega) | (simp -iota; omega) | (simp -iota; done) | decide)))); conv => whnf)
    refine ⟨_, _, Ent.shutAt (r2 := AV.int .i64 1) [some 0, some 1] (f.RH) rfl (by kernel_rfl) (AVE.of_eq ?_) ?_ (by kernel_rfl) (by kernel_rfl) (by repeat' first | exact trivial | refine ⟨rfl, ?_⟩) rfl, (), ?_, ?_⟩
    all_goals first | rfl | (repeat' first | exact trivial | refine ⟨⟨_, rfl, ChE.refl _⟩, ?_⟩)
  | true =>
    (conv => whnf); repeat ((first | (refine And.intro ?_ ?_; (focus ((repeat' (first | exact trivial | refine And.intro rfl ?_)); done))) | (refine And.intro ?_ ?_; (focus (first | omega | (dsimp -iota only; omega) | (simp -iota; omega) | (simp -iota; done) | decide)))); conv => whnf)
    refine AFn.use [] (rmay_ok b) (by kernel_rfl) rfl (by repeat' first | exact trivial | refine ⟨rfl, ?_⟩) fun _ => ?_
    (conv => whnf); repeat ((first | (refine And.intro ?_ ?_; (focus ((repeat' (first | exact trivial | refine And.intro rfl ?_)); done))) | (refine And.intro ?_ ?_; (focus (first | omega | (dsimp -iota only; omega) | (simp -iota; omega) | (simp -iota; done) | decide)))); conv => whnf)
    cases hkb : mayB b with
    | false =>
      have ha : f.renE a b = 1 := by simp [FD.renE, hkb]
      have e2 : f.ren a b = f := if_neg (by rw [ha]; simp)
      rw [e2, ha]
      (conv => whnf); repeat ((first | (refine And.intro ?_ ?_; (focus ((repeat' (first | exact trivial | refine And.intro rfl ?_)); done))) | (refine And.intro ?_ ?_; (focus (first | omega | (dsimp -iota only; omega) | (simp -iota; omega) | (simp -iota; done) | decide)))); conv => whnf)
      refine ⟨_, _, Ent.shutAt (r2 := AV.int .i64 1) [some 0, some 1] (f.RH) rfl (by kernel_rfl) (AVE.of_eq ?_) ?_ (by kernel_rfl) (by kernel_rfl) (by repeat' first | exact trivial | refine ⟨rfl, ?_⟩) rfl, (), ?_, ?_⟩
      all_goals first | rfl | (repeat' first | exact trivial | refine ⟨⟨_, rfl, ChE.refl _⟩, ?_⟩)
    | true =>
      (conv => whnf); repeat ((first | (refine And.intro ?_ ?_; (focus ((repeat' (first | exact trivial | refine And.intro rfl ?_)); done))) | (refine And.intro ?_ ?_; (focus (first | omega | (dsimp -iota only; omega) | (simp -iota; omega) | (simp -iota; done) | decide)))); conv => whnf)
      refine AFn.use [0, 1] (rfind_in f (by omega) hin a) (by kernel_rfl) rfl (by repeat' first | exact trivial | refine ⟨rfl, ?_⟩) fun _ => ?_
      (conv => whnf); repeat ((first | (refine And.intro ?_ ?_; (focus ((repeat' (first | exact trivial | refine And.intro rfl ?_)); done))) | (refine And.intro ?_ ?_; (focus (first | omega | (dsimp -iota only; omega) | (simp -iota; omega) | (simp -iota; done) | decide)))); conv => whnf)
      refine branchB_of (fun g9 => ?_) (fun g9 => ?_) <;> (first | replace g9 := not_t g9 | replace g9 := not_f g9 | skip) <;> (first | replace g9 := of_decide_eq_true g9 | replace g9 := of_decide_eq_false g9 | skip) <;> (first | replace g9 := Classical.not_not.1 g9 | skip) <;> (try dsimp only at g9)
      · have hnone : afind f.now a = none := Option.isSome_eq_false_iff.1 g9 |> Option.isNone_iff_eq_none.1
        have ha : f.renE a b = 6 := by simp [FD.renE, hk, hkb, hnone]
        have e2 : f.ren a b = f := if_neg (by rw [ha]; simp)
        rw [e2, ha]
        (conv => whnf); repeat ((first | (refine And.intro ?_ ?_; (focus ((repeat' (first | exact trivial | refine And.intro rfl ?_)); done))) | (refine And.intro ?_ ?_; (focus (first | omega | (dsimp -iota only; omega) | (simp -iota; omega) | (simp -iota; done) | decide)))); conv => whnf)
        refine ⟨_, _, Ent.shutAt (r2 := AV.int .i64 6) [some 0, some 1] (f.RH) rfl (by kernel_rfl) (AVE.of_eq ?_) ?_ (by kernel_rfl) (by kernel_rfl) (by repeat' first | exact trivial | refine ⟨rfl, ?_⟩) rfl, (), ?_, ?_⟩
        all_goals first | rfl | (repeat' first | exact trivial | refine ⟨⟨_, rfl, ChE.refl _⟩, ?_⟩)
      · have ha : f.renE a b = 0 := by simp [FD.renE, hk, hkb, show (afind f.now a).isSome = true from g9]
        rw [ha]
        (conv => whnf); repeat ((first | (refine And.intro ?_ ?_; (focus ((repeat' (first | exact trivial | refine And.intro rfl ?_)); done))) | (refine And.intro ?_ ?_; (focus (first | omega | (dsimp -iota only; omega) | (simp -iota; omega) | (simp -iota; done) | decide)))); conv => whnf)
        refine branchB_of (fun g => ?_) (fun g => ?_) <;> (first | replace g := not_t g | replace g := not_f g | skip) <;> (first | replace g := of_decide_eq_true g | replace g := of_decide_eq_false g | skip) <;> (first | replace g := Classical.not_not.1 g | skip) <;> (try dsimp only at g)
        rotate_left
        · have e2 : f.ren a b = f := if_neg (by rw [g]; simp)
          rw [e2]
          (conv => whnf); repeat ((first | (refine And.intro ?_ ?_; (focus ((repeat' (first | exact trivial | refine And.intro rfl ?_)); done))) | (refine And.intro ?_ ?_; (focus (first | omega | (dsimp -iota only; omega) | (simp -iota; omega) | (simp -iota; done) | decide)))); conv => whnf)
          refine ⟨_, _, Ent.shutAt (r2 := AV.int .i64 0) [some 0, some 1] (f.RH) rfl (by kernel_rfl) (AVE.of_eq ?_) ?_ (by kernel_rfl) (by kernel_rfl) (by repeat' first | exact trivial | refine ⟨rfl, ?_⟩) rfl, (), ?_, ?_⟩
          all_goals first | rfl | (repeat' first | exact trivial | refine ⟨⟨_, rfl, ChE.refl _⟩, ?_⟩)
        · have e2 : f.ren a b = f.did (.mv a b (f.findN a)) := if_pos ⟨ha, g⟩
          rw [e2]
          have hT : (f.did (.mv a b (f.findN a))).In (fun _ => True) := hin.did (fun _ _ => trivial) (fun _ _ => trivial) f.last
          have hwo := woF_lsN hin.now.nd a
          have hal : (lsN (adel f.now a)).length ≤ 1000 := by rw [lsN_length]; exact Nat.le_trans (adel_length _ _) hLk
          have hins := ins_lsN (nodup_adel a hin.now.nd) b (f.findN a)
          (conv => whnf); repeat ((first | (refine And.intro ?_ ?_; (focus ((repeat' (first | exact trivial | refine And.intro rfl ?_)); done))) | (refine And.intro ?_ ?_; (focus (first | omega | (dsimp -iota only; omega) | (simp -iota; omega) | (simp -iota; done) | decide)))); conv => whnf)
          repeat' (first
            | (refine And.intro ?_ ?_ <;> ((conv => whnf); repeat ((first | (refine And.intro ?_ ?_; (focus ((repeat' (first | exact trivial | refine And.intro rfl ?_)); done))) | (refine And.intro ?_ ?_; (focus (first | omega | (dsimp -iota only; omega) | (simp -iota; omega) | (simp -iota; done) | decide)))); conv => whnf)))
            | (refine AFn.use [0, 1] (rlist_in f (by omega)) (by kernel_rfl) rfl (by repeat' first | exact trivial | refine ⟨rfl, ?_⟩) fun _ => ?_
               rw [hL]
               (conv => whnf); repeat ((first | (refine And.intro ?_ ?_; (focus ((repeat' (first | exact trivial | refine And.intro rfl ?_)); done))) | (refine And.intro ?_ ?_; (focus (first | omega | (dsimp -iota only; omega) | (simp -iota; omega) | (simp -iota; done) | decide)))); conv => whnf))
            | (refine AFn.use [] (without_ok (lsN f.now) (by omega) a) (by kernel_rfl) rfl (by repeat' first | exact trivial | refine ⟨rfl, ?_⟩) fun _ => ?_
               rw [hwo]
               (conv => whnf); repeat ((first | (refine And.intro ?_ ?_; (focus ((repeat' (first | exact trivial | refine And.intro rfl ?_)); done))) | (refine And.intro ?_ ?_; (focus (first | omega | (dsimp -iota only; omega) | (simp -iota; omega) | (simp -iota; done) | decide)))); conv => whnf))
            | (refine AFn.use [] (with_ok (lsN (adel f.now a)) hal b (f.findN a)) (by kernel_rfl) rfl (by repeat' first | exact trivial | refine ⟨rfl, ?_⟩) fun _ => ?_
               rw [hins]
               (conv => whnf); repeat ((first | (refine And.intro ?_ ?_; (focus ((repeat' (first | exact trivial | refine And.intro rfl ?_)); done))) | (refine And.intro ?_ ?_; (focus (first | omega | (dsimp -iota only; omega) | (simp -iota; omega) | (simp -iota; done) | decide)))); conv => whnf)))
          all_goals
            refine ⟨_, _, Ent.shutAt (r2 := AV.int .i64 0) [some 0, some 3] ((f.did (.mv a b (f.findN a))).RH) rfl (by kernel_rfl) (AVE.of_eq ?_) ?_ (by kernel_rfl) (by kernel_rfl) (by repeat' first | exact trivial | refine ⟨rfl, ?_⟩) rfl, (), ?_, ?_⟩
            all_goals first | rfl | exact ⟨⟨_, rfl, ChE.cells ⟨AVE.len (by simp [FD.did]), AVE.refl _, rfl⟩⟩, ⟨_, rfl, rsi_push (n := f.last) rfl hT rfl rfl⟩, trivial⟩ | (repeat' first | exact trivial | refine ⟨⟨_, rfl, ChE.refl _⟩, ?_⟩)
theorem rsi_one {e : Nat} {f : FD} (h0 : f.ds = []) {L : List EN} (hL : lsN f.safe = L) {g : Nat → List IV} (hg : g 0 = [.sl 2 L.length (enF L)]) : ChE (.rowc e 1 1 g) (.rowc e 1 (f.ds.length + 1) (siF f)) := by
  rw [h0]
  refine ChE.row (Nat.le_refl _) fun i hi => ?_
  have : i = 0 := by simp at hi; omega
  subst this
  rw [hg]
  unfold siF sts
  rw [h0]
  show _ = [IV.sl 2 (lsN f.safe).length (enF (lsN f.safe))]
  rw [hL]
theorem rcrash_ok (hl : f.ds.length ≤ 900) (k : Int) : AFn Go.Proofs.Try.prog 46 [.ptr 0 0, AV.int .i64 k] (one f.RH) (fun _ : Unit => .tup []) (fun _ => one (f.crash k).RH) := by
  refine ACall.fin ?_
  refine ACall.walkE (C := cfg 34 1) (cfgOk _ _) [] (fn := Go.Proofs.Try.f46) (by kernel_rfl) (by kernel_rfl) rfl (by kernel_rfl) (by kernel_rfl) rfl rfl (H1 := f.RH) (fun _ _ => (HEnt.openOne (f.RH) rfl rfl).ent) fun hlen hheap => ?_
  (conv => whnf); repeat ((first | (refine And.intro ?_ ?_; (focus ((repeat' (first | exact trivial | refine And.intro rfl ?_)); done))) | (refine And.intro ?_ ?_; (focus (first | omega | (dsimp -iota only; omega) | (simp -iota; omega) | (simp -iota; done) | decide)))); conv => whnf)
  refine branchB_of (fun g0 => ?_) (fun g0 => ?_) <;> (first | replace g0 := not_t g0 | replace g0 := not_f g0 | skip) <;> (first | replace g0 := of_decide_eq_true g0 | replace g0 := of_decide_eq_false g0 | skip) <;> (first | replace g0 := Classical.not_not.1 g0 | skip) <;> (try dsimp only at g0)
  · have hk : 0 + (0 : Int).toNat = f.keep k := by unfold FD.keep; omega
    (conv => whnf); repeat ((first | (refine And.intro ?_ ?_; (focus ((repeat' (first | exact trivial | refine And.intro rfl ?_)); done))) | (refine And.intro ?_ ?_; (focus (first | omega | (dsimp -iota only; omega) | (simp -iota; omega) | (simp -iota; done) | decide)))); conv => whnf)
    refine branchB_of (fun g1 => ?_) (fun g1 => ?_) <;> (first | replace g1 := not_t g1 | replace g1 := not_f g1 | skip) <;> (first | replace g1 := of_decide_eq_true g1 | replace g1 := of_decide_eq_false g1 | skip) <;> (first | replace g1 := Classical.not_not.1 g1 | skip) <;> (try dsimp only at g1)
    · exfalso; omega
    · (conv => whnf); repeat ((first | (refine And.intro ?_ ?_; (focus ((repeat' (first | exact trivial | refine And.intro rfl ?_)); done))) | (refine And.intro ?_ ?_; (focus (first | omega | (dsimp -iota only; omega) | (simp -iota; omega) | (simp -iota; done) | decide)))); conv => whnf)
      refine ⟨_, _, Ent.shutAt (r2 := .tup []) [some 0, some 3] ((f.crash k).RH) rfl (by kernel_rfl) (AVE.of_eq ?_) ?_ (by kernel_rfl) (by kernel_rfl) (by repeat' first | exact trivial | refine ⟨rfl, ?_⟩) rfl, (), ?_, ?_⟩
      all_goals first | rfl | exact ⟨⟨_, rfl, ChE.cells ⟨AVE.refl _, AVE.refl _, rfl⟩⟩, ⟨_, rfl, rsi_one rfl (by rw [hk]; rfl) rfl⟩, trivial⟩ | (repeat' first | exact trivial | refine ⟨⟨_, rfl, ChE.refl _⟩, ?_⟩)
  · (conv => whnf); repeat ((first | (refine And.intro ?_ ?_; (focus ((repeat' (first | exact trivial | refine And.intro rfl ?_)); done))) | (refine And.intro ?_ ?_; (focus (first | omega | (dsimp -iota only; omega) | (simp -iota; omega) | (simp -iota; done) | decide)))); conv => whnf)
    refine branchB_of (fun g1 => ?_) (fun g1 => ?_) <;> (first | replace g1 := not_t g1 | replace g1 := not_f g1 | skip) <;> (first | replace g1 := of_decide_eq_true g1 | replace g1 := of_decide_eq_false g1 | skip) <;> (first | replace g1 := Classical.not_not.1 g1 | skip) <;> (try dsimp only at g1)
    · have hk : 0 + (((f.ds.length + 1 : Nat) : Int) - 1).toNat = f.keep k := by unfold FD.keep; omega
      (conv => whnf); repeat ((first | (refine And.intro ?_ ?_; (focus ((repeat' (first | exact trivial | refine And.intro rfl ?_)); done))) | (refine And.intro ?_ ?_; (focus (first | omega | (dsimp -iota only; omega) | (simp -iota; omega) | (simp -iota; done) | decide)))); conv => whnf)
      refine ⟨_, _, Ent.shutAt (r2 := .tup []) [some 0, some 3] ((f.crash k).RH) rfl (by kernel_rfl) (AVE.of_eq ?_) ?_ (by kernel_rfl) (by kernel_rfl) (by repeat' first | exact trivial | refine ⟨rfl, ?_⟩) rfl, (), ?_, ?_⟩
      all_goals first | rfl | exact ⟨⟨_, rfl, ChE.cells ⟨AVE.refl _, AVE.refl _, rfl⟩⟩, ⟨_, rfl, rsi_one rfl (by rw [hk]; rfl) rfl⟩, trivial⟩ | (repeat' first | exact trivial | refine ⟨⟨_, rfl, ChE.refl _⟩, ?_⟩)
    · have hk : 0 + k.toNat = f.keep k := by unfold FD.keep; omega
      (conv => whnf); repeat ((first | (refine And.intro ?_ ?_; (focus ((repeat' (first | exact trivial | refine And.intro rfl ?_)); done))) | (refine And.intro ?_ ?_; (focus (first | omega | (dsimp -iota only; omega) | (simp -iota; omega) | (simp -iota; done) | decide)))); conv => whnf)
      refine ⟨_, _, Ent.shutAt (r2 := .tup []) [some 0, some 3] ((f.crash k).RH) rfl (by kernel_rfl) (AVE.of_eq ?_) ?_ (by kernel_rfl) (by kernel_rfl) (by repeat' first | exact trivial | refine ⟨rfl, ?_⟩) rfl, (), ?_, ?_⟩
      all_goals first | rfl | exact ⟨⟨_, rfl, ChE.cells ⟨AVE.refl _, AVE.refl _, rfl⟩⟩, ⟨_, rfl, rsi_one rfl (by rw [hk]; rfl) rfl⟩, trivial⟩ | (repeat' first | exact trivial | refine ⟨⟨_, rfl, ChE.refl _⟩, ?_⟩)
end
end Go.Proofs.Yteeifedpabcehaa.Ax

namespace Go.Proofs.Yteeifedpabcehaa.Ax
open Go.RowKit Go.Sort
set_option maxRecDepth 100000
theorem crash_all {P : NM → Prop} {f : FD} (h : f.In P) : f.crash ((f.ds.length + 1 : Nat) : Int) = f.synced := by
  have hk : f.keep ((f.ds.length + 1 : Nat) : Int) = f.ds.length := by unfold FD.keep; omega
  unfold FD.crash FD.synced
  rw [hk, List.take_length, ← h.eq]
section
variable (f : FD)
theorem rwants_ok (hl : f.ds.length ≤ 900) (hla : f.last ≤ 1000) (hin : f.In NOk) (c : Call) : AFn Go.Proofs.Try.prog 21 [.ptr 0 0, .agg [AV.int .i64 c.w, .str c.s, .str c.t, AV.int .i64 c.k]] (one f.RH) (fun _ : Unit => .tup [AV.int .u64 (f.doesN c), AV.int .i64 (f.doesE c)]) (fun _ => one (f.does c).RH) := by
  have mkc : isMk c.w → f.doesN c = f.createN c.s ∧ f.doesE c = f.createE c.s ∧ f.does c = f.create c.s := fun h => ⟨if_pos h, if_pos h, if_pos h⟩
  have hsy := crash_all hin
  refine ACall.fin ?_
  refine ACall.walkE (C := cfg 47 1) (cfgOk _ _) [] (fn := Go.Proofs.Try.f21) (by kernel_rfl) (by kernel_rfl) rfl (by kernel_rfl) (by kernel_rfl) rfl rfl (H1 := f.RH) (fun _ _ => (HEnt.openOne (f.RH) rfl rfl).ent) fun hlen hheap => ?_
  (conv => whnf); repeat ((first | (refine And.intro ?_ ?_; (focus ((repeat' (first | exact trivial | refine And.intro rfl ?_)); done))) | (refine And.intro ?_ ?_; (focus (first | omega | (dsimp -iota only; omega) | (simp -iota; omega) | (simp -iota; done) | decide)))); conv => whnf)
  refine branchB_of (fun g0 => ?_) (fun g0 => ?_) <;> (first | replace g0 := not_t g0 | replace g0 := not_f g0 | skip) <;> (first | replace g0 := of_decide_eq_true g0 | replace g0 := of_decide_eq_false g0 | skip) <;> (first | replace g0 := Classical.not_not.1 g0 | skip) <;> (try dsimp only at g0)
  · obtain ⟨e1, e2, e3⟩ := mkc (.inl g0)
    rw [e1, e2, e3]
    (conv => whnf); repeat ((first | (refine And.intro ?_ ?_; (focus ((repeat' (first | exact trivial | refine And.intro rfl ?_)); done))) | (refine And.intro ?_ ?_; (focus (first | omega | (dsimp -iota only; omega) | (simp -iota; omega) | (simp -iota; done) | decide)))); conv => whnf)
    refine ACall.hent (HEnt.close [0, 1] 0 f.RH ?_ ?_) ?_
    · kernel_rfl
    · repeat' first | exact trivial | refine ⟨rfl, ?_⟩
    refine AFn.use [0] (rcreate_ok f hl hla hin c.s) (by kernel_rfl) rfl (by repeat' first | exact trivial | refine ⟨rfl, ?_⟩) fun _ => ?_
    refine ⟨_, HEnt.refl _, ?_⟩
    (conv => whnf); repeat ((first | (refine And.intro ?_ ?_; (focus ((repeat' (first | exact trivial | refine And.intro rfl ?_)); done))) | (refine And.intro ?_ ?_; (focus (first | omega | (dsimp -iota only; omega) | (simp -iota; omega) | (simp -iota; done) | decide)))); conv => whnf)
    refine ⟨_, _, Ent.mk' (e' := [(0, .tup [AV.int .u64 (f.createN c.s), AV.int .i64 (f.createE c.s)])]) (H' := one (f.create c.s).RH) [some 0] (by kernel_rfl) ?_ ?_, (), rfl, rfl⟩
    · exact ⟨AVE.refl _, trivial⟩
    · (repeat' first | exact trivial | refine ⟨⟨_, rfl, ChE.refl _⟩, ?_⟩)
  · (conv => whnf); repeat ((first | (refine And.intro ?_ ?_; (focus ((repeat' (first | exact trivial | refine And.intro rfl ?_)); done))) | (refine And.intro ?_ ?_; (focus (first | omega | (dsimp -iota only; omega) | (simp -iota; omega) | (simp -iota; done) | decide)))); conv => whnf)
    refine branchB_of (fun g1 => ?_) (fun g1 => ?_) <;> (first | replace g1 := not_t g1 | replace g1 := not_f g1 | skip) <;> (first | replace g1 := of_decide_eq_true g1 | replace g1 := of_decide_eq_false g1 | skip) <;> (first | replace g1 := Classical.not_not.1 g1 | skip) <;> (try dsimp only at g1)
    · obtain ⟨e1, e2, e3⟩ := mkc (.inr (.inl g1))
      rw [e1, e2, e3]
      (conv => whnf); repeat ((first | (refine And.intro ?_ ?_; (focus ((repeat' (first | exact trivial | refine And.intro rfl ?_)); done))) | (refine And.intro ?_ ?_; (focus (first | omega | (dsimp -iota only; omega) | (simp -iota; omega) | (simp -iota; done) | decide)))); conv => whnf)
      refine ACall.hent (HEnt.close [0, 1] 0 f.RH ?_ ?_) ?_
      · kernel_rfl
      · repeat' first | exact trivial | refine ⟨rfl, ?_⟩
      refine AFn.use [0] (rcreate_ok f hl hla hin c.s) (by kernel_rfl) rfl (by repeat' first | exact trivial | refine ⟨rfl, ?_⟩) fun _ => ?_
      refine ⟨_, HEnt.refl _, ?_⟩
      (conv => whnf); repeat ((first | (refine And.intro ?_ ?_; (focus ((repeat' (first | exact trivial | refine And.intro rfl ?_)); done))) | (refine And.intro ?_ ?_; (focus (first | omega | (dsimp -iota only; omega) | (simp -iota; omega) | (simp -iota; done) | decide)))); conv => whnf)
      refine ⟨_, _, Ent.mk' (e' := [(0, .tup [AV.int .u64 (f.createN c.s), AV.int .i64 (f.createE c.s)])]) (H' := one (f.create c.s).RH) [some 0] (by kernel_rfl) ?_ ?_, (), rfl, rfl⟩
      · exact ⟨AVE.refl _, trivial⟩
      · (repeat' first | exact trivial | refine ⟨⟨_, rfl, ChE.refl _⟩, ?_⟩)
    · (conv => whnf); repeat ((first | (refine And.intro ?_ ?_; (focus ((repeat' (first | exact trivial | refine And.intro rfl ?_)); done))) | (refine And.intro ?_ ?_; (focus (first | omega | (dsimp -iota only; omega) | (simp -iota; omega) | (simp -iota; done) | decide)))); conv => whnf)
      refine branchB_of (fun g2 => ?_) (fun g2 => ?_) <;> (first | replace g2 := not_t g2 | replace g2 := not_f g2 | skip) <;> (first | replace g2 := of_decide_eq_true g2 | replace g2 := of_decide_eq_false g2 | skip) <;> (first | replace g2 := Classical.not_not.1 g2 | skip) <;> (try dsimp only at g2)
      · obtain ⟨e1, e2, e3⟩ := mkc (.inr (.inr g2))
        rw [e1, e2, e3]
        (conv => whnf); repeat ((first | (refine And.intro ?_ ?_; (focus ((repeat' (first | exact trivial | refine And.intro rfl ?_)); done))) | (refine And.intro ?_ ?_; (focus (first | omega | (dsimp -iota only; omega) | (simp -iota; omega) | (simp -iota; done) | decide)))); conv => whnf)
        refine ACall.hent (HEnt.close [0, 1] 0 f.RH ?_ ?_) ?_
        · kernel_rfl
        · repeat' first | exact trivial | refine ⟨rfl, ?_⟩
        refine AFn.use [0] (rcreate_ok f hl hla hin c.s) (by kernel_rfl) rfl (by repeat' first | exact trivial | refine ⟨rfl, ?_⟩) fun _ => ?_
        refine ⟨_, HEnt.refl _, ?_⟩
        (conv => whnf); repeat ((first | (refine And.intro ?_ ?_; (focus ((repeat' (first | exact trivial | refine And.intro rfl ?_)); done))) | (refine And.intro ?_ ?_; (focus (first | omega | (dsimp -iota only; omega) | (simp -iota; omega) | (simp -iota; done) | decide)))); conv => whnf)
        refine ⟨_, _, Ent.mk' (e' := [(0, .tup [AV.int .u64 (f.createN c.s), AV.int .i64 (f.createE c.s)])]) (H' := one (f.create c.s).RH) [some 0] (by kernel_rfl) ?_ ?_, (), rfl, rfl⟩
        · exact ⟨AVE.refl _, trivial⟩
        · (repeat' first | exact trivial | refine ⟨⟨_, rfl, ChE.refl _⟩, ?_⟩)
      · have gm : ¬ isMk c.w := fun h => by rcases h with h | h | h <;> contradiction
        have e1 : f.doesN c = 0 := if_neg gm
        rw [e1]
        (conv => whnf); repeat ((first | (refine And.intro ?_ ?_; (focus ((repeat' (first | exact trivial | refine And.intro rfl ?_)); done))) | (refine And.intro ?_ ?_; (focus (first | omega | (dsimp -iota only; omega) | (simp -iota; omega) | (simp -iota; done) | decide)))); conv => whnf)
        refine branchB_of (fun g3 => ?_) (fun g3 => ?_) <;> (first | replace g3 := not_t g3 | replace g3 := not_f g3 | skip) <;> (first | replace g3 := of_decide_eq_true g3 | replace g3 := of_decide_eq_false g3 | skip) <;> (first | replace g3 := Classical.not_not.1 g3 | skip) <;> (try dsimp only at g3)
        · have e2 : f.doesE c = f.renE c.s c.t := by unfold FD.doesE; rw [if_neg gm, if_pos g3]
          have e3 : f.does c = f.ren c.s c.t := by unfold FD.does; rw [if_neg gm, if_pos g3]
          rw [e2, e3]
          (conv => whnf); repeat ((first | (refine And.intro ?_ ?_; (focus ((repeat' (first | exact trivial | refine And.intro rfl ?_)); done))) | (refine And.intro ?_ ?_; (focus (first | omega | (dsimp -iota only; omega) | (simp -iota; omega) | (simp -iota; done) | decide)))); conv => whnf)
          refine ACall.hent (HEnt.close [0, 1] 0 f.RH ?_ ?_) ?_
          · kernel_rfl
          · repeat' first | exact trivial | refine ⟨rfl, ?_⟩
          refine AFn.use [0] (rrename_ok f hl hin c.s c.t) (by kernel_rfl) rfl (by repeat' first | exact trivial | refine ⟨rfl, ?_⟩) fun _ => ?_
          refine ⟨_, HEnt.refl _, ?_⟩
          (conv => whnf); repeat ((first | (refine And.intro ?_ ?_; (focus ((repeat' (first | exact trivial | refine And.intro rfl ?_)); done))) | (refine And.intro ?_ ?_; (focus (first | omega | (dsimp -iota only; omega) | (simp -iota; omega) | (simp -iota; done) | decide)))); conv => whnf)
          refine ⟨_, _, Ent.mk' (e' := [(0, .tup [AV.int .u64 0, AV.int .i64 (f.renE c.s c.t)])]) (H' := one (f.ren c.s c.t).RH) [some 0] (by kernel_rfl) ?_ ?_, (), rfl, rfl⟩
          · exact ⟨AVE.refl _, trivial⟩
          · (repeat' first | exact trivial | refine ⟨⟨_, rfl, ChE.refl _⟩, ?_⟩)
        · (conv => whnf); repeat ((first | (refine And.intro ?_ ?_; (focus ((repeat' (first | exact trivial | refine And.intro rfl ?_)); done))) | (refine And.intro ?_ ?_; (focus (first | omega | (dsimp -iota only; omega) | (simp -iota; omega) | (simp -iota; done) | decide)))); conv => whnf)
          refine branchB_of (fun g4 => ?_) (fun g4 => ?_) <;> (first | replace g4 := not_t g4 | replace g4 := not_f g4 | skip) <;> (first | replace g4 := of_decide_eq_true g4 | replace g4 := of_decide_eq_false g4 | skip) <;> (first | replace g4 := Classical.not_not.1 g4 | skip) <;> (try dsimp only at g4)
          · have e2 : f.doesE c = f.remE c.s := by unfold FD.doesE; rw [if_neg gm, if_neg g3, if_pos g4]
            have e3 : f.does c = f.rem c.s := by unfold FD.does; rw [if_neg gm, if_neg g3, if_pos g4]
            rw [e2, e3]
            (conv => whnf); repeat ((first | (refine And.intro ?_ ?_; (focus ((repeat' (first | exact trivial | refine And.intro rfl ?_)); done))) | (refine And.intro ?_ ?_; (focus (first | omega | (dsimp -iota only; omega) | (simp -iota; omega) | (simp -iota; done) | decide)))); conv => whnf)
            refine ACall.hent (HEnt.close [0, 1] 0 f.RH ?_ ?_) ?_
            · kernel_rfl
            · repeat' first | exact trivial | refine ⟨rfl, ?_⟩
            refine AFn.use [0] (rremove_ok f hl hin c.s) (by kernel_rfl) rfl (by repeat' first | exact trivial | refine ⟨rfl, ?_⟩) fun _ => ?_
            refine ⟨_, HEnt.refl _, ?_⟩
            (conv => whnf); repeat ((first | (refine And.intro ?_ ?_; (focus ((repeat' (first | exact trivial | refine And.intro rfl ?_)); done))) | (refine And.intro ?_ ?_; (focus (first | omega | (dsimp -iota only; omega) | (simp -iota; omega) | (simp -iota; done) | decide)))); conv => whnf)
            refine ⟨_, _, Ent.mk' (e' := [(0, .tup [AV.int .u64 0, AV.int .i64 (f.remE c.s)])]) (H' := one (f.rem c.s).RH) [some 0] (by kernel_rfl) ?_ ?_, (), rfl, rfl⟩
            · exact ⟨AVE.refl _, trivial⟩
            · (repeat' first | exact trivial | refine ⟨⟨_, rfl, ChE.refl _⟩, ?_⟩)
          · have e2 : f.doesE c = 0 := by unfold FD.doesE; rw [if_neg gm, if_neg g3, if_neg g4]
            rw [e2]
            (conv => whnf); repeat ((first | (refine And.intro ?_ ?_; (focus ((repeat' (first | exact trivial | refine And.intro rfl ?_)); done))) | (refine And.intro ?_ ?_; (focus (first | omega | (dsimp -iota only; omega) | (simp -iota; omega) | (simp -iota; done) | decide)))); conv => whnf)
            refine branchB_of (fun g5 => ?_) (fun g5 => ?_) <;> (first | replace g5 := not_t g5 | replace g5 := not_f g5 | skip) <;> (first | replace g5 := of_decide_eq_true g5 | replace g5 := of_decide_eq_false g5 | skip) <;> (first | replace g5 := Classical.not_not.1 g5 | skip) <;> (try dsimp only at g5)
            · have e3 : f.does c = f.crash ((f.ds.length + 1 : Nat) : Int) := by unfold FD.does; rw [if_neg gm, if_neg g3, if_neg g4, if_pos g5, hsy]
              rw [e3]
              (conv => whnf); repeat ((first | (refine And.intro ?_ ?_; (focus ((repeat' (first | exact trivial | refine And.intro rfl ?_)); done))) | (refine And.intro ?_ ?_; (focus (first | omega | (dsimp -iota only; omega) | (simp -iota; omega) | (simp -iota; done) | decide)))); conv => whnf)
              refine ACall.hent (HEnt.close [0, 1] 0 f.RH ?_ ?_) ?_
              · kernel_rfl
              · repeat' first | exact trivial | refine ⟨rfl, ?_⟩
              refine AFn.use [0] (rcrash_ok f hl ((f.ds.length + 1 : Nat) : Int)) (by kernel_rfl) rfl (by repeat' first | exact trivial | refine ⟨rfl, ?_⟩) fun _ => ?_
              refine ⟨_, HEnt.refl _, ?_⟩
              (conv => whnf); repeat ((first | (refine And.intro ?_ ?_; (focus ((repeat' (first | exact trivial | refine And.intro rfl ?_)); done))) | (refine And.intro ?_ ?_; (focus (first | omega | (dsimp -iota only; omega) | (simp -iota; omega) | (simp -iota; done) | decide)))); conv => whnf)
              refine ⟨_, _, Ent.mk' (e' := [(0, .tup [AV.int .u64 0, AV.int .i64 0])]) (H' := one (f.crash ((f.ds.length + 1 : Nat) : Int)).RH) [some 0] (by kernel_rfl) ?_ ?_, (), rfl, rfl⟩
              · exact ⟨AVE.refl _, trivial⟩
              · (repeat' first | exact trivial | refine ⟨⟨_, rfl, ChE.refl _⟩, ?_⟩)
            · (conv => whnf); repeat ((first | (refine And.intro ?_ ?_; (focus ((repeat' (first | exact trivial | refine And.intro rfl ?_)); done))) | (refine And.intro ?_ ?_; (focus (first | omega | (dsimp -iota only; omega) | (simp -iota; omega) | (simp -iota; done) | decide)))); conv => whnf)
              refine branchB_of (fun g6 => ?_) (fun g6 => ?_) <;> (first | replace g6 := not_t g6 | replace g6 := not_f g6 | skip) <;> (first | replace g6 := of_decide_eq_true g6 | replace g6 := of_decide_eq_false g6 | skip) <;> (first | replace g6 := Classical.not_not.1 g6 | skip) <;> (try dsimp only at g6)
              · have e3 : f.does c = f.crash c.k := by unfold FD.does; rw [if_neg gm, if_neg g3, if_neg g4, if_neg g5, if_pos g6]
                rw [e3]
                (conv => whnf); repeat ((first | (refine And.intro ?_ ?_; (focus ((repeat' (first | exact trivial | refine And.intro rfl ?_)); done))) | (refine And.intro ?_ ?_; (focus (first | omega | (dsimp -iota only; omega) | (simp -iota; omega) | (simp -iota; done) | decide)))); conv => whnf)
                refine ACall.hent (HEnt.close [0, 1] 0 f.RH ?_ ?_) ?_
                · kernel_rfl
                · repeat' first | exact trivial | refine ⟨rfl, ?_⟩
                refine AFn.use [0] (rcrash_ok f hl c.k) (by kernel_rfl) rfl (by repeat' first | exact trivial | refine ⟨rfl, ?_⟩) fun _ => ?_
                refine ⟨_, HEnt.refl _, ?_⟩
                (conv => whnf); repeat ((first | (refine And.intro ?_ ?_; (focus ((repeat' (first | exact trivial | refine And.intro rfl ?_)); done))) | (refine And.intro ?_ ?_; (focus (first | omega | (dsimp -iota only; omega) | (simp -iota; omega) | (simp -iota; done) | decide)))); conv => whnf)
                refine ⟨_, _, Ent.mk' (e' := [(0, .tup [AV.int .u64 0, AV.int .i64 0])]) (H' := one (f.crash c.k).RH) [some 0] (by kernel_rfl) ?_ ?_, (), rfl, rfl⟩
                · exact ⟨AVE.refl _, trivial⟩
                · (repeat' first | exact trivial | refine ⟨⟨_, rfl, ChE.refl _⟩, ?_⟩)
              · have e3 : f.does c = f := by unfold FD.does; rw [if_neg gm, if_neg g3, if_neg g4, if_neg g5, if_neg g6]
                rw [e3]
                (conv => whnf); repeat ((first | (refine And.intro ?_ ?_; (focus ((repeat' (first | exact trivial | refine And.intro rfl ?_)); done))) | (refine And.intro ?_ ?_; (focus (first | omega | (dsimp -iota only; omega) | (simp -iota; omega) | (simp -iota; done) | decide)))); conv => whnf)
                refine ⟨_, _, Ent.shutAt (r2 := .tup [AV.int .u64 0, AV.int .i64 0]) [some 0, some 1] (f.RH) rfl (by kernel_rfl) (AVE.of_eq ?_) ?_ (by kernel_rfl) (by kernel_rfl) (by repeat' first | exact trivial | refine ⟨rfl, ?_⟩) rfl, (), ?_, ?_⟩
                all_goals first | rfl | (repeat' first | exact trivial | refine ⟨⟨_, rfl, ChE.refl _⟩, ?_⟩)
end
end Go.Proofs.Yteeifedpabcehaa.Ax

namespace Go.Proofs.Yteeifedpabcehaa.Ax
open Go.RowKit Go.Sort
set_option maxRecDepth 100000
def liU (f : FD) (n : Nat) : List Nat := ((List.range n).map (· + 1)).filter fun a => decide (a ∈ f.live)
theorem liU_in {f : FD} {n : Nat} (h : n + 1 ∈ f.live) : liU f (n + 1) = liU f n ++ [n + 1] := by
  unfold liU
  rw [List.range_succ, List.map_append, List.filter_append]
  simp [h]
theorem liU_out {f : FD} {n : Nat} (h : n + 1 ∉ f.live) : liU f (n + 1) = liU f n := by
  unfold liU
  rw [List.range_succ, List.map_append, List.filter_append]
  simp [h]
theorem liU_len (f : FD) (n : Nat) : (liU f n).length ≤ n := by
  refine Nat.le_trans (List.length_filter_le _ _) ?_
  simp
theorem live_pos {f : FD} {n : Nat} (h : f.In (IOk f.last n)) : ∀ x ∈ f.live, 1 ≤ x := fun x hx => by
  obtain ⟨k, hk, hx⟩ := live_mem.1 hx
  obtain ⟨p, hp, rfl⟩ := List.mem_map.1 hx
  exact ((h.all k hk).rng p hp).1
theorem liU_all {f : FD} {n : Nat} (h : f.In (IOk f.last n)) : liU f f.last = f.live := by
  refine ext_lt (r := fun a b : Nat => a < b) (fun a => Nat.lt_irrefl a) (fun _ _ _ => Nat.lt_trans) ?_ (live_lt f) fun x => ?_
  · refine List.Pairwise.filter _ (List.Pairwise.map _ (fun a b hab => ?_) List.pairwise_lt_range)
    omega
  · unfold liU
    rw [List.mem_filter, decide_eq_true_eq, List.mem_map]
    constructor
    · exact fun hx => hx.2
    · intro hx
      have h1 := live_pos h x hx
      have h2 := live_rng h x hx
      exact ⟨⟨x - 1, by simp; omega, by omega⟩, hx⟩
def hasN (n : Nat) (L : List EN) : Bool := L.any fun p => decide (p.2 = n)
def seenN (f : FD) (n i : Nat) : Bool := (List.range i).any fun k => hasN n (sts f k)
theorem seenN_next (f : FD) (n i : Nat) : seenN f n (i + 1) = (seenN f n i || hasN n (sts f i)) := by
  unfold seenN
  rw [List.range_succ]
  simp
theorem hasN_snoc (n : Nat) (L : List EN) (p : EN) : hasN n (L ++ [p]) = (hasN n L || decide (p.2 = n)) := by simp [hasN]
theorem seenN_all {f : FD} (hin : f.In NOk) (n : Nat) : seenN f n (f.ds.length + 1) = decide (n ∈ f.live) := by
  rw [Bool.eq_iff_iff]
  unfold seenN hasN
  rw [List.any_eq_true, decide_eq_true_eq, live_mem]
  constructor
  · rintro ⟨k, hk, h⟩
    obtain ⟨p, hp, he⟩ := List.any_eq_true.1 h
    rw [decide_eq_true_eq] at he
    have hk' : k ≤ f.ds.length := by simp at hk; omega
    exact ⟨k, hk', he ▸ List.mem_map_of_mem ((lsN_mem (hin.all k hk').nd).1 hp)⟩
  · rintro ⟨k, hk, h⟩
    obtain ⟨p, hp, he⟩ := List.mem_map.1 h
    exact ⟨k, by simp; omega, List.any_eq_true.2 ⟨p, (lsN_mem (hin.all k hk).nd).2 hp, decide_eq_true he⟩⟩
section
variable (f : FD)
theorem rlive_in (hl : f.ds.length ≤ 900) (hla : f.last ≤ 1000) {m : Nat} (hi : f.In (IOk f.last m)) (hm : m ≤ 1000) : AFn Go.Proofs.Try.prog 24 [.ptr 0 0] f.RH (fun _ : Unit => .iv (.sl 1 f.live.length (uF f.live.toArray))) (fun _ => f.RH) := by
  have hin : f.In NOk := hi.mono fun m' h => h.nok hm
  refine ACall.fin ?_
  refine ACall.walk (C := cfg 56 2) (cfgOk _ _) [] (fn := Go.Proofs.Try.f24) (by kernel_rfl) (by kernel_rfl) rfl (by kernel_rfl) (by kernel_rfl) rfl rfl ?_
  (conv => whnf); repeat ((first | (refine And.intro ?_ ?_; (focus ((repeat' (first | exact trivial | refine And.intro rfl ?_)); done))) | (refine And.intro ?_ ?_; (focus (first | omega | (dsimp -iota only; omega) | (simp -iota; omega) | (simp -iota; done) | decide)))); conv => whnf)
  refine AWP.loop (X := { y : Nat // y ≤ f.last }) (fun y => [(0, .ptr 0 0), (3, .row 2 1 0 (liU f y.1).length), (4, AV.int .u64 (y.1 + 1 : Nat))]) (fun y => ⟨3, f.RH.ch ++ [(2, .rowc 25 1 (liU f y.1).length (uF (liU f y.1).toArray))]⟩) (fun y => f.last - y.1) (⟨0, Nat.zero_le _⟩) ?_ fun y => AWP.go (S := []) (cfgOk _ _) (.of_eq (by kernel_rfl)) ?_
  · exact Ent.mk' [some 0, some 1, none] (by kernel_rfl) ⟨AVE.refl _, AVE.nil _ _, AVE.refl _, trivial⟩ ⟨⟨_, rfl, ChE.refl _⟩, ⟨_, rfl, ChE.refl _⟩, trivial, trivial⟩
  · obtain ⟨y, hy⟩ := y
    have hul := liU_len f y
    (conv => whnf); repeat ((first | (refine And.intro ?_ ?_; (focus ((repeat' (first | exact trivial | refine And.intro rfl ?_)); done))) | (refine And.intro ?_ ?_; (focus (first | omega | (dsimp -iota only; omega) | (simp -iota; omega) | (simp -iota; done) | decide)))); conv => whnf)
    refine branchB_of (fun h => ?_) (fun h => ?_) <;> (first | replace h := not_t h | replace h := not_f h | skip) <;> (first | replace h := of_decide_eq_true h | replace h := of_decide_eq_false h | skip) <;> (first | replace h := Classical.not_not.1 h | skip) <;> (try dsimp only at h)
    · have hyl : y + 1 ≤ f.last := by omega
      (conv => whnf); repeat ((first | (refine And.intro ?_ ?_; (focus ((repeat' (first | exact trivial | refine And.intro rfl ?_)); done))) | (refine And.intro ?_ ?_; (focus (first | omega | (dsimp -iota only; omega) | (simp -iota; omega) | (simp -iota; done) | decide)))); conv => whnf)
      refine AWP.loop (X := { i : Nat // i ≤ f.ds.length + 1 }) (fun i => [(0, .ptr 0 0), (3, .row 2 1 0 (liU f y).length), (4, AV.int .u64 (y + 1 : Nat)), (5, AV.bool (seenN f (y + 1) i.1)), (6, AV.int .i64 i.1)]) (fun i => ⟨3, f.RH.ch ++ [(2, .rowc 25 1 (liU f y).length (uF (liU f y).toArray))]⟩) (fun i => f.ds.length + 1 - i.1) (⟨0, Nat.zero_le _⟩) ?_ fun i => AWP.go (S := []) (cfgOk _ _) (.of_eq (by kernel_rfl)) ?_
      · exact Ent.mk' [some 0, some 1, some 2] (by kernel_rfl) (by repeat' first | exact trivial | refine And.intro (AVE.refl _) ?_ | refine And.intro (AVE.int (by first | rfl | omega | (dsimp only; omega) | (simp -iota; omega) | (simp -iota; done))) ?_ | refine And.intro (AVE.bool (by assumption)) ?_ | refine And.intro (AVE.len (by first | rfl | omega | (dsimp only; omega) | (simp -iota; omega) | (simp -iota; done))) ?_) (by repeat' (first | exact trivial | refine ⟨⟨_, rfl, ChE.refl _⟩, ?_⟩))
      · obtain ⟨i, hi'⟩ := i
        (conv => whnf); repeat ((first | (refine And.intro ?_ ?_; (focus ((repeat' (first | exact trivial | refine And.intro rfl ?_)); done))) | (refine And.intro ?_ ?_; (focus (first | omega | (dsimp -iota only; omega) | (simp -iota; omega) | (simp -iota; done) | decide)))); conv => whnf)
        refine branchB_of (fun h2 => ?_) (fun h2 => ?_) <;> (first | replace h2 := not_t h2 | replace h2 := not_f h2 | skip) <;> (first | replace h2 := of_decide_eq_true h2 | replace h2 := of_decide_eq_false h2 | skip) <;> (first | replace h2 := Classical.not_not.1 h2 | skip) <;> (try dsimp only at h2)
        · have hil : i ≤ f.ds.length := by omega
          have ix : 0 + ((i : Nat) : Int).toNat = i := by omega
          have hsl := sts_len hi hil
          have hnx := seenN_next f (y + 1) i
          (conv => whnf); repeat ((first | (refine And.intro ?_ ?_; (focus ((repeat' (first | exact trivial | refine And.intro rfl ?_)); done))) | (refine And.intro ?_ ?_; (focus (first | omega | (dsimp -iota only; omega) | (simp -iota; omega) | (simp -iota; done) | decide)))); conv => whnf)
          refine AWP.loop (X := { j : Nat // j ≤ (sts f i).length }) (fun j => [(0, .ptr 0 0), (3, .row 2 1 0 (liU f y).length), (4, AV.int .u64 (y + 1 : Nat)), (5, AV.bool (seenN f (y + 1) i || hasN (y + 1) ((sts f i).take j.1))), (6, AV.int .i64 i), (7, AV.int .i64 j.1)]) (fun j => ⟨3, f.RH.ch ++ [(2, .rowc 25 1 (liU f y).length (uF (liU f y).toArray))]⟩) (fun j => (sts f i).length - j.1) (⟨0, Nat.zero_le _⟩) ?_ fun j => AWP.go (S := []) (cfgOk _ _) (.of_eq (by kernel_rfl)) ?_
          · have e0 : seenN f (y + 1) i = (seenN f (y + 1) i || hasN (y + 1) ((sts f i).take 0)) := by simp [hasN]
            exact Ent.mk' [some 0, some 1, some 2] (by kernel_rfl) (by repeat' first | exact trivial | refine And.intro (AVE.refl _) ?_ | refine And.intro (AVE.int (by first | rfl | omega | (dsimp only; omega) | (simp -iota; omega) | (simp -iota; done))) ?_ | refine And.intro (AVE.bool (by assumption)) ?_ | refine And.intro (AVE.len (by first | rfl | omega | (dsimp only; omega) | (simp -iota; omega) | (simp -iota; done))) ?_) (by repeat' (first | exact trivial | refine ⟨⟨_, rfl, ChE.refl _⟩, ?_⟩))
          · obtain ⟨j, hj⟩ := j
            have jx : ((j : Nat) : Int).toNat = j := by simp
            (conv => whnf); repeat ((first | (refine And.intro ?_ ?_; (focus ((repeat' (first | exact trivial | refine And.intro rfl ?_)); done))) | (refine And.intro ?_ ?_; (focus (first | omega | (dsimp -iota only; omega) | (simp -iota; omega) | (simp -iota; done) | decide)))); conv => whnf)
            rw [ix]
            refine branchB_of (fun h3 => ?_) (fun h3 => ?_) <;> (first | replace h3 := not_t h3 | replace h3 := not_f h3 | skip) <;> (first | replace h3 := of_decide_eq_true h3 | replace h3 := of_decide_eq_false h3 | skip) <;> (first | replace h3 := Classical.not_not.1 h3 | skip) <;> (try dsimp only at h3)
            · have hjl : j < (sts f i).length := by omega
              have e0 : (sts f i).getD ((j : Nat) : Int).toNat ([], 0) = (sts f i)[j] := by rw [jx]; simp [List.getD, hjl]
              have e1 : (sts f i).take (j + 1) = (sts f i).take j ++ [(sts f i)[j]] := List.take_succ_eq_append_getElem hjl
              have e2 := hasN_snoc (y + 1) ((sts f i).take j) (sts f i)[j]
              rw [← e1] at e2
              (conv => whnf); repeat ((first | (refine And.intro ?_ ?_; (focus ((repeat' (first | exact trivial | refine And.intro rfl ?_)); done))) | (refine And.intro ?_ ?_; (focus (first | omega | (dsimp -iota only; omega) | (simp -iota; omega) | (simp -iota; done) | decide)))); conv => whnf)
              rw [ix, e0]
              refine branchB_of (fun h4 => ?_) (fun h4 => ?_) <;> (first | replace h4 := not_t h4 | replace h4 := not_f h4 | skip) <;> (first | replace h4 := of_decide_eq_true h4 | replace h4 := of_decide_eq_false h4 | skip) <;> (first | replace h4 := Classical.not_not.1 h4 | skip) <;> (try dsimp only at h4)
              · have e3 : true = (seenN f (y + 1) i || hasN (y + 1) ((sts f i).take (j + 1))) := by rw [e2, decide_eq_true (by omega)]; simp
                (conv => whnf); repeat ((first | (refine And.intro ?_ ?_; (focus ((repeat' (first | exact trivial | refine And.intro rfl ?_)); done))) | (refine And.intro ?_ ?_; (focus (first | omega | (dsimp -iota only; omega) | (simp -iota; omega) | (simp -iota; done) | decide)))); conv => whnf)
                refine ⟨⟨j + 1, by omega⟩, Ent.mk' [some 0, some 1, some 2] (by kernel_rfl) (by repeat' first | exact trivial | refine And.intro (AVE.refl _) ?_ | refine And.intro (AVE.int (by first | rfl | omega | (dsimp only; omega) | (simp -iota; omega) | (simp -iota; done))) ?_ | refine And.intro (AVE.bool (by assumption)) ?_ | refine And.intro (AVE.len (by first | rfl | omega | (dsimp only; omega) | (simp -iota; omega) | (simp -iota; done))) ?_) (by repeat' (first | exact trivial | refine ⟨⟨_, rfl, ChE.refl _⟩, ?_⟩)), ?_⟩
                show (sts f i).length - (j + 1) < (sts f i).length - j
                omega
              · have e3 : (seenN f (y + 1) i || hasN (y + 1) ((sts f i).take j)) = (seenN f (y + 1) i || hasN (y + 1) ((sts f i).take (j + 1))) := by rw [e2, decide_eq_false (by omega)]; simp
                (conv => whnf); repeat ((first | (refine And.intro ?_ ?_; (focus ((repeat' (first | exact trivial | refine And.intro rfl ?_)); done))) | (refine And.intro ?_ ?_; (focus (first | omega | (dsimp -iota only; omega) | (simp -iota; omega) | (simp -iota; done) | decide)))); conv => whnf)
                refine ⟨⟨j + 1, by omega⟩, Ent.mk' [some 0, some 1, some 2] (by kernel_rfl) (by repeat' first | exact trivial | refine And.intro (AVE.refl _) ?_ | refine And.intro (AVE.int (by first | rfl | omega | (dsimp only; omega) | (simp -iota; omega) | (simp -iota; done))) ?_ | refine And.intro (AVE.bool (by assumption)) ?_ | refine And.intro (AVE.len (by first | rfl | omega | (dsimp only; omega) | (simp -iota; omega) | (simp -iota; done))) ?_) (by repeat' (first | exact trivial | refine ⟨⟨_, rfl, ChE.refl _⟩, ?_⟩)), ?_⟩
                show (sts f i).length - (j + 1) < (sts f i).length - j
                omega
            · have hall : (sts f i).take j = sts f i := List.take_of_length_le (by omega)
              have e3 : (seenN f (y + 1) i || hasN (y + 1) ((sts f i).take j)) = seenN f (y + 1) (i + 1) := by rw [hall, hnx]
              (conv => whnf); repeat ((first | (refine And.intro ?_ ?_; (focus ((repeat' (first | exact trivial | refine And.intro rfl ?_)); done))) | (refine And.intro ?_ ?_; (focus (first | omega | (dsimp -iota only; omega) | (simp -iota; omega) | (simp -iota; done) | decide)))); conv => whnf)
              refine ⟨⟨i + 1, by omega⟩, Ent.mk' [some 0, some 1, some 2] (by kernel_rfl) (by repeat' first | exact trivial | refine And.intro (AVE.refl _) ?_ | refine And.intro (AVE.int (by first | rfl | omega | (dsimp only; omega) | (simp -iota; omega) | (simp -iota; done))) ?_ | refine And.intro (AVE.bool (by assumption)) ?_ | refine And.intro (AVE.len (by first | rfl | omega | (dsimp only; omega) | (simp -iota; omega) | (simp -iota; done))) ?_) (by repeat' (first | exact trivial | refine ⟨⟨_, rfl, ChE.refl _⟩, ?_⟩)), ?_⟩
              show f.ds.length + 1 - (i + 1) < f.ds.length + 1 - i
              omega
        · have hie : i = f.ds.length + 1 := by omega
          have hs := seenN_all hin (y + 1)
          rw [← hie] at hs
          (conv => whnf); repeat ((first | (refine And.intro ?_ ?_; (focus ((repeat' (first | exact trivial | refine And.intro rfl ?_)); done))) | (refine And.intro ?_ ?_; (focus (first | omega | (dsimp -iota only; omega) | (simp -iota; omega) | (simp -iota; done) | decide)))); conv => whnf)
          rw [hs]
          refine branchB_of (fun h5 => ?_) (fun h5 => ?_) <;> (first | replace h5 := not_t h5 | replace h5 := not_f h5 | skip) <;> (first | replace h5 := of_decide_eq_true h5 | replace h5 := of_decide_eq_false h5 | skip) <;> (first | replace h5 := Classical.not_not.1 h5 | skip) <;> (try dsimp only at h5)
          · have e2 := liU_in (f := f) (n := y) h5
            have e3 : (liU f (y + 1)).length = (liU f y).length + 1 := by rw [e2]; simp
            (conv => whnf); repeat ((first | (refine And.intro ?_ ?_; (focus ((repeat' (first | exact trivial | refine And.intro rfl ?_)); done))) | (refine And.intro ?_ ?_; (focus (first | omega | (dsimp -iota only; omega) | (simp -iota; omega) | (simp -iota; done) | decide)))); conv => whnf)
            refine ⟨⟨y + 1, by omega⟩, Ent.mk' [some 0, some 1, some 4] (by kernel_rfl) (by repeat' first | exact trivial | refine And.intro (AVE.refl _) ?_ | refine And.intro (AVE.int (by first | rfl | omega | (dsimp only; omega) | (simp -iota; omega) | (simp -iota; done))) ?_ | refine And.intro (AVE.bool (by assumption)) ?_ | refine And.intro (AVE.len (by first | rfl | omega | (dsimp only; omega) | (simp -iota; omega) | (simp -iota; done))) ?_) ?_, ?_⟩
            · refine ⟨⟨_, rfl, ChE.refl _⟩, ⟨_, rfl, ChE.refl _⟩, ⟨_, rfl, ?_⟩, trivial⟩
              show ChE _ (.rowc _ 1 (liU f (y + 1)).length (uF (liU f (y + 1)).toArray))
              have hp := uF_push (D := (liU f y).toArray) (n := (liU f y).length) (x := y + 1) (g := fun _ => [un (y + 1)]) rfl rfl
              have ea : (liU f y).toArray.push (y + 1) = (liU f y ++ [y + 1]).toArray := by simp
              have es : ((liU f y ++ [y + 1]).toArray).size = (liU f y ++ [y + 1]).length := by simp
              rw [ea, es] at hp
              rw [e2]
              exact hp
            · show f.last - (y + 1) < f.last - y
              omega
          · have e2 := liU_out (f := f) (n := y) h5
            have e3 : (liU f (y + 1)).length = (liU f y).length := by rw [e2]
            (conv => whnf); repeat ((first | (refine And.intro ?_ ?_; (focus ((repeat' (first | exact trivial | refine And.intro rfl ?_)); done))) | (refine And.intro ?_ ?_; (focus (first | omega | (dsimp -iota only; omega) | (simp -iota; omega) | (simp -iota; done) | decide)))); conv => whnf)
            refine ⟨⟨y + 1, by omega⟩, Ent.mk' [some 0, some 1, some 2] (by kernel_rfl) (by repeat' first | exact trivial | refine And.intro (AVE.refl _) ?_ | refine And.intro (AVE.int (by first | rfl | omega | (dsimp only; omega) | (simp -iota; omega) | (simp -iota; done))) ?_ | refine And.intro (AVE.bool (by assumption)) ?_ | refine And.intro (AVE.len (by first | rfl | omega | (dsimp only; omega) | (simp -iota; omega) | (simp -iota; done))) ?_) ?_, ?_⟩
            · refine ⟨⟨_, rfl, ChE.refl _⟩, ⟨_, rfl, ChE.refl _⟩, ⟨_, rfl, ?_⟩, trivial⟩
              show ChE _ (.rowc _ 1 (liU f (y + 1)).length (uF (liU f (y + 1)).toArray))
              rw [e2]
              exact ChE.refl _
            · show f.last - (y + 1) < f.last - y
              omega
    · have hye : y = f.last := by omega
      have hall := liU_all hi
      subst hye
      rw [hall]
      (conv => whnf); repeat ((first | (refine And.intro ?_ ?_; (focus ((repeat' (first | exact trivial | refine And.intro rfl ?_)); done))) | (refine And.intro ?_ ?_; (focus (first | omega | (dsimp -iota only; omega) | (simp -iota; omega) | (simp -iota; done) | decide)))); conv => whnf)
      refine ⟨_, _, (Ent.freeze 2 _ rfl rfl (e' := [(0, .iv (.sl 1 f.live.length (uF f.live.toArray)))]) ⟨AVF.sl (Nat.le_refl _), trivial⟩).trans (Ent.mk' (e' := [(0, .iv (.sl 1 f.live.length (uF f.live.toArray)))]) (H' := f.RH) [some 0, some 1] (by kernel_rfl) ⟨AVE.refl _, trivial⟩ ?_), (), rfl, rfl⟩
      (repeat' first | exact trivial | refine ⟨⟨_, rfl, ChE.refl _⟩, ?_⟩)
theorem rlive_ok (hl : f.ds.length ≤ 900) (hla : f.last ≤ 1000) {m : Nat} (hi : f.In (IOk f.last m)) (hm : m ≤ 1000) : AFn Go.Proofs.Try.prog 24 [.ptr 0 0] (one f.RH) (fun _ : Unit => .iv (.sl 1 f.live.length (uF f.live.toArray))) (fun _ => one f.RH) := AFn.shut (rlive_in f hl hla hi hm) rfl rfl (fun _ => ⟨by kernel_rfl, by kernel_rfl⟩) (fun _ => (by repeat' first | exact trivial | refine ⟨rfl, ?_⟩)) (fun _ => rfl)
end
end Go.Proofs.Yteeifedpabcehaa.Ax
