/-
  Chapter 26: ModelSame, the walk.
-/
import Derived.Test.YtaoambbfjdijjaaMg
namespace Go.Proofs.Ytaoambbfjdijjaa.Ax
open Go.RowKit
set_option maxRecDepth 100000
def oth : List UInt8 := [111, 116, 104, 101, 114]
/-- Three models: all calls, writes alone, as many other writes. -/
structure Tri (a b c : MS) : Prop where
  fa : a.Fits
  fb : b.Fits
  fc : c.Fits
  wb : b.ws = a.ws
  bs : b.sn = []
  cw : c.ws = List.replicate a.ws.length ⟨oth, [], true⟩
  cs : c.sn = a.sn
theorem Tri.len {a b c : MS} (h : Tri a b c) : c.ws.length = a.ws.length := by rw [h.cw, List.length_replicate]
theorem del_oth (c : MS) : c.del oth = { c with ws := c.ws ++ [⟨oth, [], true⟩] } := by
  have h : okK oth = true := rfl
  unfold MS.del
  rw [if_pos h]
theorem Tri.write {a b c : MS} (h : Tri a b c) (hn : a.ws.length < 1000) (x : CL) (h0 : 0 ≤ x.what) (h3 : x.what ≤ 3) : b.doesE x = a.doesE x ∧ (a.doesE x = 0 → Tri (a.does x) (b.does x) (c.del oth)) ∧ (a.doesE x ≠ 0 → Tri (a.does x) (b.does x) c) := by
  have e : b.doesE x = a.doesE x := by
    unfold MS.doesE
    split
    · rfl
    · split
      · rfl
      · omega
  refine ⟨e, fun he => ?_, fun he => ?_⟩
  · have fa' := does_fits h.fa hn x
    have fb' := does_fits h.fb (by rw [h.wb]; exact hn) x
    have fc' : (c.del oth).Fits := does_fits h.fc (by rw [h.len]; exact hn) ⟨3, oth, [], [], 0⟩
    have key : ∃ w, a.does x = { a with ws := a.ws ++ [w] } ∧ b.does x = { b with ws := b.ws ++ [w] } := by
      unfold MS.does
      unfold MS.doesE at he
      split
      · rename_i h1
        rw [if_pos h1] at he
        unfold putE at he
        have hk : okK x.k = true := by cases hk : okK x.k <;> simp [hk] at he ⊢
        have hv : okV x.v = true := by cases hv : okV x.v <;> simp [hk, hv] at he ⊢
        exact ⟨⟨x.k, x.v, false⟩, by simp [MS.put, hk, hv], by simp [MS.put, hk, hv]⟩
      · rename_i h1
        rw [if_neg h1] at he
        have h2 : x.what = 3 := by omega
        rw [if_pos h2] at he
        rw [if_pos h2, if_pos h2]
        unfold delE at he
        have hk : okK x.k = true := by cases hk : okK x.k <;> simp [hk] at he ⊢
        exact ⟨⟨x.k, [], true⟩, by simp [MS.del, hk], by simp [MS.del, hk]⟩
    obtain ⟨w, ea, eb⟩ := key
    refine ⟨fa', fb', fc', ?_, ?_, ?_, ?_⟩
    · rw [ea, eb, h.wb]
    · rw [eb]; exact h.bs
    · rw [del_oth, ea, h.cw]; simp [List.replicate_succ']
    · rw [del_oth, ea]; exact h.cs
  · have ea := does_refused a x he
    have eb := does_refused b x (by rw [e]; exact he)
    rw [ea, eb]
    exact h
theorem Tri.other {a b c : MS} (h : Tri a b c) (hn : a.ws.length < 1000) (x : CL) (h0 : ¬ (0 ≤ x.what ∧ x.what ≤ 3)) (h7 : x.what ≠ 7) : c.doesE x = a.doesE x ∧ Tri (a.does x) b (c.does x) := by
  have fa' := does_fits h.fa hn x
  have fc' := does_fits h.fc (by rw [h.len]; exact hn) x
  have e1 : c.doesE x = a.doesE x := by
    unfold MS.doesE MS.createE MS.dropE MS.snapE
    rw [h.cs]
    repeat' split
    all_goals first | rfl | omega
  have hws : (a.does x).ws = a.ws ∧ (c.does x).ws = c.ws ∧ (c.does x).sn = (a.does x).sn := by
    unfold MS.does
    split
    · omega
    · split
      · omega
      · split
        · exact ⟨rfl, rfl, h.cs⟩
        · split
          · unfold MS.create
            rw [h.cs]
            split
            · exact ⟨rfl, rfl, by rw [h.len]⟩
            · exact ⟨rfl, rfl, h.cs⟩
          · split
            · unfold MS.drop
              rw [h.cs]
              split
              · exact ⟨rfl, rfl, rfl⟩
              · exact ⟨rfl, rfl, h.cs⟩
            · exact ⟨rfl, rfl, h.cs⟩
  exact ⟨e1, fa', h.fb, fc', by rw [hws.1]; exact h.wb, h.bs, by rw [hws.1, hws.2.1]; exact h.cw, hws.2.2⟩
theorem vfold_gone (k : List UInt8) : ∀ n, vfold (List.replicate n ⟨k, [], true⟩) = []
  | 0 => rfl
  | n + 1 => by
    rw [List.replicate_succ', vfold_snoc, vfold_gone k n]
    rfl
theorem viewL_gone {k : List UInt8} {n s : Nat} : viewL ((List.replicate n (⟨k, [], true⟩ : W)).take s) = [] := by
  rw [List.take_replicate]
  unfold viewL
  rw [vfold_gone]
  simp [sortS]
theorem snaps_nil {m : MS} (h : m.sn = []) : m.snaps = [] := by unfold MS.snaps; rw [h]; simp [sortS]
theorem snaps_same {a c : MS} (h : c.sn = a.sn) : c.snaps = a.snaps := by unfold MS.snaps; rw [h]
def H3 (a b c : MS) : AH := ⟨3, [(0, .sem (Nest a.H)), (1, .sem (Nest b.H)), (2, .sem (Nest c.H))]⟩
def fresh0 : MS := ⟨[], [], 0⟩
theorem fresh_fits : fresh0.Fits := ⟨by decide, by decide, by decide, by decide, by decide, by decide, by decide, by decide, by decide⟩
theorem tri0 : Tri fresh0 fresh0 fresh0 := ⟨fresh_fits, fresh_fits, fresh_fits, rfl, rfl, rfl, rfl⟩
structure TriX (l : List CL) where
  i : Nat
  a : MS
  b : MS
  c : MS
  hi : i ≤ 60
  hl : i ≤ l.length
  t : Tri a b c
  n : a.ws.length ≤ i
set_option maxHeartbeats 4000000 in
theorem same_law (l : List CL) (hl : ∀ c ∈ l, c.ok) : Law Go.Proofs.Try.prog 5 [.iv (.sl 5 l.length fun i => callI (l.getD i default))] := by
  refine ACall.fin ?_
  refine ACall.walkF (C := cfgL 140 0) (cfgLOk _ _) sch5 (fn := Go.Proofs.Try.f5) (by kernel_rfl) (by kernel_rfl) rfl (by kernel_rfl) (by kernel_rfl) rfl rfl fun hlen hheap => ?_
  obtain ⟨hl1, _⟩ := hlen
  simp only [lenF] at hl1
  (conv => whnf); repeat ((first | (refine And.intro ?_ ?_; (focus ((repeat' (first | exact trivial | refine And.intro rfl ?_)); done))) | (refine And.intro ?_ ?_; (focus (first | omega | (simp -iota; omega) | (simp -iota; done) | decide)))); conv => whnf)
  refine AFn.use [] (new_ok) (by kernel_rfl) rfl (by repeat' first | exact trivial | refine ⟨rfl, ?_⟩) fun _ => ?_
  (conv => whnf); repeat ((first | (refine And.intro ?_ ?_; (focus ((repeat' (first | exact trivial | refine And.intro rfl ?_)); done))) | (refine And.intro ?_ ?_; (focus (first | omega | (simp -iota; omega) | (simp -iota; done) | decide)))); conv => whnf)
  refine AFn.use [] (new_ok) (by kernel_rfl) rfl (by repeat' first | exact trivial | refine ⟨rfl, ?_⟩) fun _ => ?_
  (conv => whnf); repeat ((first | (refine And.intro ?_ ?_; (focus ((repeat' (first | exact trivial | refine And.intro rfl ?_)); done))) | (refine And.intro ?_ ?_; (focus (first | omega | (simp -iota; omega) | (simp -iota; done) | decide)))); conv => whnf)
  refine AFn.use [] (new_ok) (by kernel_rfl) rfl (by repeat' first | exact trivial | refine ⟨rfl, ?_⟩) fun _ => ?_
  (conv => whnf); repeat ((first | (refine And.intro ?_ ?_; (focus ((repeat' (first | exact trivial | refine And.intro rfl ?_)); done))) | (refine And.intro ?_ ?_; (focus (first | omega | (simp -iota; omega) | (simp -iota; done) | decide)))); conv => whnf)
  refine AWP.merge (Y := TriX l) (fun x => [(3, .ptr 0 0), (4, .ptr 1 0), (5, .ptr 2 0)]) (fun x => H3 x.a x.b x.c) 0 (fun x => ?_) ?_
  rotate_left
  · refine AWP.loop (X := TriX l) (fun x => [(0, .iv (.sl 5 l.length fun i => callI (l.getD i default))), (3, .ptr 0 0), (4, .ptr 1 0), (5, .ptr 2 0), (6, AV.int .i64 x.i)]) (fun x => H3 x.a x.b x.c) (fun x => 60 - x.i) (⟨0, fresh0, fresh0, fresh0, by omega, by omega, tri0, by decide⟩) ?_ fun x => AWP.go (S := sch5) (cfgLOk _ _) (.of_eq (by kernel_rfl)) ?_
    · exact Ent.mk' [some 0, some 1, some 2] (by kernel_rfl) (by repeat' first | exact trivial | refine And.intro (AVE.refl _) ?_ | refine And.intro (AVE.int (by first | rfl | omega | (simp -iota; omega) | (simp -iota; done))) ?_ | refine And.intro (AVE.bool (by assumption)) ?_ | refine And.intro (AVE.len (by first | rfl | omega | (simp -iota; omega) | (simp -iota; done))) ?_) (by repeat' (first | exact trivial | refine ⟨⟨_, rfl, ChE.refl _⟩, ?_⟩))
    · obtain ⟨i, a, b, c, hi, hil, ht, hn⟩ := x
      have hix : ((i : Nat) : Int).toNat = i := by simp
      have hfa := ht.fa
      have hfb := ht.fb
      have hfc := ht.fc
      (conv => whnf); repeat ((first | (refine And.intro ?_ ?_; (focus ((repeat' (first | exact trivial | refine And.intro rfl ?_)); done))) | (refine And.intro ?_ ?_; (focus (first | omega | (simp -iota; omega) | (simp -iota; done) | decide)))); conv => whnf)
      refine branchB_of (fun h0 => ?_) (fun h0 => ?_) <;> (first | replace h0 := not_t h0 | replace h0 := not_f h0 | skip) <;> (first | replace h0 := of_decide_eq_true h0 | replace h0 := of_decide_eq_false h0 | skip) <;> (first | replace h0 := Classical.not_not.1 h0 | skip) <;> (try dsimp only at h0)
      rotate_left
      · (conv => whnf); repeat ((first | (refine And.intro ?_ ?_; (focus ((repeat' (first | exact trivial | refine And.intro rfl ?_)); done))) | (refine And.intro ?_ ?_; (focus (first | omega | (simp -iota; omega) | (simp -iota; done) | decide)))); conv => whnf)
        exact ⟨⟨i, a, b, c, hi, hil, ht, hn⟩, Ent.mk' [some 0, some 1, some 2] (by kernel_rfl) (by repeat' first | exact trivial | refine And.intro (AVE.refl _) ?_ | refine And.intro (AVE.int (by first | rfl | omega | (simp -iota; omega) | (simp -iota; done))) ?_ | refine And.intro (AVE.bool (by assumption)) ?_ | refine And.intro (AVE.len (by first | rfl | omega | (simp -iota; omega) | (simp -iota; done))) ?_) (by repeat' (first | exact trivial | refine ⟨⟨_, rfl, ChE.refl _⟩, ?_⟩))⟩
      (conv => whnf); repeat ((first | (refine And.intro ?_ ?_; (focus ((repeat' (first | exact trivial | refine And.intro rfl ?_)); done))) | (refine And.intro ?_ ?_; (focus (first | omega | (simp -iota; omega) | (simp -iota; done) | decide)))); conv => whnf)
      refine branchB_of (fun h => ?_) (fun h => ?_) <;> (first | replace h := not_t h | replace h := not_f h | skip) <;> (first | replace h := of_decide_eq_true h | replace h := of_decide_eq_false h | skip) <;> (first | replace h := Classical.not_not.1 h | skip) <;> (try dsimp only at h)
      rotate_left
      · (conv => whnf); repeat ((first | (refine And.intro ?_ ?_; (focus ((repeat' (first | exact trivial | refine And.intro rfl ?_)); done))) | (refine And.intro ?_ ?_; (focus (first | omega | (simp -iota; omega) | (simp -iota; done) | decide)))); conv => whnf)
        exact ⟨⟨i, a, b, c, hi, hil, ht, hn⟩, Ent.mk' [some 0, some 1, some 2] (by kernel_rfl) (by repeat' first | exact trivial | refine And.intro (AVE.refl _) ?_ | refine And.intro (AVE.int (by first | rfl | omega | (simp -iota; omega) | (simp -iota; done))) ?_ | refine And.intro (AVE.bool (by assumption)) ?_ | refine And.intro (AVE.len (by first | rfl | omega | (simp -iota; omega) | (simp -iota; done))) ?_) (by repeat' (first | exact trivial | refine ⟨⟨_, rfl, ChE.refl _⟩, ?_⟩))⟩
      (conv => whnf); repeat ((first | (refine And.intro ?_ ?_; (focus ((repeat' (first | exact trivial | refine And.intro rfl ?_)); done))) | (refine And.intro ?_ ?_; (focus (first | omega | (simp -iota; omega) | (simp -iota; done) | decide)))); conv => whnf)
      simp -iota only [hix]
      have hlt : i < l.length := by omega
      have hcok : (l.getD i default).ok := by simp only [List.getD, List.getElem?_eq_getElem hlt, Option.getD_some]; exact hl _ (List.getElem_mem hlt)
      generalize l.getD i default = x at hcok
      refine AFn.use [] (few_ok x) (by kernel_rfl) rfl (by repeat' first | exact trivial | refine ⟨rfl, ?_⟩) fun _ => ?_
      have hxok : x.few.n ≤ 18446744073709551615 := hcok
      generalize x.few = x at hxok
      (conv => whnf); repeat ((first | (refine And.intro ?_ ?_; (focus ((repeat' (first | exact trivial | refine And.intro rfl ?_)); done))) | (refine And.intro ?_ ?_; (focus (first | omega | (simp -iota; omega) | (simp -iota; done) | decide)))); conv => whnf)
      refine branchB_of (fun h7 => ?_) (fun h7 => ?_) <;> (first | replace h7 := not_t h7 | replace h7 := not_f h7 | skip) <;> (first | replace h7 := of_decide_eq_true h7 | replace h7 := of_decide_eq_false h7 | skip) <;> (first | replace h7 := Classical.not_not.1 h7 | skip) <;> (try dsimp only at h7)
      · (conv => whnf); repeat ((first | (refine And.intro ?_ ?_; (focus ((repeat' (first | exact trivial | refine And.intro rfl ?_)); done))) | (refine And.intro ?_ ?_; (focus (first | omega | (simp -iota; omega) | (simp -iota; done) | decide)))); conv => whnf)
        refine ⟨⟨i + 1, a, b, c, by omega, by omega, ht, by omega⟩, Ent.mk' [some 0, some 1, some 2] (by kernel_rfl) (by repeat' first | exact trivial | refine And.intro (AVE.refl _) ?_ | refine And.intro (AVE.int (by first | rfl | omega | (simp -iota; omega) | (simp -iota; done))) ?_ | refine And.intro (AVE.bool (by assumption)) ?_ | refine And.intro (AVE.len (by first | rfl | omega | (simp -iota; omega) | (simp -iota; done))) ?_) (by repeat' (first | exact trivial | refine ⟨⟨_, rfl, ChE.refl _⟩, ?_⟩)), ?_⟩
        show 60 - (i + 1) < 60 - i
        omega
      (conv => whnf); repeat ((first | (refine And.intro ?_ ?_; (focus ((repeat' (first | exact trivial | refine And.intro rfl ?_)); done))) | (refine And.intro ?_ ?_; (focus (first | omega | (simp -iota; omega) | (simp -iota; done) | decide)))); conv => whnf)
      refine AFn.use [0] (does_ok a hfa x hxok) (by kernel_rfl) rfl (by repeat' first | exact trivial | refine ⟨rfl, ?_⟩) fun _ => ?_
      have hln := does_len a x
      (conv => whnf); repeat ((first | (refine And.intro ?_ ?_; (focus ((repeat' (first | exact trivial | refine And.intro rfl ?_)); done))) | (refine And.intro ?_ ?_; (focus (first | omega | (simp -iota; omega) | (simp -iota; done) | decide)))); conv => whnf)
      have wr : 0 ≤ x.what → x.what ≤ 3 → _ := fun p q => ht.write (by omega) x p q
      have ot := fun p => ht.other (by omega) x p h7
      refine branchB_of (fun g0 => ?_) (fun g0 => ?_) <;> (first | replace g0 := not_t g0 | replace g0 := not_f g0 | skip) <;> (first | replace g0 := of_decide_eq_true g0 | replace g0 := of_decide_eq_false g0 | skip) <;> (first | replace g0 := Classical.not_not.1 g0 | skip) <;> (try dsimp only at g0)
      · (conv => whnf); repeat ((first | (refine And.intro ?_ ?_; (focus ((repeat' (first | exact trivial | refine And.intro rfl ?_)); done))) | (refine And.intro ?_ ?_; (focus (first | omega | (simp -iota; omega) | (simp -iota; done) | decide)))); conv => whnf)
        refine branchB_of (fun g3 => ?_) (fun g3 => ?_) <;> (first | replace g3 := not_t g3 | replace g3 := not_f g3 | skip) <;> (first | replace g3 := of_decide_eq_true g3 | replace g3 := of_decide_eq_false g3 | skip) <;> (first | replace g3 := Classical.not_not.1 g3 | skip) <;> (try dsimp only at g3)
        · obtain ⟨he, hw0, hw1⟩ := wr g0 g3
          (conv => whnf); repeat ((first | (refine And.intro ?_ ?_; (focus ((repeat' (first | exact trivial | refine And.intro rfl ?_)); done))) | (refine And.intro ?_ ?_; (focus (first | omega | (simp -iota; omega) | (simp -iota; done) | decide)))); conv => whnf)
          refine AFn.use [1] (does_ok b hfb x hxok) (by kernel_rfl) rfl (by repeat' first | exact trivial | refine ⟨rfl, ?_⟩) fun _ => ?_
          (conv => whnf); repeat ((first | (refine And.intro ?_ ?_; (focus ((repeat' (first | exact trivial | refine And.intro rfl ?_)); done))) | (refine And.intro ?_ ?_; (focus (first | omega | (simp -iota; omega) | (simp -iota; done) | decide)))); conv => whnf)
          rw [he]
          refine branchB_of (fun h => ?_) (fun h => ?_) <;> (first | replace h := not_t h | replace h := not_f h | skip) <;> (first | replace h := of_decide_eq_true h | replace h := of_decide_eq_false h | skip) <;> (first | replace h := Classical.not_not.1 h | skip) <;> (try dsimp only at h) <;> first | (exfalso; first | omega | contradiction | exact h rfl) | skip
          (conv => whnf); repeat ((first | (refine And.intro ?_ ?_; (focus ((repeat' (first | exact trivial | refine And.intro rfl ?_)); done))) | (refine And.intro ?_ ?_; (focus (first | omega | (simp -iota; omega) | (simp -iota; done) | decide)))); conv => whnf)
          by_cases hE : a.doesE x = 0
          · rw [hE]
            have ht' := hw0 hE
            (conv => whnf); repeat ((first | (refine And.intro ?_ ?_; (focus ((repeat' (first | exact trivial | refine And.intro rfl ?_)); done))) | (refine And.intro ?_ ?_; (focus (first | omega | (simp -iota; omega) | (simp -iota; done) | decide)))); conv => whnf)
            refine AFn.use [2] (del_ok c oth hfc.n) (by kernel_rfl) rfl (by repeat' first | exact trivial | refine ⟨rfl, ?_⟩) fun _ => ?_
            (conv => whnf); repeat ((first | (refine And.intro ?_ ?_; (focus ((repeat' (first | exact trivial | refine And.intro rfl ?_)); done))) | (refine And.intro ?_ ?_; (focus (first | omega | (simp -iota; omega) | (simp -iota; done) | decide)))); conv => whnf)
            refine ⟨⟨i + 1, a.does x, b.does x, c.del oth, by omega, by omega, ht', by omega⟩, Ent.mk' [some 0, some 1, some 2] (by kernel_rfl) (by repeat' first | exact trivial | refine And.intro (AVE.refl _) ?_ | refine And.intro (AVE.int (by first | rfl | omega | (simp -iota; omega) | (simp -iota; done))) ?_ | refine And.intro (AVE.bool (by assumption)) ?_ | refine And.intro (AVE.len (by first | rfl | omega | (simp -iota; omega) | (simp -iota; done))) ?_) (by repeat' (first | exact trivial | refine ⟨⟨_, rfl, ChE.refl _⟩, ?_⟩)), ?_⟩
            show 60 - (i + 1) < 60 - i
            omega
          · have ht' := hw1 hE
            refine branchB_of (fun g5 => ?_) (fun g5 => ?_) <;> (first | replace g5 := not_t g5 | replace g5 := not_f g5 | skip) <;> (first | replace g5 := of_decide_eq_true g5 | replace g5 := of_decide_eq_false g5 | skip) <;> (first | replace g5 := Classical.not_not.1 g5 | skip) <;> (try dsimp only at g5)
            · exact absurd g5 hE
            (conv => whnf); repeat ((first | (refine And.intro ?_ ?_; (focus ((repeat' (first | exact trivial | refine And.intro rfl ?_)); done))) | (refine And.intro ?_ ?_; (focus (first | omega | (simp -iota; omega) | (simp -iota; done) | decide)))); conv => whnf)
            refine ⟨⟨i + 1, a.does x, b.does x, c, by omega, by omega, ht', by omega⟩, Ent.mk' [some 0, some 1, some 2] (by kernel_rfl) (by repeat' first | exact trivial | refine And.intro (AVE.refl _) ?_ | refine And.intro (AVE.int (by first | rfl | omega | (simp -iota; omega) | (simp -iota; done))) ?_ | refine And.intro (AVE.bool (by assumption)) ?_ | refine And.intro (AVE.len (by first | rfl | omega | (simp -iota; omega) | (simp -iota; done))) ?_) (by repeat' (first | exact trivial | refine ⟨⟨_, rfl, ChE.refl _⟩, ?_⟩)), ?_⟩
            show 60 - (i + 1) < 60 - i
            omega
        · obtain ⟨he, ht'⟩ := ot (by omega)
          (conv => whnf); repeat ((first | (refine And.intro ?_ ?_; (focus ((repeat' (first | exact trivial | refine And.intro rfl ?_)); done))) | (refine And.intro ?_ ?_; (focus (first | omega | (simp -iota; omega) | (simp -iota; done) | decide)))); conv => whnf)
          refine AFn.use [2] (does_ok c hfc x hxok) (by kernel_rfl) rfl (by repeat' first | exact trivial | refine ⟨rfl, ?_⟩) fun _ => ?_
          (conv => whnf); repeat ((first | (refine And.intro ?_ ?_; (focus ((repeat' (first | exact trivial | refine And.intro rfl ?_)); done))) | (refine And.intro ?_ ?_; (focus (first | omega | (simp -iota; omega) | (simp -iota; done) | decide)))); conv => whnf)
          rw [he]
          refine branchB_of (fun h => ?_) (fun h => ?_) <;> (first | replace h := not_t h | replace h := not_f h | skip) <;> (first | replace h := of_decide_eq_true h | replace h := of_decide_eq_false h | skip) <;> (first | replace h := Classical.not_not.1 h | skip) <;> (try dsimp only at h) <;> first | (exfalso; first | omega | contradiction | exact h rfl) | skip
          (conv => whnf); repeat ((first | (refine And.intro ?_ ?_; (focus ((repeat' (first | exact trivial | refine And.intro rfl ?_)); done))) | (refine And.intro ?_ ?_; (focus (first | omega | (simp -iota; omega) | (simp -iota; done) | decide)))); conv => whnf)
          refine ⟨⟨i + 1, a.does x, b, c.does x, by omega, by omega, ht', by omega⟩, Ent.mk' [some 0, some 1, some 2] (by kernel_rfl) (by repeat' first | exact trivial | refine And.intro (AVE.refl _) ?_ | refine And.intro (AVE.int (by first | rfl | omega | (simp -iota; omega) | (simp -iota; done))) ?_ | refine And.intro (AVE.bool (by assumption)) ?_ | refine And.intro (AVE.len (by first | rfl | omega | (simp -iota; omega) | (simp -iota; done))) ?_) (by repeat' (first | exact trivial | refine ⟨⟨_, rfl, ChE.refl _⟩, ?_⟩)), ?_⟩
          show 60 - (i + 1) < 60 - i
          omega
      · obtain ⟨he, ht'⟩ := ot (by omega)
        (conv => whnf); repeat ((first | (refine And.intro ?_ ?_; (focus ((repeat' (first | exact trivial | refine And.intro rfl ?_)); done))) | (refine And.intro ?_ ?_; (focus (first | omega | (simp -iota; omega) | (simp -iota; done) | decide)))); conv => whnf)
        refine AFn.use [2] (does_ok c hfc x hxok) (by kernel_rfl) rfl (by repeat' first | exact trivial | refine ⟨rfl, ?_⟩) fun _ => ?_
        (conv => whnf); repeat ((first | (refine And.intro ?_ ?_; (focus ((repeat' (first | exact trivial | refine And.intro rfl ?_)); done))) | (refine And.intro ?_ ?_; (focus (first | omega | (simp -iota; omega) | (simp -iota; done) | decide)))); conv => whnf)
        rw [he]
        refine branchB_of (fun h => ?_) (fun h => ?_) <;> (first | replace h := not_t h | replace h := not_f h | skip) <;> (first | replace h := of_decide_eq_true h | replace h := of_decide_eq_false h | skip) <;> (first | replace h := Classical.not_not.1 h | skip) <;> (try dsimp only at h) <;> first | (exfalso; first | omega | contradiction | exact h rfl) | skip
        (conv => whnf); repeat ((first | (refine And.intro ?_ ?_; (focus ((repeat' (first | exact trivial | refine And.intro rfl ?_)); done))) | (refine And.intro ?_ ?_; (focus (first | omega | (simp -iota; omega) | (simp -iota; done) | decide)))); conv => whnf)
        refine ⟨⟨i + 1, a.does x, b, c.does x, by omega, by omega, ht', by omega⟩, Ent.mk' [some 0, some 1, some 2] (by kernel_rfl) (by repeat' first | exact trivial | refine And.intro (AVE.refl _) ?_ | refine And.intro (AVE.int (by first | rfl | omega | (simp -iota; omega) | (simp -iota; done))) ?_ | refine And.intro (AVE.bool (by assumption)) ?_ | refine And.intro (AVE.len (by first | rfl | omega | (simp -iota; omega) | (simp -iota; done))) ?_) (by repeat' (first | exact trivial | refine ⟨⟨_, rfl, ChE.refl _⟩, ?_⟩)), ?_⟩
        show 60 - (i + 1) < 60 - i
        omega
  · obtain ⟨i, a, b, c, hi, hil, ht, hn⟩ := x
    have hfa := ht.fa
    have hfb := ht.fb
    have hfc := ht.fc
    have hwb := ht.wb
    have hlb : b.ws.length = a.ws.length := by rw [ht.wb]
    have hlc := ht.len
    have hsb : b.snaps = [] := snaps_nil ht.bs
    have hsc : c.snaps = a.snaps := snaps_same ht.cs
    have hcv : ∀ s, viewL (c.ws.take s) = [] := fun s => by rw [ht.cw]; exact viewL_gone
    (conv => whnf); repeat ((first | (refine And.intro ?_ ?_; (focus ((repeat' (first | exact trivial | refine And.intro rfl ?_)); done))) | (refine And.intro ?_ ?_; (focus (first | omega | (simp -iota; omega) | (simp -iota; done) | decide)))); conv => whnf)
    refine AFn.use [0] (seq_ok a hfa.n) (by kernel_rfl) rfl (by repeat' first | exact trivial | refine ⟨rfl, ?_⟩) fun _ => ?_
    (conv => whnf); repeat ((first | (refine And.intro ?_ ?_; (focus ((repeat' (first | exact trivial | refine And.intro rfl ?_)); done))) | (refine And.intro ?_ ?_; (focus (first | omega | (simp -iota; omega) | (simp -iota; done) | decide)))); conv => whnf)
    refine AFn.use [1] (seq_ok b hfb.n) (by kernel_rfl) rfl (by repeat' first | exact trivial | refine ⟨rfl, ?_⟩) fun _ => ?_
    (conv => whnf); repeat ((first | (refine And.intro ?_ ?_; (focus ((repeat' (first | exact trivial | refine And.intro rfl ?_)); done))) | (refine And.intro ?_ ?_; (focus (first | omega | (simp -iota; omega) | (simp -iota; done) | decide)))); conv => whnf)
    refine branchB_of (fun h => ?_) (fun h => ?_) <;> (first | replace h := not_t h | replace h := not_f h | skip) <;> (first | replace h := of_decide_eq_true h | replace h := of_decide_eq_false h | skip) <;> (first | replace h := Classical.not_not.1 h | skip) <;> (try dsimp only at h) <;> first | (exfalso; first | omega | contradiction | exact h rfl) | skip
    (conv => whnf); repeat ((first | (refine And.intro ?_ ?_; (focus ((repeat' (first | exact trivial | refine And.intro rfl ?_)); done))) | (refine And.intro ?_ ?_; (focus (first | omega | (simp -iota; omega) | (simp -iota; done) | decide)))); conv => whnf)
    refine AFn.use [0] (seq_ok a hfa.n) (by kernel_rfl) rfl (by repeat' first | exact trivial | refine ⟨rfl, ?_⟩) fun _ => ?_
    (conv => whnf); repeat ((first | (refine And.intro ?_ ?_; (focus ((repeat' (first | exact trivial | refine And.intro rfl ?_)); done))) | (refine And.intro ?_ ?_; (focus (first | omega | (simp -iota; omega) | (simp -iota; done) | decide)))); conv => whnf)
    refine AFn.use [2] (seq_ok c hfc.n) (by kernel_rfl) rfl (by repeat' first | exact trivial | refine ⟨rfl, ?_⟩) fun _ => ?_
    (conv => whnf); repeat ((first | (refine And.intro ?_ ?_; (focus ((repeat' (first | exact trivial | refine And.intro rfl ?_)); done))) | (refine And.intro ?_ ?_; (focus (first | omega | (simp -iota; omega) | (simp -iota; done) | decide)))); conv => whnf)
    refine branchB_of (fun h => ?_) (fun h => ?_) <;> (first | replace h := not_t h | replace h := not_f h | skip) <;> (first | replace h := of_decide_eq_true h | replace h := of_decide_eq_false h | skip) <;> (first | replace h := Classical.not_not.1 h | skip) <;> (try dsimp only at h) <;> first | (exfalso; first | omega | contradiction | exact h rfl) | skip
    (conv => whnf); repeat ((first | (refine And.intro ?_ ?_; (focus ((repeat' (first | exact trivial | refine And.intro rfl ?_)); done))) | (refine And.intro ?_ ?_; (focus (first | omega | (simp -iota; omega) | (simp -iota; done) | decide)))); conv => whnf)
    refine AFn.use [0] (list_ok a hfa) (by kernel_rfl) rfl (by repeat' first | exact trivial | refine ⟨rfl, ?_⟩) fun _ => ?_
    (conv => whnf); repeat ((first | (refine And.intro ?_ ?_; (focus ((repeat' (first | exact trivial | refine And.intro rfl ?_)); done))) | (refine And.intro ?_ ?_; (focus (first | omega | (simp -iota; omega) | (simp -iota; done) | decide)))); conv => whnf)
    refine AFn.use [2] (list_ok c hfc) (by kernel_rfl) rfl (by repeat' first | exact trivial | refine ⟨rfl, ?_⟩) fun _ => ?_
    rw [hsc]
    (conv => whnf); repeat ((first | (refine And.intro ?_ ?_; (focus ((repeat' (first | exact trivial | refine And.intro rfl ?_)); done))) | (refine And.intro ?_ ?_; (focus (first | omega | (simp -iota; omega) | (simp -iota; done) | decide)))); conv => whnf)
    refine branchB_of (fun h => ?_) (fun h => ?_) <;> (first | replace h := not_t h | replace h := not_f h | skip) <;> (first | replace h := of_decide_eq_true h | replace h := of_decide_eq_false h | skip) <;> (first | replace h := Classical.not_not.1 h | skip) <;> (try dsimp only at h) <;> first | (exfalso; first | omega | contradiction | exact h rfl) | skip
    (conv => whnf); repeat ((first | (refine And.intro ?_ ?_; (focus ((repeat' (first | exact trivial | refine And.intro rfl ?_)); done))) | (refine And.intro ?_ ?_; (focus (first | omega | (simp -iota; omega) | (simp -iota; done) | decide)))); conv => whnf)
    refine AFn.use [1] (list_ok b hfb) (by kernel_rfl) rfl (by repeat' first | exact trivial | refine ⟨rfl, ?_⟩) fun _ => ?_
    rw [hsb]
    (conv => whnf); repeat ((first | (refine And.intro ?_ ?_; (focus ((repeat' (first | exact trivial | refine And.intro rfl ?_)); done))) | (refine And.intro ?_ ?_; (focus (first | omega | (simp -iota; omega) | (simp -iota; done) | decide)))); conv => whnf)
    refine AWP.loop (X := { s : Nat // s ≤ a.ws.length + 1 }) (fun s => [(3, .ptr 0 0), (4, .ptr 1 0), (5, .ptr 2 0), (9, AV.int .u64 s.1)]) (fun s => H3 a b c) (fun s => a.ws.length + 1 - s.1) (⟨0, by omega⟩) ?_ fun s => AWP.go (S := sch5) (cfgLOk _ _) (.of_eq (by kernel_rfl)) ?_
    · exact Ent.mk' [some 0, some 1, some 2] (by kernel_rfl) (by repeat' first | exact trivial | refine And.intro (AVE.refl _) ?_ | refine And.intro (AVE.int (by first | rfl | omega | (simp -iota; omega) | (simp -iota; done))) ?_ | refine And.intro (AVE.bool (by assumption)) ?_ | refine And.intro (AVE.len (by first | rfl | omega | (simp -iota; omega) | (simp -iota; done))) ?_) (by repeat' (first | exact trivial | refine ⟨⟨_, rfl, ChE.refl _⟩, ?_⟩))
    · obtain ⟨s, hs⟩ := s
      (conv => whnf); repeat ((first | (refine And.intro ?_ ?_; (focus ((repeat' (first | exact trivial | refine And.intro rfl ?_)); done))) | (refine And.intro ?_ ?_; (focus (first | omega | (simp -iota; omega) | (simp -iota; done) | decide)))); conv => whnf)
      refine AFn.use [0] (seq_ok a hfa.n) (by kernel_rfl) rfl (by repeat' first | exact trivial | refine ⟨rfl, ?_⟩) fun _ => ?_
      (conv => whnf); repeat ((first | (refine And.intro ?_ ?_; (focus ((repeat' (first | exact trivial | refine And.intro rfl ?_)); done))) | (refine And.intro ?_ ?_; (focus (first | omega | (simp -iota; omega) | (simp -iota; done) | decide)))); conv => whnf)
      refine branchB_of (fun h1 => ?_) (fun h1 => ?_) <;> (first | replace h1 := not_t h1 | replace h1 := not_f h1 | skip) <;> (first | replace h1 := of_decide_eq_true h1 | replace h1 := of_decide_eq_false h1 | skip) <;> (first | replace h1 := Classical.not_not.1 h1 | skip) <;> (try dsimp only at h1)
      · (conv => whnf); repeat ((first | (refine And.intro ?_ ?_; (focus ((repeat' (first | exact trivial | refine And.intro rfl ?_)); done))) | (refine And.intro ?_ ?_; (focus (first | omega | (simp -iota; omega) | (simp -iota; done) | decide)))); conv => whnf)
        refine AFn.use [0] (view_ok a hfa s (by omega)) (by kernel_rfl) rfl (by repeat' first | exact trivial | refine ⟨rfl, ?_⟩) fun _ => ?_
        (conv => whnf); repeat ((first | (refine And.intro ?_ ?_; (focus ((repeat' (first | exact trivial | refine And.intro rfl ?_)); done))) | (refine And.intro ?_ ?_; (focus (first | omega | (simp -iota; omega) | (simp -iota; done) | decide)))); conv => whnf)
        refine AFn.use [1] (view_ok b hfb s (by omega)) (by kernel_rfl) rfl (by repeat' first | exact trivial | refine ⟨rfl, ?_⟩) fun _ => ?_
        rw [hwb]
        (conv => whnf); repeat ((first | (refine And.intro ?_ ?_; (focus ((repeat' (first | exact trivial | refine And.intro rfl ?_)); done))) | (refine And.intro ?_ ?_; (focus (first | omega | (simp -iota; omega) | (simp -iota; done) | decide)))); conv => whnf)
        refine AFn.use [] (same_ok _ _) (by kernel_rfl) rfl (by repeat' first | exact trivial | refine ⟨rfl, ?_⟩) fun _ => ?_
        (conv => whnf); repeat ((first | (refine And.intro ?_ ?_; (focus ((repeat' (first | exact trivial | refine And.intro rfl ?_)); done))) | (refine And.intro ?_ ?_; (focus (first | omega | (simp -iota; omega) | (simp -iota; done) | decide)))); conv => whnf)
        refine branchB_of (fun h => ?_) (fun h => ?_) <;> (first | replace h := not_t h | replace h := not_f h | skip) <;> (first | replace h := of_decide_eq_true h | replace h := of_decide_eq_false h | skip) <;> (first | replace h := Classical.not_not.1 h | skip) <;> (try dsimp only at h) <;> first | (exfalso; first | omega | contradiction | exact h rfl) | skip
        (conv => whnf); repeat ((first | (refine And.intro ?_ ?_; (focus ((repeat' (first | exact trivial | refine And.intro rfl ?_)); done))) | (refine And.intro ?_ ?_; (focus (first | omega | (simp -iota; omega) | (simp -iota; done) | decide)))); conv => whnf)
        refine AFn.use [2] (view_ok c hfc s (by omega)) (by kernel_rfl) rfl (by repeat' first | exact trivial | refine ⟨rfl, ?_⟩) fun _ => ?_
        rw [hcv]
        (conv => whnf); repeat ((first | (refine And.intro ?_ ?_; (focus ((repeat' (first | exact trivial | refine And.intro rfl ?_)); done))) | (refine And.intro ?_ ?_; (focus (first | omega | (simp -iota; omega) | (simp -iota; done) | decide)))); conv => whnf)
        refine ⟨⟨s + 1, by omega⟩, Ent.mk' [some 0, some 1, some 2] (by kernel_rfl) (by repeat' first | exact trivial | refine And.intro (AVE.refl _) ?_ | refine And.intro (AVE.int (by first | rfl | omega | (simp -iota; omega) | (simp -iota; done))) ?_ | refine And.intro (AVE.bool (by assumption)) ?_ | refine And.intro (AVE.len (by first | rfl | omega | (simp -iota; omega) | (simp -iota; done))) ?_) (by repeat' (first | exact trivial | refine ⟨⟨_, rfl, ChE.refl _⟩, ?_⟩)), ?_⟩
        show a.ws.length + 1 - (s + 1) < a.ws.length + 1 - s
        omega
      · (conv => whnf); repeat ((first | (refine And.intro ?_ ?_; (focus ((repeat' (first | exact trivial | refine And.intro rfl ?_)); done))) | (refine And.intro ?_ ?_; (focus (first | omega | (simp -iota; omega) | (simp -iota; done) | decide)))); conv => whnf)
        refine AFn.use [0] (list_ok a hfa) (by kernel_rfl) rfl (by repeat' first | exact trivial | refine ⟨rfl, ?_⟩) fun _ => ?_
        (conv => whnf); repeat ((first | (refine And.intro ?_ ?_; (focus ((repeat' (first | exact trivial | refine And.intro rfl ?_)); done))) | (refine And.intro ?_ ?_; (focus (first | omega | (simp -iota; omega) | (simp -iota; done) | decide)))); conv => whnf)
        refine AWP.loop (X := { k : Nat // k ≤ a.snaps.length }) (fun k => [(5, .ptr 2 0), (124, .iv (.sl 2 a.snaps.length (snapF a.snaps))), (125, AV.int .i64 a.snaps.length), (126, AV.int .i64 k.1)]) (fun k => H3 a b c) (fun k => a.snaps.length - k.1) (⟨0, by omega⟩) ?_ fun k => AWP.go (S := sch5) (cfgLOk _ _) (.of_eq (by kernel_rfl)) ?_
        · exact Ent.mk' [some 0, some 1, some 2] (by kernel_rfl) (by repeat' first | exact trivial | refine And.intro (AVE.refl _) ?_ | refine And.intro (AVE.int (by first | rfl | omega | (simp -iota; omega) | (simp -iota; done))) ?_ | refine And.intro (AVE.bool (by assumption)) ?_ | refine And.intro (AVE.len (by first | rfl | omega | (simp -iota; omega) | (simp -iota; done))) ?_) (by repeat' (first | exact trivial | refine ⟨⟨_, rfl, ChE.refl _⟩, ?_⟩))
        · obtain ⟨k, hk⟩ := k
          have hsl : a.snaps.length ≤ 16 := by have := hfa.sn; simp [MS.snaps, sortS_length]; omega
          (conv => whnf); repeat ((first | (refine And.intro ?_ ?_; (focus ((repeat' (first | exact trivial | refine And.intro rfl ?_)); done))) | (refine And.intro ?_ ?_; (focus (first | omega | (simp -iota; omega) | (simp -iota; done) | decide)))); conv => whnf)
          refine branchB_of (fun f1 => ?_) (fun f1 => ?_) <;> (first | replace f1 := not_t f1 | replace f1 := not_f f1 | skip) <;> (first | replace f1 := of_decide_eq_true f1 | replace f1 := of_decide_eq_false f1 | skip) <;> (first | replace f1 := Classical.not_not.1 f1 | skip) <;> (try dsimp only at f1)
          · (conv => whnf); repeat ((first | (refine And.intro ?_ ?_; (focus ((repeat' (first | exact trivial | refine And.intro rfl ?_)); done))) | (refine And.intro ?_ ?_; (focus (first | omega | (simp -iota; omega) | (simp -iota; done) | decide)))); conv => whnf)
            refine And.intro ?_ ?_
            all_goals
              (conv => whnf); repeat ((first | (refine And.intro ?_ ?_; (focus ((repeat' (first | exact trivial | refine And.intro rfl ?_)); done))) | (refine And.intro ?_ ?_; (focus (first | omega | (simp -iota; omega) | (simp -iota; done) | decide)))); conv => whnf)
              refine AFn.use [2] (list_ok c hfc) (by kernel_rfl) rfl (by repeat' first | exact trivial | refine ⟨rfl, ?_⟩) fun _ => ?_
              rw [hsc]
              (conv => whnf); repeat ((first | (refine And.intro ?_ ?_; (focus ((repeat' (first | exact trivial | refine And.intro rfl ?_)); done))) | (refine And.intro ?_ ?_; (focus (first | omega | (simp -iota; omega) | (simp -iota; done) | decide)))); conv => whnf)
              refine branchB_of (fun f2 => ?_) (fun f2 => ?_) <;> (first | replace f2 := not_t f2 | replace f2 := not_f f2 | skip) <;> (first | replace f2 := of_decide_eq_true f2 | replace f2 := of_decide_eq_false f2 | skip) <;> (first | replace f2 := Classical.not_not.1 f2 | skip) <;> (try dsimp only at f2)
              · simp at f2
              (conv => whnf); repeat ((first | (refine And.intro ?_ ?_; (focus ((repeat' (first | exact trivial | refine And.intro rfl ?_)); done))) | (refine And.intro ?_ ?_; (focus (first | omega | (simp -iota; omega) | (simp -iota; done) | decide)))); conv => whnf)
              refine ⟨⟨k + 1, by omega⟩, Ent.mk' [some 0, some 1, some 2] (by kernel_rfl) (by repeat' first | exact trivial | refine And.intro (AVE.refl _) ?_ | refine And.intro (AVE.int (by first | rfl | omega | (simp -iota; omega) | (simp -iota; done))) ?_ | refine And.intro (AVE.bool (by assumption)) ?_ | refine And.intro (AVE.len (by first | rfl | omega | (simp -iota; omega) | (simp -iota; done))) ?_) (by repeat' (first | exact trivial | refine ⟨⟨_, rfl, ChE.refl _⟩, ?_⟩)), ?_⟩
              show a.snaps.length - (k + 1) < a.snaps.length - k
              omega
          · (conv => whnf); repeat ((first | (refine And.intro ?_ ?_; (focus ((repeat' (first | exact trivial | refine And.intro rfl ?_)); done))) | (refine And.intro ?_ ?_; (focus (first | omega | (simp -iota; omega) | (simp -iota; done) | decide)))); conv => whnf)
            refine AFn.use [] (knows_ok) (by kernel_rfl) rfl (by repeat' first | exact trivial | refine ⟨rfl, ?_⟩) fun _ => ?_
            (conv => whnf); repeat ((first | (refine And.intro ?_ ?_; (focus ((repeat' (first | exact trivial | refine And.intro rfl ?_)); done))) | (refine And.intro ?_ ?_; (focus (first | omega | (simp -iota; omega) | (simp -iota; done) | decide)))); conv => whnf)
            exact ⟨_, _, Ent.mk' (e' := [(0, AV.bool true)]) (H' := ⟨0, []⟩) [] (by kernel_rfl) ⟨AVE.of_eq rfl, trivial⟩ trivial, (), rfl, rfl⟩
end Go.Proofs.Ytaoambbfjdijjaa.Ax
