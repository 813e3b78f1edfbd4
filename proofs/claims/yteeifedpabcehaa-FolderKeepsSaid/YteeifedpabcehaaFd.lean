/-
  Chapter 06: calls; what holds of all states since the last Sync.
-/
import Derived.Test.YteeifedpabcehaaFc
namespace Go.Proofs.Yteeifedpabcehaa.Ax
open Go.RowKit
set_option maxRecDepth 100000
structure Call where
  w : Int
  s : List UInt8
  t : List UInt8
  k : Int
instance : Inhabited Call := ⟨⟨0, [], [], 0⟩⟩
def callI (c : Call) : List IV := [.v (.int .i64 c.w), .str c.s, .str c.t, .v (.int .i64 c.k)]
section
variable (f : FD)
def isMk (w : Int) : Prop := w = 0 ∨ w = 1 ∨ w = 2
instance (w : Int) : Decidable (isMk w) := by unfold isMk; infer_instance
def FD.does (f : FD) (c : Call) : FD := if isMk c.w then f.create c.s else if c.w = 3 then f.ren c.s c.t else if c.w = 4 then f.rem c.s else if c.w = 5 then f.synced else if c.w = 6 then f.crash c.k else f
def FD.doesN (f : FD) (c : Call) : Nat := if isMk c.w then f.createN c.s else 0
def FD.doesE (f : FD) (c : Call) : Int := if isMk c.w then f.createE c.s else if c.w = 3 then f.renE c.s c.t else if c.w = 4 then f.remE c.s else 0
theorem does_ok (hl : f.ds.length ≤ 1000) (hla : f.last ≤ 1000) (c : Call) : AFn Go.Proofs.Try.prog 9 [.ptr 0 0, .agg [AV.int .i64 c.w, .str c.s, .str c.t, AV.int .i64 c.k]] (one f.H) (fun _ : Unit => .tup [AV.int .u64 (f.doesN c), AV.int .i64 (f.doesE c)]) (fun _ => one (f.does c).H) := by
  have mkc : isMk c.w → f.doesN c = f.createN c.s ∧ f.doesE c = f.createE c.s ∧ f.does c = f.create c.s := fun h => ⟨if_pos h, if_pos h, if_pos h⟩
  refine ACall.fin ?_
  refine ACall.walk (C := cfg 42 1) (cfgOk _ _) [] (fn := Go.Proofs.Try.f9) (by kernel_rfl) (by kernel_rfl) rfl (by kernel_rfl) (by kernel_rfl) rfl rfl ?_
  (conv => whnf); repeat ((first | (refine And.intro ?_ ?_; (focus ((repeat' (first | exact trivial | refine And.intro rfl ?_)); done))) | (refine And.intro ?_ ?_; (focus (first | omega | (dsimp -iota only; omega) | (simp -iota; omega) | (simp -iota; done) | decide)))); conv => whnf)
  refine branchB_of (fun g0 => ?_) (fun g0 => ?_) <;> (first | replace g0 := not_t g0 | replace g0 := not_f g0 | skip) <;> (first | replace g0 := of_decide_eq_true g0 | replace g0 := of_decide_eq_false g0 | skip) <;> (first | replace g0 := Classical.not_not.1 g0 | skip) <;> (try dsimp only at g0)
  · obtain ⟨e1, e2, e3⟩ := mkc (.inl g0)
    rw [e1, e2, e3]
    (conv => whnf); repeat ((first | (refine And.intro ?_ ?_; (focus ((repeat' (first | exact trivial | refine And.intro rfl ?_)); done))) | (refine And.intro ?_ ?_; (focus (first | omega | (dsimp -iota only; omega) | (simp -iota; omega) | (simp -iota; done) | decide)))); conv => whnf)
    refine AFn.use [0] (create_ok f hl hla c.s) (by kernel_rfl) rfl (by repeat' first | exact trivial | refine ⟨rfl, ?_⟩) fun _ => ?_
    (conv => whnf); repeat ((first | (refine And.intro ?_ ?_; (focus ((repeat' (first | exact trivial | refine And.intro rfl ?_)); done))) | (refine And.intro ?_ ?_; (focus (first | omega | (dsimp -iota only; omega) | (simp -iota; omega) | (simp -iota; done) | decide)))); conv => whnf)
    refine ⟨_, _, Ent.mk' (e' := [(0, .tup [AV.int .u64 (f.createN c.s), AV.int .i64 (f.createE c.s)])]) (H' := one (f.create c.s).H) [some 0] (by kernel_rfl) ?_ ?_, (), rfl, rfl⟩
    · exact ⟨AVE.refl _, trivial⟩
    · (repeat' first | exact trivial | refine ⟨⟨_, rfl, ChE.refl _⟩, ?_⟩)
  · (conv => whnf); repeat ((first | (refine And.intro ?_ ?_; (focus ((repeat' (first | exact trivial | refine And.intro rfl ?_)); done))) | (refine And.intro ?_ ?_; (focus (first | omega | (dsimp -iota only; omega) | (simp -iota; omega) | (simp -iota; done) | decide)))); conv => whnf)
    refine branchB_of (fun g1 => ?_) (fun g1 => ?_) <;> (first | replace g1 := not_t g1 | replace g1 := not_f g1 | skip) <;> (first | replace g1 := of_decide_eq_true g1 | replace g1 := of_decide_eq_false g1 | skip) <;> (first | replace g1 := Classical.not_not.1 g1 | skip) <;> (try dsimp only at g1)
    · obtain ⟨e1, e2, e3⟩ := mkc (.inr (.inl g1))
      rw [e1, e2, e3]
      (conv => whnf); repeat ((first | (refine And.intro ?_ ?_; (focus ((repeat' (first | exact trivial | refine And.intro rfl ?_)); done))) | (refine And.intro ?_ ?_; (focus (first | omega | (dsimp -iota only; omega) | (simp -iota; omega) | (simp -iota; done) | decide)))); conv => whnf)
      refine AFn.use [0] (create_ok f hl hla c.s) (by kernel_rfl) rfl (by repeat' first | exact trivial | refine ⟨rfl, ?_⟩) fun _ => ?_
      (conv => whnf); repeat ((first | (refine And.intro ?_ ?_; (focus ((repeat' (first | exact trivial | refine And.intro rfl ?_)); done))) | (refine And.intro ?_ ?_; (focus (first | omega | (dsimp -iota only; omega) | (simp -iota; omega) | (simp -iota; done) | decide)))); conv => whnf)
      refine ⟨_, _, Ent.mk' (e' := [(0, .tup [AV.int .u64 (f.createN c.s), AV.int .i64 (f.createE c.s)])]) (H' := one (f.create c.s).H) [some 0] (by kernel_rfl) ?_ ?_, (), rfl, rfl⟩
      · exact ⟨AVE.refl _, trivial⟩
      · (repeat' first | exact trivial | refine ⟨⟨_, rfl, ChE.refl _⟩, ?_⟩)
    · (conv => whnf); repeat ((first | (refine And.intro ?_ ?_; (focus ((repeat' (first | exact trivial | refine And.intro rfl ?_)); done))) | (refine And.intro ?_ ?_; (focus (first | omega | (dsimp -iota only; omega) | (simp -iota; omega) | (simp -iota; done) | decide)))); conv => whnf)
      refine branchB_of (fun g2 => ?_) (fun g2 => ?_) <;> (first | replace g2 := not_t g2 | replace g2 := not_f g2 | skip) <;> (first | replace g2 := of_decide_eq_true g2 | replace g2 := of_decide_eq_false g2 | skip) <;> (first | replace g2 := Classical.not_not.1 g2 | skip) <;> (try dsimp only at g2)
      · obtain ⟨e1, e2, e3⟩ := mkc (.inr (.inr g2))
        rw [e1, e2, e3]
        (conv => whnf); repeat ((first | (refine And.intro ?_ ?_; (focus ((repeat' (first | exact trivial | refine And.intro rfl ?_)); done))) | (refine And.intro ?_ ?_; (focus (first | omega | (dsimp -iota only; omega) | (simp -iota; omega) | (simp -iota; done) | decide)))); conv => whnf)
        refine AFn.use [0] (create_ok f hl hla c.s) (by kernel_rfl) rfl (by repeat' first | exact trivial | refine ⟨rfl, ?_⟩) fun _ => ?_
        (conv => whnf); repeat ((first | (refine And.intro ?_ ?_; (focus ((repeat' (first | exact trivial | refine And.intro rfl ?_)); done))) | (refine And.intro ?_ ?_; (focus (first | omega | (dsimp -iota only; omega) | (simp -iota; omega) | (simp -iota; done) | decide)))); conv => whnf)
        refine ⟨_, _, Ent.mk' (e' := [(0, .tup [AV.int .u64 (f.createN c.s), AV.int .i64 (f.createE c.s)])]) (H' := one (f.create c.s).H) [some 0] (by kernel_rfl) ?_ ?_, (), rfl, rfl⟩
        · exact ⟨AVE.refl _, trivial⟩
        · (repeat' first | exact trivial | refine ⟨⟨_, rfl, ChE.refl _⟩, ?_⟩)
      · have gm : ¬ isMk c.w := fun h => by rcases h with h | h | h <;> contradiction
        have e1 : f.doesN c = 0 := if_neg gm
        rw [e1]
        (conv => whnf); repeat ((first | (refine And.intro ?_ ?_; (focus ((repeat' (first | exact trivial | refine And.intro rfl ?_)); done))) | (refine And.intro ?_ ?_; (focus (first | omega | (dsimp -iota only; omega) | (simp -iota; omega) | (simp -iota; done) | decide)))); conv => whnf)
        refine branchB_of (fun g3 => ?_) (fun g3 => ?_) <;> (first | replace g3 := not_t g3 | replace g3 := not_f g3 | skip) <;> (first | replace g3 := of_decide_eq_true g3 | replace g3 := of_decide_eq_false g3 | skip) <;> (first | replace g3 := Classical.not_not.1 g3 | skip) <;> (try dsimp only at g3)
        · have e2 : f.doesE c = f.renE c.s c.t := by unfold FD.doesE; rw [if_neg gm, if_pos g3]
          have e3 : f.does c = f.ren c.s c.t := by unfold FD.does; rw [if_neg gm, if_pos g3]
          rw [e2, e3]
          (conv => whnf); repeat ((first | (refine And.intro ?_ ?_; (focus ((repeat' (first | exact trivial | refine And.intro rfl ?_)); done))) | (refine And.intro ?_ ?_; (focus (first | omega | (dsimp -iota only; omega) | (simp -iota; omega) | (simp -iota; done) | decide)))); conv => whnf)
          refine AFn.use [0] (rename_ok f hl c.s c.t) (by kernel_rfl) rfl (by repeat' first | exact trivial | refine ⟨rfl, ?_⟩) fun _ => ?_
          (conv => whnf); repeat ((first | (refine And.intro ?_ ?_; (focus ((repeat' (first | exact trivial | refine And.intro rfl ?_)); done))) | (refine And.intro ?_ ?_; (focus (first | omega | (dsimp -iota only; omega) | (simp -iota; omega) | (simp -iota; done) | decide)))); conv => whnf)
          refine ⟨_, _, Ent.mk' (e' := [(0, .tup [AV.int .u64 0, AV.int .i64 (f.renE c.s c.t)])]) (H' := one (f.ren c.s c.t).H) [some 0] (by kernel_rfl) ?_ ?_, (), rfl, rfl⟩
          · exact ⟨AVE.refl _, trivial⟩
          · (repeat' first | exact trivial | refine ⟨⟨_, rfl, ChE.refl _⟩, ?_⟩)
        · (conv => whnf); repeat ((first | (refine And.intro ?_ ?_; (focus ((repeat' (first | exact trivial | refine And.intro rfl ?_)); done))) | (refine And.intro ?_ ?_; (focus (first | omega | (dsimp -iota only; omega) | (simp -iota; omega) | (simp -iota; done) | decide)))); conv => whnf)
          refine branchB_of (fun g4 => ?_) (fun g4 => ?_) <;> (first | replace g4 := not_t g4 | replace g4 := not_f g4 | skip) <;> (first | replace g4 := of_decide_eq_true g4 | replace g4 := of_decide_eq_false g4 | skip) <;> (first | replace g4 := Classical.not_not.1 g4 | skip) <;> (try dsimp only at g4)
          · have e2 : f.doesE c = f.remE c.s := by unfold FD.doesE; rw [if_neg gm, if_neg g3, if_pos g4]
            have e3 : f.does c = f.rem c.s := by unfold FD.does; rw [if_neg gm, if_neg g3, if_pos g4]
            rw [e2, e3]
            (conv => whnf); repeat ((first | (refine And.intro ?_ ?_; (focus ((repeat' (first | exact trivial | refine And.intro rfl ?_)); done))) | (refine And.intro ?_ ?_; (focus (first | omega | (dsimp -iota only; omega) | (simp -iota; omega) | (simp -iota; done) | decide)))); conv => whnf)
            refine AFn.use [0] (remove_ok f hl c.s) (by kernel_rfl) rfl (by repeat' first | exact trivial | refine ⟨rfl, ?_⟩) fun _ => ?_
            (conv => whnf); repeat ((first | (refine And.intro ?_ ?_; (focus ((repeat' (first | exact trivial | refine And.intro rfl ?_)); done))) | (refine And.intro ?_ ?_; (focus (first | omega | (dsimp -iota only; omega) | (simp -iota; omega) | (simp -iota; done) | decide)))); conv => whnf)
            refine ⟨_, _, Ent.mk' (e' := [(0, .tup [AV.int .u64 0, AV.int .i64 (f.remE c.s)])]) (H' := one (f.rem c.s).H) [some 0] (by kernel_rfl) ?_ ?_, (), rfl, rfl⟩
            · exact ⟨AVE.refl _, trivial⟩
            · (repeat' first | exact trivial | refine ⟨⟨_, rfl, ChE.refl _⟩, ?_⟩)
          · have e2 : f.doesE c = 0 := by unfold FD.doesE; rw [if_neg gm, if_neg g3, if_neg g4]
            rw [e2]
            (conv => whnf); repeat ((first | (refine And.intro ?_ ?_; (focus ((repeat' (first | exact trivial | refine And.intro rfl ?_)); done))) | (refine And.intro ?_ ?_; (focus (first | omega | (dsimp -iota only; omega) | (simp -iota; omega) | (simp -iota; done) | decide)))); conv => whnf)
            refine branchB_of (fun g5 => ?_) (fun g5 => ?_) <;> (first | replace g5 := not_t g5 | replace g5 := not_f g5 | skip) <;> (first | replace g5 := of_decide_eq_true g5 | replace g5 := of_decide_eq_false g5 | skip) <;> (first | replace g5 := Classical.not_not.1 g5 | skip) <;> (try dsimp only at g5)
            · have e3 : f.does c = f.synced := by unfold FD.does; rw [if_neg gm, if_neg g3, if_neg g4, if_pos g5]
              rw [e3]
              (conv => whnf); repeat ((first | (refine And.intro ?_ ?_; (focus ((repeat' (first | exact trivial | refine And.intro rfl ?_)); done))) | (refine And.intro ?_ ?_; (focus (first | omega | (dsimp -iota only; omega) | (simp -iota; omega) | (simp -iota; done) | decide)))); conv => whnf)
              refine AFn.use [0] (sync_ok f) (by kernel_rfl) rfl (by repeat' first | exact trivial | refine ⟨rfl, ?_⟩) fun _ => ?_
              (conv => whnf); repeat ((first | (refine And.intro ?_ ?_; (focus ((repeat' (first | exact trivial | refine And.intro rfl ?_)); done))) | (refine And.intro ?_ ?_; (focus (first | omega | (dsimp -iota only; omega) | (simp -iota; omega) | (simp -iota; done) | decide)))); conv => whnf)
              refine ⟨_, _, Ent.mk' (e' := [(0, .tup [AV.int .u64 0, AV.int .i64 0])]) (H' := one f.synced.H) [some 0] (by kernel_rfl) ?_ ?_, (), rfl, rfl⟩
              · exact ⟨AVE.refl _, trivial⟩
              · (repeat' first | exact trivial | refine ⟨⟨_, rfl, ChE.refl _⟩, ?_⟩)
            · (conv => whnf); repeat ((first | (refine And.intro ?_ ?_; (focus ((repeat' (first | exact trivial | refine And.intro rfl ?_)); done))) | (refine And.intro ?_ ?_; (focus (first | omega | (dsimp -iota only; omega) | (simp -iota; omega) | (simp -iota; done) | decide)))); conv => whnf)
              refine branchB_of (fun g6 => ?_) (fun g6 => ?_) <;> (first | replace g6 := not_t g6 | replace g6 := not_f g6 | skip) <;> (first | replace g6 := of_decide_eq_true g6 | replace g6 := of_decide_eq_false g6 | skip) <;> (first | replace g6 := Classical.not_not.1 g6 | skip) <;> (try dsimp only at g6)
              · have e3 : f.does c = f.crash c.k := by unfold FD.does; rw [if_neg gm, if_neg g3, if_neg g4, if_neg g5, if_pos g6]
                rw [e3]
                (conv => whnf); repeat ((first | (refine And.intro ?_ ?_; (focus ((repeat' (first | exact trivial | refine And.intro rfl ?_)); done))) | (refine And.intro ?_ ?_; (focus (first | omega | (dsimp -iota only; omega) | (simp -iota; omega) | (simp -iota; done) | decide)))); conv => whnf)
                refine AFn.use [0] (crash_ok f hl c.k) (by kernel_rfl) rfl (by repeat' first | exact trivial | refine ⟨rfl, ?_⟩) fun _ => ?_
                (conv => whnf); repeat ((first | (refine And.intro ?_ ?_; (focus ((repeat' (first | exact trivial | refine And.intro rfl ?_)); done))) | (refine And.intro ?_ ?_; (focus (first | omega | (dsimp -iota only; omega) | (simp -iota; omega) | (simp -iota; done) | decide)))); conv => whnf)
                refine ⟨_, _, Ent.mk' (e' := [(0, .tup [AV.int .u64 0, AV.int .i64 0])]) (H' := one (f.crash c.k).H) [some 0] (by kernel_rfl) ?_ ?_, (), rfl, rfl⟩
                · exact ⟨AVE.refl _, trivial⟩
                · (repeat' first | exact trivial | refine ⟨⟨_, rfl, ChE.refl _⟩, ?_⟩)
              · have e3 : f.does c = f := by unfold FD.does; rw [if_neg gm, if_neg g3, if_neg g4, if_neg g5, if_neg g6]
                rw [e3]
                (conv => whnf); repeat ((first | (refine And.intro ?_ ?_; (focus ((repeat' (first | exact trivial | refine And.intro rfl ?_)); done))) | (refine And.intro ?_ ?_; (focus (first | omega | (dsimp -iota only; omega) | (simp -iota; omega) | (simp -iota; done) | decide)))); conv => whnf)
                refine ⟨_, _, Ent.mk' (e' := [(0, .tup [AV.int .u64 0, AV.int .i64 0])]) (H' := one f.H) [some 0] (by kernel_rfl) ?_ ?_, (), rfl, rfl⟩
                · exact ⟨AVE.refl _, trivial⟩
                · (repeat' first | exact trivial | refine ⟨⟨_, rfl, ChE.refl _⟩, ?_⟩)
/-! What holds of all states since the last Sync. -/
structure FD.In (P : NM → Prop) (f : FD) : Prop where
  eq : f.now = onAll f.safe f.ds
  all : ∀ k, k ≤ f.ds.length → P (onAll f.safe (f.ds.take k))
theorem FD.In.now {P : NM → Prop} {f : FD} (h : f.In P) : P f.now := by
  have := h.all f.ds.length (Nat.le_refl _)
  rw [List.take_length, ← h.eq] at this
  exact this
theorem FD.In.did {P Q : NM → Prop} {f : FD} (h : f.In P) (hPQ : ∀ m, P m → Q m) {D : Deed} (hD : ∀ m, P m → Q (D.on m)) (n : Nat) : (FD.did ⟨f.safe, f.now, f.ds, n⟩ D).In Q := by
  refine ⟨?_, fun k hk => ?_⟩
  · show D.on f.now = onAll f.safe (f.ds ++ [D])
    rw [onAll_snoc, h.eq]
  · show Q (onAll f.safe ((f.ds ++ [D]).take k))
    have hk : k ≤ (f.ds ++ [D]).length := hk
    rw [List.length_append] at hk
    by_cases e : k ≤ f.ds.length
    · rw [List.take_append_of_le_length e]
      exact hPQ _ (h.all k e)
    · rw [List.take_of_length_le (by simp at hk ⊢; omega), onAll_snoc]
      have := h.all f.ds.length (Nat.le_refl _)
      rw [List.take_length] at this
      exact hD _ this
theorem FD.In.mono {P Q : NM → Prop} {f : FD} (h : f.In P) (hPQ : ∀ m, P m → Q m) : f.In Q := ⟨h.eq, fun k hk => hPQ _ (h.all k hk)⟩
theorem FD.In.synced {P : NM → Prop} {f : FD} (h : f.In P) : f.synced.In P := ⟨rfl, fun k _ => by show P (onAll f.now (List.take k [])); rw [List.take_nil]; exact h.now⟩
theorem FD.In.crash {P : NM → Prop} {f : FD} (h : f.In P) (k : Int) : (f.crash k).In P := ⟨rfl, fun j _ => by
  show P (onAll (onAll f.safe (f.ds.take (f.keep k))) (List.take j []))
  rw [List.take_nil]
  exact h.all _ (by unfold FD.keep; omega)⟩
/-- What a call does to names. -/
inductive Does (c : Call) : Deed → Prop
  | mk (n : Nat) (h : mayB c.s = true) : Does c (.mk c.s n)
  | mv (n : Nat) (h : mayB c.s = true) (h2 : mayB c.t = true) (h3 : c.s ≠ c.t) : Does c (.mv c.s c.t n)
  | rm (h : mayB c.s = true) : Does c (.rm c.s)
theorem FD.In.does {P Q : NM → Prop} {f : FD} (h : f.In P) {c : Call} (hPQ : ∀ m, P m → Q m) (hD : ∀ D, Does c D → ∀ m, P m → Q (D.on m)) : (f.does c).In Q := by
  unfold FD.does
  split
  · unfold FD.create
    split
    · rename_i h0
      have hm : mayB c.s = true := by
        unfold FD.createE at h0
        cases hb : mayB c.s with
        | true => rfl
        | false => rw [hb] at h0; simp at h0
      exact h.did hPQ (hD _ (.mk _ hm)) _
    · exact h.mono hPQ
  · split
    · unfold FD.ren
      split
      · rename_i h0
        have hm : mayB c.s = true ∧ mayB c.t = true := by
          have h1 := h0.1
          unfold FD.renE at h1
          cases hb : (mayB c.s && mayB c.t) with
          | true => simpa using hb
          | false => rw [hb] at h1; simp at h1
        exact h.did hPQ (hD _ (.mv _ hm.1 hm.2 h0.2)) _
      · exact h.mono hPQ
    · split
      · unfold FD.rem
        split
        · rename_i h0
          have hm : mayB c.s = true := by
            unfold FD.remE at h0
            cases hb : mayB c.s with
            | true => rfl
            | false => rw [hb] at h0; simp at h0
          exact h.did hPQ (hD _ (.rm hm)) _
        · exact h.mono hPQ
      · split
        · exact (h.mono hPQ).synced
        · split
          · exact (h.mono hPQ).crash _
          · exact h.mono hPQ
theorem did_len (D : Deed) (n : Nat) : (FD.did ⟨f.safe, f.now, f.ds, n⟩ D).ds.length = f.ds.length + 1 := by simp [FD.did]
theorem does_sizes (c : Call) : (f.does c).ds.length ≤ f.ds.length + 1 ∧ (f.does c).last ≤ f.last + 1 := by
  unfold FD.does
  split
  · unfold FD.create
    split
    · exact ⟨by rw [did_len]; exact Nat.le_refl _, Nat.le_refl _⟩
    · exact ⟨by omega, by omega⟩
  · split
    · unfold FD.ren
      split
      · exact ⟨by simp [FD.did], by simp [FD.did]⟩
      · exact ⟨by omega, by omega⟩
    · split
      · unfold FD.rem
        split
        · exact ⟨by simp [FD.did], by simp [FD.did]⟩
        · exact ⟨by omega, by omega⟩
      · split
        · exact ⟨by simp [FD.synced], by simp [FD.synced]⟩
        · split
          · exact ⟨by simp [FD.crash], by simp [FD.crash]⟩
          · exact ⟨by omega, by omega⟩
end
end Go.Proofs.Yteeifedpabcehaa.Ax
