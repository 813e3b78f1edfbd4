/-
  Chapter 23: the document's Edits; a state is like the document's.
-/
import Derived.Test.YtmlhaellfpbcgaaDoorQh
import Derived.Test.YtmlhaellfpbcgaaDoorBo
namespace Go.Proofs.YtmlhaellfpbcgaaDoor.Ax
open Go.RowKit
set_option maxRecDepth 100000
noncomputable def cfgC (l : List Nat) (N b : Nat) : Cfg := { P := Go.Proofs.Tryd.prog, T := tt, wr := false, N := N, pure := [], base := b, cuts := l }
theorem cfgCOk (l : List Nat) (N b : Nat) : (cfgC l N b).Ok := ⟨ttOk, ttBytes, by kernel_rfl⟩
noncomputable def cfgE (N b : Nat) : Cfg := cfgC [1010] N b
theorem cfgEOk (N b : Nat) : (cfgE N b).Ok := cfgCOk _ N b
section
variable (s : SD)
@[reducible] def SD.rch (s : SD) : List (Nat × Chunk) := [(0, .cells 46 [AV.int .u64 s.base, .row 1 3 0 s.sn.l.length, AV.int .u64 s.sn.n, .row 2 5 0 s.sealed.length, AV.int .u32 s.op]), (1, .rowc 98 3 s.sn.l.length (oF s.sn.l)), (2, .rowc 49 5 s.sealed.length (slF s.sealed))]
theorem redits_in (hs : s.In) : AFn Go.Proofs.Tryd.prog 37 [.ptr 0 0] s.R (fun _ : Unit => .iv (.sl 5 s.edits.length (edF s.edits))) (fun _ => s.R) := by
  have hll := list_len16 hs.sn
  have hln := hs.len
  have hl1 : s.ed1.length = s.sn.list.length := List.length_map _
  refine ACall.fin ?_
  refine ACall.walk (C := cfgE 75 3) (cfgEOk _ _) sch37 (fn := Go.Proofs.Tryd.f37) (by kernel_rfl) (by kernel_rfl) rfl (by kernel_rfl) (by kernel_rfl) rfl rfl ?_
  (conv => whnf); repeat ((first | (refine And.intro ?_ ?_; (focus ((repeat' (first | exact trivial | refine And.intro rfl ?_)); done))) | (refine And.intro ?_ ?_; (focus (first | omega | (dsimp -iota only; omega) | (simp -iota; omega) | (simp -iota; done) | decide)))); conv => whnf)
  refine AFn.use [0, 1, 2] (rlist_in s hs.sn) (by kernel_rfl) rfl (by repeat' first | exact trivial | refine ⟨rfl, ?_⟩) fun _ => ?_
  (conv => whnf); repeat ((first | (refine And.intro ?_ ?_; (focus ((repeat' (first | exact trivial | refine And.intro rfl ?_)); done))) | (refine And.intro ?_ ?_; (focus (first | omega | (dsimp -iota only; omega) | (simp -iota; omega) | (simp -iota; done) | decide)))); conv => whnf)
  refine AWP.loop (X := { x : Nat // x ≤ s.sn.list.length }) (fun x => [(0, .ptr 0 0), (3, .row 3 5 0 x.1), (4, .iv (.sl 2 s.sn.list.length (nqF s.sn.list))), (5, AV.int .i64 x.1)]) (fun x => ⟨4, [(0, .cells 46 [AV.int .u64 s.base, .row 1 3 0 s.sn.l.length, AV.int .u64 s.sn.n, .row 2 5 0 s.sealed.length, AV.int .u32 s.op]), (1, .rowc 98 3 s.sn.l.length (oF s.sn.l)), (2, .rowc 49 5 s.sealed.length (slF s.sealed)), (3, .rowc 51 5 x.1 (edF (s.ed1.take x.1)))]⟩) (fun x => s.sn.list.length - x.1) (⟨0, Nat.zero_le _⟩) ?_ fun x => AWP.go (S := sch37) (cfgEOk _ _) (.of_eq (by kernel_rfl)) ?_
  · refine Ent.mk' [some 0, some 1, some 2, none] (by kernel_rfl) ?_ ?_
    · exact ⟨AVE.refl _, AVE.nil _ _, AVE.refl _, AVE.refl _, trivial⟩
    · exact ⟨⟨_, rfl, ChE.refl _⟩, ⟨_, rfl, ChE.refl _⟩, ⟨_, rfl, ChE.refl _⟩, trivial, trivial⟩
  · obtain ⟨i, hi⟩ := x
    have hix : ((i : Nat) : Int).toNat = i := by simp
    (conv => whnf); repeat ((first | (refine And.intro ?_ ?_; (focus ((repeat' (first | exact trivial | refine And.intro rfl ?_)); done))) | (refine And.intro ?_ ?_; (focus (first | omega | (dsimp -iota only; omega) | (simp -iota; omega) | (simp -iota; done) | decide)))); conv => whnf)
    refine branchB_of (fun g => ?_) (fun g => ?_) <;> (first | replace g := not_t g | replace g := not_f g | skip) <;> (first | replace g := of_decide_eq_true g | replace g := of_decide_eq_false g | skip) <;> (first | replace g := Classical.not_not.1 g | skip) <;> (try dsimp only at g)
    · have hi' : i < s.sn.list.length := by omega
      have hk := ed1_take s hi'
      (conv => whnf); repeat ((first | (refine And.intro ?_ ?_; (focus ((repeat' (first | exact trivial | refine And.intro rfl ?_)); done))) | (refine And.intro ?_ ?_; (focus (first | omega | (dsimp -iota only; omega) | (simp -iota; omega) | (simp -iota; done) | decide)))); conv => whnf)
      repeat' (first | (refine And.intro ?_ ?_ <;> ((conv => whnf); repeat ((first | (refine And.intro ?_ ?_; (focus ((repeat' (first | exact trivial | refine And.intro rfl ?_)); done))) | (refine And.intro ?_ ?_; (focus (first | omega | (dsimp -iota only; omega) | (simp -iota; omega) | (simp -iota; done) | decide)))); conv => whnf))))
      all_goals
        rw [hix]
        refine ⟨⟨i + 1, by omega⟩, Ent.mk' [some 0, some 1, some 2, some 5] (by kernel_rfl) (by repeat' first | exact trivial | refine And.intro (AVE.refl _) ?_ | refine And.intro (AVE.int (by first | rfl | omega | (dsimp only; omega) | (simp -iota; omega) | (simp -iota; done))) ?_ | refine And.intro (AVE.bool (by assumption)) ?_ | refine And.intro (AVE.len (by first | rfl | omega | (dsimp only; omega) | (simp -iota; omega) | (simp -iota; done))) ?_) ?_, ?_⟩
        · exact ⟨⟨_, rfl, ChE.refl _⟩, ⟨_, rfl, ChE.refl _⟩, ⟨_, rfl, ChE.refl _⟩, ⟨_, rfl, ChE.rowE (Nat.le_refl _) (by rw [hk]; exact edF_app (by rw [List.length_take]; omega) (fun j _ => IVEs.refl _) (snE_R _))⟩, trivial⟩
        · show s.sn.list.length - (i + 1) < s.sn.list.length - i
          omega
    · have hin : i = s.sn.list.length := by omega
      have hbase : ∀ j, j < i → IVEs (edF (s.ed1.take i) j) (edF s.ed1 j) := fun j _ => by rw [List.take_of_length_le (by omega)]; exact IVEs.refl _
      (conv => whnf); repeat ((first | (refine And.intro ?_ ?_; (focus ((repeat' (first | exact trivial | refine And.intro rfl ?_)); done))) | (refine And.intro ?_ ?_; (focus (first | omega | (dsimp -iota only; omega) | (simp -iota; omega) | (simp -iota; done) | decide)))); conv => whnf)
      refine branchB_of (fun g1 => ?_) (fun g1 => ?_) <;> (first | replace g1 := not_t g1 | replace g1 := not_f g1 | skip) <;> (first | replace g1 := of_decide_eq_true g1 | replace g1 := of_decide_eq_false g1 | skip) <;> (first | replace g1 := Classical.not_not.1 g1 | skip) <;> (try dsimp only at g1)
      · have g1' : s.sealed.length > 0 := by omega
        (conv => whnf); repeat ((first | (refine And.intro ?_ ?_; (focus ((repeat' (first | exact trivial | refine And.intro rfl ?_)); done))) | (refine And.intro ?_ ?_; (focus (first | omega | (dsimp -iota only; omega) | (simp -iota; omega) | (simp -iota; done) | decide)))); conv => whnf)
        refine AFn.use [0, 1, 2] (rlast_in s hs.len) (by kernel_rfl) rfl (by repeat' first | exact trivial | refine ⟨rfl, ?_⟩) fun _ => ?_
        (conv => whnf); repeat ((first | (refine And.intro ?_ ?_; (focus ((repeat' (first | exact trivial | refine And.intro rfl ?_)); done))) | (refine And.intro ?_ ?_; (focus (first | omega | (dsimp -iota only; omega) | (simp -iota; omega) | (simp -iota; done) | decide)))); conv => whnf)
        repeat' (first | (refine And.intro ?_ ?_ <;> ((conv => whnf); repeat ((first | (refine And.intro ?_ ?_; (focus ((repeat' (first | exact trivial | refine And.intro rfl ?_)); done))) | (refine And.intro ?_ ?_; (focus (first | omega | (dsimp -iota only; omega) | (simp -iota; omega) | (simp -iota; done) | decide)))); conv => whnf))))
        all_goals
          refine AWP.of_ent (Ent.freezeIn 5 4 rfl [AV.int .i64 6, .iv (.v (.string ⟨⟨[]⟩⟩)), AV.int .u64 s.last, AV.int .u32 0, .iv (.sl 5 s.sealed.length (slF s.sealed))] rfl ⟨AVF.same _ _ _, AVF.same _ _ _, AVF.same _ _ _, AVF.same _ _ _, AVF.sl (Nat.le_refl _), rfl⟩) ?_
          refine AWP.reg (cfgEOk _ _) ?_
          (conv => whnf); repeat ((first | (refine And.intro ?_ ?_; (focus ((repeat' (first | exact trivial | refine And.intro rfl ?_)); done))) | (refine And.intro ?_ ?_; (focus (first | omega | (dsimp -iota only; omega) | (simp -iota; omega) | (simp -iota; done) | decide)))); conv => whnf)
          refine branchB_of (fun g3 => ?_) (fun g3 => ?_) <;> (first | replace g3 := not_t g3 | replace g3 := not_f g3 | skip) <;> (first | replace g3 := of_decide_eq_true g3 | replace g3 := of_decide_eq_false g3 | skip) <;> (first | replace g3 := Classical.not_not.1 g3 | skip) <;> (try dsimp only at g3)
          · have g3' : s.op > 0 := by omega
            (conv => whnf); repeat ((first | (refine And.intro ?_ ?_; (focus ((repeat' (first | exact trivial | refine And.intro rfl ?_)); done))) | (refine And.intro ?_ ?_; (focus (first | omega | (dsimp -iota only; omega) | (simp -iota; omega) | (simp -iota; done) | decide)))); conv => whnf)
            have he : s.edits = s.ed1 ++ [Edt.mk 6 [] s.last 0 s.sealed] ++ [Edt.mk 4 [] 0 s.op []] := by simp [SD.edits, SD.ed2, SD.ed3, *]
            rw [he]
            refine ⟨_, _, (Ent.freeze 9 _ rfl rfl (e' := [(0, .iv (.sl 5 _ _))]) ⟨AVF.sl (Nat.le_refl _), trivial⟩).trans (Ent.mk' (e' := [(0, .iv (.sl 5 (s.ed1 ++ [Edt.mk 6 [] s.last 0 s.sealed] ++ [Edt.mk 4 [] 0 s.op []]).length (edF (s.ed1 ++ [Edt.mk 6 [] s.last 0 s.sealed] ++ [Edt.mk 4 [] 0 s.op []]))))]) (H' := s.R) [some 0, some 1, some 2] (by kernel_rfl) ?_ ?_), (), rfl, rfl⟩
            · refine ⟨AVE.slE (by simp; omega) ?_, trivial⟩
              refine edF_app (by simp; omega) (edF_app (by dsimp only; omega) (hbase) ?_) ?_
              all_goals first | exact ⟨IVE.refl _, IVE.zs, IVE.refl _, IVE.refl _, IVE.refl _, rfl⟩ | exact ⟨IVE.refl _, IVE.zs, IVE.refl _, IVE.refl _, IVE.nilSl _ _, rfl⟩
            · (repeat' first | exact trivial | refine ⟨⟨_, rfl, ChE.refl _⟩, ?_⟩)
          · have g3' : ¬ s.op > 0 := by omega
            (conv => whnf); repeat ((first | (refine And.intro ?_ ?_; (focus ((repeat' (first | exact trivial | refine And.intro rfl ?_)); done))) | (refine And.intro ?_ ?_; (focus (first | omega | (dsimp -iota only; omega) | (simp -iota; omega) | (simp -iota; done) | decide)))); conv => whnf)
            have he : s.edits = s.ed1 ++ [Edt.mk 6 [] s.last 0 s.sealed] := by simp [SD.edits, SD.ed2, SD.ed3, *]
            rw [he]
            refine ⟨_, _, (Ent.freeze 7 _ rfl rfl (e' := [(0, .iv (.sl 5 _ _))]) ⟨AVF.sl (Nat.le_refl _), trivial⟩).trans (Ent.mk' (e' := [(0, .iv (.sl 5 (s.ed1 ++ [Edt.mk 6 [] s.last 0 s.sealed]).length (edF (s.ed1 ++ [Edt.mk 6 [] s.last 0 s.sealed]))))]) (H' := s.R) [some 0, some 1, some 2] (by kernel_rfl) ?_ ?_), (), rfl, rfl⟩
            · refine ⟨AVE.slE (by simp; omega) ?_, trivial⟩
              refine edF_app (by dsimp only; omega) (hbase) ?_
              all_goals first | exact ⟨IVE.refl _, IVE.zs, IVE.refl _, IVE.refl _, IVE.refl _, rfl⟩ | exact ⟨IVE.refl _, IVE.zs, IVE.refl _, IVE.refl _, IVE.nilSl _ _, rfl⟩
            · (repeat' first | exact trivial | refine ⟨⟨_, rfl, ChE.refl _⟩, ?_⟩)
      · have g1' : ¬ s.sealed.length > 0 := by omega
        (conv => whnf); repeat ((first | (refine And.intro ?_ ?_; (focus ((repeat' (first | exact trivial | refine And.intro rfl ?_)); done))) | (refine And.intro ?_ ?_; (focus (first | omega | (dsimp -iota only; omega) | (simp -iota; omega) | (simp -iota; done) | decide)))); conv => whnf)
        refine AFn.use [0, 1, 2] (rlast_in s hs.len) (by kernel_rfl) rfl (by repeat' first | exact trivial | refine ⟨rfl, ?_⟩) fun _ => ?_
        (conv => whnf); repeat ((first | (refine And.intro ?_ ?_; (focus ((repeat' (first | exact trivial | refine And.intro rfl ?_)); done))) | (refine And.intro ?_ ?_; (focus (first | omega | (dsimp -iota only; omega) | (simp -iota; omega) | (simp -iota; done) | decide)))); conv => whnf)
        refine branchB_of (fun g2 => ?_) (fun g2 => ?_) <;> (first | replace g2 := not_t g2 | replace g2 := not_f g2 | skip) <;> (first | replace g2 := of_decide_eq_true g2 | replace g2 := of_decide_eq_false g2 | skip) <;> (first | replace g2 := Classical.not_not.1 g2 | skip) <;> (try dsimp only at g2)
        · have g2' : s.last > 0 := by omega
          (conv => whnf); repeat ((first | (refine And.intro ?_ ?_; (focus ((repeat' (first | exact trivial | refine And.intro rfl ?_)); done))) | (refine And.intro ?_ ?_; (focus (first | omega | (dsimp -iota only; omega) | (simp -iota; omega) | (simp -iota; done) | decide)))); conv => whnf)
          refine AFn.use [0, 1, 2] (rlast_in s hs.len) (by kernel_rfl) rfl (by repeat' first | exact trivial | refine ⟨rfl, ?_⟩) fun _ => ?_
          (conv => whnf); repeat ((first | (refine And.intro ?_ ?_; (focus ((repeat' (first | exact trivial | refine And.intro rfl ?_)); done))) | (refine And.intro ?_ ?_; (focus (first | omega | (dsimp -iota only; omega) | (simp -iota; omega) | (simp -iota; done) | decide)))); conv => whnf)
          refine branchB_of (fun g3 => ?_) (fun g3 => ?_) <;> (first | replace g3 := not_t g3 | replace g3 := not_f g3 | skip) <;> (first | replace g3 := of_decide_eq_true g3 | replace g3 := of_decide_eq_false g3 | skip) <;> (first | replace g3 := Classical.not_not.1 g3 | skip) <;> (try dsimp only at g3)
          · have g3' : s.op > 0 := by omega
            (conv => whnf); repeat ((first | (refine And.intro ?_ ?_; (focus ((repeat' (first | exact trivial | refine And.intro rfl ?_)); done))) | (refine And.intro ?_ ?_; (focus (first | omega | (dsimp -iota only; omega) | (simp -iota; omega) | (simp -iota; done) | decide)))); conv => whnf)
            have he : s.edits = s.ed1 ++ [Edt.mk 1 [] s.last 0 []] ++ [Edt.mk 4 [] 0 s.op []] := by simp [SD.edits, SD.ed2, SD.ed3, *]
            rw [he]
            refine ⟨_, _, (Ent.freeze 7 _ rfl rfl (e' := [(0, .iv (.sl 5 _ _))]) ⟨AVF.sl (Nat.le_refl _), trivial⟩).trans (Ent.mk' (e' := [(0, .iv (.sl 5 (s.ed1 ++ [Edt.mk 1 [] s.last 0 []] ++ [Edt.mk 4 [] 0 s.op []]).length (edF (s.ed1 ++ [Edt.mk 1 [] s.last 0 []] ++ [Edt.mk 4 [] 0 s.op []]))))]) (H' := s.R) [some 0, some 1, some 2] (by kernel_rfl) ?_ ?_), (), rfl, rfl⟩
            · refine ⟨AVE.slE (by simp; omega) ?_, trivial⟩
              refine edF_app (by simp; omega) (edF_app (by dsimp only; omega) (hbase) ?_) ?_
              all_goals first | exact ⟨IVE.refl _, IVE.zs, IVE.refl _, IVE.refl _, IVE.refl _, rfl⟩ | exact ⟨IVE.refl _, IVE.zs, IVE.refl _, IVE.refl _, IVE.nilSl _ _, rfl⟩
            · (repeat' first | exact trivial | refine ⟨⟨_, rfl, ChE.refl _⟩, ?_⟩)
          · have g3' : ¬ s.op > 0 := by omega
            (conv => whnf); repeat ((first | (refine And.intro ?_ ?_; (focus ((repeat' (first | exact trivial | refine And.intro rfl ?_)); done))) | (refine And.intro ?_ ?_; (focus (first | omega | (dsimp -iota only; omega) | (simp -iota; omega) | (simp -iota; done) | decide)))); conv => whnf)
            have he : s.edits = s.ed1 ++ [Edt.mk 1 [] s.last 0 []] := by simp [SD.edits, SD.ed2, SD.ed3, *]
            rw [he]
            refine ⟨_, _, (Ent.freeze 5 _ rfl rfl (e' := [(0, .iv (.sl 5 _ _))]) ⟨AVF.sl (Nat.le_refl _), trivial⟩).trans (Ent.mk' (e' := [(0, .iv (.sl 5 (s.ed1 ++ [Edt.mk 1 [] s.last 0 []]).length (edF (s.ed1 ++ [Edt.mk 1 [] s.last 0 []]))))]) (H' := s.R) [some 0, some 1, some 2] (by kernel_rfl) ?_ ?_), (), rfl, rfl⟩
            · refine ⟨AVE.slE (by simp; omega) ?_, trivial⟩
              refine edF_app (by dsimp only; omega) (hbase) ?_
              all_goals first | exact ⟨IVE.refl _, IVE.zs, IVE.refl _, IVE.refl _, IVE.refl _, rfl⟩ | exact ⟨IVE.refl _, IVE.zs, IVE.refl _, IVE.refl _, IVE.nilSl _ _, rfl⟩
            · (repeat' first | exact trivial | refine ⟨⟨_, rfl, ChE.refl _⟩, ?_⟩)
        · have g2' : ¬ s.last > 0 := by omega
          (conv => whnf); repeat ((first | (refine And.intro ?_ ?_; (focus ((repeat' (first | exact trivial | refine And.intro rfl ?_)); done))) | (refine And.intro ?_ ?_; (focus (first | omega | (dsimp -iota only; omega) | (simp -iota; omega) | (simp -iota; done) | decide)))); conv => whnf)
          refine branchB_of (fun g3 => ?_) (fun g3 => ?_) <;> (first | replace g3 := not_t g3 | replace g3 := not_f g3 | skip) <;> (first | replace g3 := of_decide_eq_true g3 | replace g3 := of_decide_eq_false g3 | skip) <;> (first | replace g3 := Classical.not_not.1 g3 | skip) <;> (try dsimp only at g3)
          · have g3' : s.op > 0 := by omega
            (conv => whnf); repeat ((first | (refine And.intro ?_ ?_; (focus ((repeat' (first | exact trivial | refine And.intro rfl ?_)); done))) | (refine And.intro ?_ ?_; (focus (first | omega | (dsimp -iota only; omega) | (simp -iota; omega) | (simp -iota; done) | decide)))); conv => whnf)
            have he : s.edits = s.ed1 ++ [Edt.mk 4 [] 0 s.op []] := by simp [SD.edits, SD.ed2, SD.ed3, *]
            rw [he]
            refine ⟨_, _, (Ent.freeze 5 _ rfl rfl (e' := [(0, .iv (.sl 5 _ _))]) ⟨AVF.sl (Nat.le_refl _), trivial⟩).trans (Ent.mk' (e' := [(0, .iv (.sl 5 (s.ed1 ++ [Edt.mk 4 [] 0 s.op []]).length (edF (s.ed1 ++ [Edt.mk 4 [] 0 s.op []]))))]) (H' := s.R) [some 0, some 1, some 2] (by kernel_rfl) ?_ ?_), (), rfl, rfl⟩
            · refine ⟨AVE.slE (by simp; omega) ?_, trivial⟩
              refine edF_app (by dsimp only; omega) (hbase) ?_
              all_goals first | exact ⟨IVE.refl _, IVE.zs, IVE.refl _, IVE.refl _, IVE.refl _, rfl⟩ | exact ⟨IVE.refl _, IVE.zs, IVE.refl _, IVE.refl _, IVE.nilSl _ _, rfl⟩
            · (repeat' first | exact trivial | refine ⟨⟨_, rfl, ChE.refl _⟩, ?_⟩)
          · have g3' : ¬ s.op > 0 := by omega
            (conv => whnf); repeat ((first | (refine And.intro ?_ ?_; (focus ((repeat' (first | exact trivial | refine And.intro rfl ?_)); done))) | (refine And.intro ?_ ?_; (focus (first | omega | (dsimp -iota only; omega) | (simp -iota; omega) | (simp -iota; done) | decide)))); conv => whnf)
            have he : s.edits = s.ed1 := by simp [SD.edits, SD.ed2, SD.ed3, *]
            rw [he]
            refine ⟨_, _, (Ent.freeze 3 _ rfl rfl (e' := [(0, .iv (.sl 5 _ _))]) ⟨AVF.sl (Nat.le_refl _), trivial⟩).trans (Ent.mk' (e' := [(0, .iv (.sl 5 (s.ed1).length (edF (s.ed1))))]) (H' := s.R) [some 0, some 1, some 2] (by kernel_rfl) ?_ ?_), (), rfl, rfl⟩
            · refine ⟨AVE.slE (by simp; omega) ?_, trivial⟩
              refine hbase
            · (repeat' first | exact trivial | refine ⟨⟨_, rfl, ChE.refl _⟩, ?_⟩)
end
end Go.Proofs.YtmlhaellfpbcgaaDoor.Ax

namespace Go.Proofs.YtmlhaellfpbcgaaDoor.Ax
open Go.RowKit
set_option maxRecDepth 100000
theorem SN.free (s : SN) : (Chunk.sem (Nest s.H)).Free := Chunk.Free.nest fun p hp => by
  rcases List.mem_cons.1 hp with rfl | hp
  · exact ⟨Chunk.Free.cells (.cons (.mp _) (.cons (.iv (.v _)) .nil)), rfl⟩
  · rw [List.mem_singleton] at hp
    subst hp
    refine ⟨Chunk.Free.map fun q hq => ?_, rfl⟩
    obtain ⟨x, _, rfl⟩ := List.mem_map.1 hq
    exact .agg (.cons (.v _) (.cons (.v _) .nil))
theorem slF_free (l : List Seal) (i : Nat) : IV.Frees (slF l i) := .cons (.v _) (.cons (.v _) (.cons (.v _) (.cons (.v _) (.cons (.v _) .nil))))
theorem SD.free (s : SD) : (Chunk.sem (Nest s.H)).Free := Chunk.Free.nest fun p hp => by
  rcases List.mem_cons.1 hp with rfl | hp
  · exact ⟨Chunk.Free.cells (.cons (.iv (.v _)) (.cons (.ptr _ _) (.cons (.row _ _ _ _) (.cons (.iv (.v _)) .nil)))), rfl⟩
  rcases List.mem_cons.1 hp with rfl | hp
  · exact ⟨SN.free _, rfl⟩
  · rw [List.mem_singleton] at hp
    subst hp
    exact ⟨Chunk.Free.rowc fun i _ => slF_free _ i, rfl⟩
theorem Tb.free (t : Tb) : t.C.Free := Chunk.Free.gmap fun p hp => by
  simp only [List.mem_cons, List.not_mem_nil, or_false] at hp
  rcases hp with rfl | rfl | rfl | rfl | rfl | rfl <;> exact .v _
@[reducible] def editW (e : Edt) (h : Nat) : AV := .agg [AV.int .i64 e.kind, AV.str e.name, AV.int .u64 e.seq, AV.int .u32 e.id, .row h 5 0 e.seals.length]
theorem applyW_ok (t : Tb) (s : SD) (e : Edt) (hs : s.In) (he : e.In) : AFn Go.Proofs.Tryd.prog 10 [.ptr 0 0, editW e 2] ⟨3, [(0, .sem (Nest s.H)), (1, t.C), (2, .rowc 49 5 e.seals.length (slF e.seals))]⟩ (fun _ : Unit => AV.int .i64 (s.appE e)) (fun _ => ⟨3, [(0, .sem (Nest (s.app e).H)), (1, t.C), (2, .rowc 49 5 e.seals.length (slF e.seals))]⟩) := by
  refine ACall.lend' [.ptr 0 0, editA e] 2 rfl ⟨AVF.same _ _ _, AVF.agg ⟨AVF.same _ _ _, AVF.same _ _ _, AVF.same _ _ _, AVF.same _ _ _, AVF.sl (Nat.le_refl _), rfl⟩, rfl⟩ ?_
  refine AFn.use [0, 1] (apply_ok t s e hs he) (by kernel_rfl) rfl (by repeat' first | exact trivial | refine ⟨rfl, ?_⟩) fun _ => ?_
  refine ⟨.iv (.v _), ⟨⟨SD.free _, rfl, trivial⟩, ⟨Tb.free t, rfl, ⟨(1, t.C), by simp, rfl⟩⟩, trivial⟩, rfl, (), rfl, rfl⟩
theorem equalW_ok (A B : List Seal) (hA : A.length ≤ 1000) (hB : B.length ≤ 1000) : AFn Go.Proofs.Tryd.prog 30 [.iv (.sl 5 A.length (slF A)), .row 0 5 0 B.length] ⟨1, [(0, .rowc 49 5 B.length (slF B))]⟩ (fun _ : Unit => AV.bool (decide (A = B))) (fun _ => ⟨1, [(0, .rowc 49 5 B.length (slF B))]⟩) := by
  refine ACall.lend' [.iv (.sl 5 A.length (slF A)), .iv (.sl 5 B.length (slF B))] 0 rfl ⟨AVF.same _ _ _, AVF.sl (Nat.le_refl _), rfl⟩ ?_
  refine AFn.use [] (equalS_ok A B hA hB) (by kernel_rfl) rfl (by repeat' first | exact trivial | refine ⟨rfl, ?_⟩) fun _ => ?_
  refine ⟨.iv (.v _), trivial, rfl, (), rfl, rfl⟩
end Go.Proofs.YtmlhaellfpbcgaaDoor.Ax

namespace Go.Proofs.YtmlhaellfpbcgaaDoor.Ax
open Go.RowKit
set_option maxRecDepth 100000
set_option maxHeartbeats 4000000 in
theorem like_ok (s : SD) (hs : s.In) (hel : s.edits.length ≤ 1000) (hes : ∀ e ∈ s.edits, e.seals.length ≤ 1000) : AFn Go.Proofs.Tryd.prog 21 [.ptr 0 0, .ptr 1 0] ⟨2, [(0, .sem (Nest s.H)), (1, .sem (Nest s.R))]⟩ (fun _ : Unit => AV.bool true) (fun _ => ⟨2, [(0, .sem (Nest s.H)), (1, .sem (Nest s.R))]⟩) := by
  have hl := hs.len
  have hll := list_len16 hs.sn
  have kq := equal_ok s.sn.list s.sn.list hll hll
  rw [decide_eq_true rfl] at kq
  have kw := equalW_ok s.sealed s.sealed hl hl
  rw [decide_eq_true rfl] at kw
  refine ACall.fin ?_
  refine ACall.walkE (C := cfg 100 2) (cfgOk _ _) sch21 (fn := Go.Proofs.Tryd.f21) (by kernel_rfl) (by kernel_rfl) rfl (by kernel_rfl) (by kernel_rfl) rfl rfl (H1 := openH 1 ⟨2, [(0, .sem (Nest s.H)), (1, .sem (Nest s.R))]⟩ s.R) (fun _ _ => (HEnt.open (H := ⟨2, [(0, .sem (Nest s.H)), (1, .sem (Nest s.R))]⟩) 1 s.R rfl rfl).ent) fun hlen hheap => ?_
  (conv => whnf); repeat ((first | (refine And.intro ?_ ?_; (focus ((repeat' (first | exact trivial | refine And.intro rfl ?_)); done))) | (refine And.intro ?_ ?_; (focus (first | omega | (dsimp -iota only; omega) | (simp -iota; omega) | (simp -iota; done) | decide)))); conv => whnf)
  refine AFn.use [0] (open_ok s) (by kernel_rfl) rfl (by repeat' first | exact trivial | refine ⟨rfl, ?_⟩) fun _ => ?_
  (conv => whnf); repeat ((first | (refine And.intro ?_ ?_; (focus ((repeat' (first | exact trivial | refine And.intro rfl ?_)); done))) | (refine And.intro ?_ ?_; (focus (first | omega | (dsimp -iota only; omega) | (simp -iota; omega) | (simp -iota; done) | decide)))); conv => whnf)
  refine AFn.use [0] (edits_ok s hs) (by kernel_rfl) rfl (by repeat' first | exact trivial | refine ⟨rfl, ?_⟩) fun _ => ?_
  (conv => whnf); repeat ((first | (refine And.intro ?_ ?_; (focus ((repeat' (first | exact trivial | refine And.intro rfl ?_)); done))) | (refine And.intro ?_ ?_; (focus (first | omega | (dsimp -iota only; omega) | (simp -iota; omega) | (simp -iota; done) | decide)))); conv => whnf)
  refine AFn.use [1, 2, 3] (redits_in s hs) (by kernel_rfl) rfl (by repeat' first | exact trivial | refine ⟨rfl, ?_⟩) fun _ => ?_
  (conv => whnf); repeat ((first | (refine And.intro ?_ ?_; (focus ((repeat' (first | exact trivial | refine And.intro rfl ?_)); done))) | (refine And.intro ?_ ?_; (focus (first | omega | (dsimp -iota only; omega) | (simp -iota; omega) | (simp -iota; done) | decide)))); conv => whnf)
  apply AWP.ahead (C := cfg 100 2) ([(7, .iv (.sl 5 s.edits.length (edF s.edits))), (8, .iv (.sl 5 s.edits.length (edF s.edits))), (85, AV.int .i64 s.edits.length), (86, AV.int .i64 0)]) (⟨2, [(0, .sem (Nest s.H)), (1, .sem (Nest s.R))]⟩)
  · intro key
    repeat' (first
      | (refine branchB_of (fun q => ?_) (fun q => ?_) <;> (first | replace q := not_t q | replace q := not_f q | skip) <;> (first | replace q := of_decide_eq_true q | replace q := of_decide_eq_false q | skip) <;> (first | replace q := Classical.not_not.1 q | skip) <;> (try dsimp only at q) <;> (first | (exfalso; first | exact q rfl | omega | exact q (decide_eq_decide.2 (by omega))) | ((conv => whnf); repeat ((first | (refine And.intro ?_ ?_; (focus ((repeat' (first | exact trivial | refine And.intro rfl ?_)); done))) | (refine And.intro ?_ ?_; (focus (first | omega | (dsimp -iota only; omega) | (simp -iota; omega) | (simp -iota; done) | decide)))); conv => whnf))))
      | (refine And.intro ?_ ?_ <;> ((conv => whnf); repeat ((first | (refine And.intro ?_ ?_; (focus ((repeat' (first | exact trivial | refine And.intro rfl ?_)); done))) | (refine And.intro ?_ ?_; (focus (first | omega | (dsimp -iota only; omega) | (simp -iota; omega) | (simp -iota; done) | decide)))); conv => whnf)))
      | (refine AFn.use [0] (base_ok s) (by kernel_rfl) rfl (by repeat' first | exact trivial | refine ⟨rfl, ?_⟩) fun _ => ?_; ((conv => whnf); repeat ((first | (refine And.intro ?_ ?_; (focus ((repeat' (first | exact trivial | refine And.intro rfl ?_)); done))) | (refine And.intro ?_ ?_; (focus (first | omega | (dsimp -iota only; omega) | (simp -iota; omega) | (simp -iota; done) | decide)))); conv => whnf)))
      | (refine AFn.use [0] (last_ok s hl) (by kernel_rfl) rfl (by repeat' first | exact trivial | refine ⟨rfl, ?_⟩) fun _ => ?_; ((conv => whnf); repeat ((first | (refine And.intro ?_ ?_; (focus ((repeat' (first | exact trivial | refine And.intro rfl ?_)); done))) | (refine And.intro ?_ ?_; (focus (first | omega | (dsimp -iota only; omega) | (simp -iota; omega) | (simp -iota; done) | decide)))); conv => whnf)))
      | (refine AFn.use [1, 2, 3] (rlast_in s hl) (by kernel_rfl) rfl (by repeat' first | exact trivial | refine ⟨rfl, ?_⟩) fun _ => ?_; ((conv => whnf); repeat ((first | (refine And.intro ?_ ?_; (focus ((repeat' (first | exact trivial | refine And.intro rfl ?_)); done))) | (refine And.intro ?_ ?_; (focus (first | omega | (dsimp -iota only; omega) | (simp -iota; omega) | (simp -iota; done) | decide)))); conv => whnf)))
      | (refine AFn.use [0] (top_ok s hl) (by kernel_rfl) rfl (by repeat' first | exact trivial | refine ⟨rfl, ?_⟩) fun _ => ?_; ((conv => whnf); repeat ((first | (refine And.intro ?_ ?_; (focus ((repeat' (first | exact trivial | refine And.intro rfl ?_)); done))) | (refine And.intro ?_ ?_; (focus (first | omega | (dsimp -iota only; omega) | (simp -iota; omega) | (simp -iota; done) | decide)))); conv => whnf)))
      | (refine AFn.use [1, 2, 3] (rtop_in s hl) (by kernel_rfl) rfl (by repeat' first | exact trivial | refine ⟨rfl, ?_⟩) fun _ => ?_; ((conv => whnf); repeat ((first | (refine And.intro ?_ ?_; (focus ((repeat' (first | exact trivial | refine And.intro rfl ?_)); done))) | (refine And.intro ?_ ?_; (focus (first | omega | (dsimp -iota only; omega) | (simp -iota; omega) | (simp -iota; done) | decide)))); conv => whnf)))
      | (refine AFn.use [0] (snaps_ok s hs.sn) (by kernel_rfl) rfl (by repeat' first | exact trivial | refine ⟨rfl, ?_⟩) fun _ => ?_; ((conv => whnf); repeat ((first | (refine And.intro ?_ ?_; (focus ((repeat' (first | exact trivial | refine And.intro rfl ?_)); done))) | (refine And.intro ?_ ?_; (focus (first | omega | (dsimp -iota only; omega) | (simp -iota; omega) | (simp -iota; done) | decide)))); conv => whnf)))
      | (refine AFn.use [1, 2, 3] (rlist_in s hs.sn) (by kernel_rfl) rfl (by repeat' first | exact trivial | refine ⟨rfl, ?_⟩) fun _ => ?_; ((conv => whnf); repeat ((first | (refine And.intro ?_ ?_; (focus ((repeat' (first | exact trivial | refine And.intro rfl ?_)); done))) | (refine And.intro ?_ ?_; (focus (first | omega | (dsimp -iota only; omega) | (simp -iota; omega) | (simp -iota; done) | decide)))); conv => whnf)))
      | (refine AFn.use [] (kq) (by kernel_rfl) rfl (by repeat' first | exact trivial | refine ⟨rfl, ?_⟩) fun _ => ?_; ((conv => whnf); repeat ((first | (refine And.intro ?_ ?_; (focus ((repeat' (first | exact trivial | refine And.intro rfl ?_)); done))) | (refine And.intro ?_ ?_; (focus (first | omega | (dsimp -iota only; omega) | (simp -iota; omega) | (simp -iota; done) | decide)))); conv => whnf)))
      | (refine AFn.use [0] (sealed_ok s hl) (by kernel_rfl) rfl (by repeat' first | exact trivial | refine ⟨rfl, ?_⟩) fun _ => ?_; ((conv => whnf); repeat ((first | (refine And.intro ?_ ?_; (focus ((repeat' (first | exact trivial | refine And.intro rfl ?_)); done))) | (refine And.intro ?_ ?_; (focus (first | omega | (dsimp -iota only; omega) | (simp -iota; omega) | (simp -iota; done) | decide)))); conv => whnf)))
      | (refine AFn.use [3] (kw) (by kernel_rfl) rfl (by repeat' first | exact trivial | refine ⟨rfl, ?_⟩) fun _ => ?_; ((conv => whnf); repeat ((first | (refine And.intro ?_ ?_; (focus ((repeat' (first | exact trivial | refine And.intro rfl ?_)); done))) | (refine And.intro ?_ ?_; (focus (first | omega | (dsimp -iota only; omega) | (simp -iota; omega) | (simp -iota; done) | decide)))); conv => whnf))))
    all_goals
      refine AWP.of_ent ?_ key
      refine Ent.trans (HEnt.ent (HEnt.close [1, 2, 3] 1 s.R ?_ ?_)) (Ent.mk' [some 0, some 1] ?_ ?_ ?_)
      · kernel_rfl
      · repeat' first | exact trivial | refine ⟨rfl, ?_⟩
      · kernel_rfl
      · exact ⟨AVE.refl _, AVE.refl _, AVE.refl _, AVE.refl _, trivial⟩
      · (repeat' first | exact trivial | refine ⟨⟨_, rfl, ChE.refl _⟩, ?_⟩)
  refine AWP.loop (X := { k : Nat // k ≤ s.edits.length }) (fun x => [(7, .iv (.sl 5 s.edits.length (edF s.edits))), (8, .iv (.sl 5 s.edits.length (edF s.edits))), (85, AV.int .i64 s.edits.length), (86, AV.int .i64 x.1)]) (fun x => ⟨2, [(0, .sem (Nest s.H)), (1, .sem (Nest s.R))]⟩) (fun x => s.edits.length - x.1) (⟨0, Nat.zero_le _⟩) ?_ fun x => AWP.go (S := sch21) (cfgOk _ _) (.of_eq (by kernel_rfl)) ?_
  · exact Ent.mk' [some 0, some 1] (by kernel_rfl) (by repeat' first | exact trivial | refine And.intro (AVE.refl _) ?_ | refine And.intro (AVE.int (by first | rfl | omega | (dsimp only; omega) | (simp -iota; omega) | (simp -iota; done))) ?_ | refine And.intro (AVE.bool (by assumption)) ?_ | refine And.intro (AVE.len (by first | rfl | omega | (dsimp only; omega) | (simp -iota; omega) | (simp -iota; done))) ?_) (by repeat' (first | exact trivial | refine ⟨⟨_, rfl, ChE.refl _⟩, ?_⟩))
  · obtain ⟨k, hk⟩ := x
    have hkx : ((k : Nat) : Int).toNat = k := by simp
    (conv => whnf); repeat ((first | (refine And.intro ?_ ?_; (focus ((repeat' (first | exact trivial | refine And.intro rfl ?_)); done))) | (refine And.intro ?_ ?_; (focus (first | omega | (dsimp -iota only; omega) | (simp -iota; omega) | (simp -iota; done) | decide)))); conv => whnf)
    refine branchB_of (fun g => ?_) (fun g => ?_) <;> (first | replace g := not_t g | replace g := not_f g | skip) <;> (first | replace g := of_decide_eq_true g | replace g := of_decide_eq_false g | skip) <;> (first | replace g := Classical.not_not.1 g | skip) <;> (try dsimp only at g)
    · have hk' : k < s.edits.length := by omega
      have hes' : (s.edits.getD k default).seals.length ≤ 1000 := by
        rw [List.getD_eq_getElem?_getD, List.getElem?_eq_getElem hk']
        exact hes _ (List.getElem_mem hk')
      have ks := rsame_ok (s.edits.getD k default) (s.edits.getD k default) hes'
      rw [decide_eq_true rfl] at ks
      (conv => whnf); repeat ((first | (refine And.intro ?_ ?_; (focus ((repeat' (first | exact trivial | refine And.intro rfl ?_)); done))) | (refine And.intro ?_ ?_; (focus (first | omega | (dsimp -iota only; omega) | (simp -iota; omega) | (simp -iota; done) | decide)))); conv => whnf)
      repeat' (first | (refine And.intro ?_ ?_ <;> ((conv => whnf); repeat ((first | (refine And.intro ?_ ?_; (focus ((repeat' (first | exact trivial | refine And.intro rfl ?_)); done))) | (refine And.intro ?_ ?_; (focus (first | omega | (dsimp -iota only; omega) | (simp -iota; omega) | (simp -iota; done) | decide)))); conv => whnf))))
      all_goals
        rw [hkx]
        refine AFn.use [] (ks) (by kernel_rfl) rfl (by repeat' first | exact trivial | refine ⟨rfl, ?_⟩) fun _ => ?_
        (conv => whnf); repeat ((first | (refine And.intro ?_ ?_; (focus ((repeat' (first | exact trivial | refine And.intro rfl ?_)); done))) | (refine And.intro ?_ ?_; (focus (first | omega | (dsimp -iota only; omega) | (simp -iota; omega) | (simp -iota; done) | decide)))); conv => whnf)
        refine ⟨⟨k + 1, by omega⟩, Ent.mk' [some 0, some 1] (by kernel_rfl) (by repeat' first | exact trivial | refine And.intro (AVE.refl _) ?_ | refine And.intro (AVE.int (by first | rfl | omega | (dsimp only; omega) | (simp -iota; omega) | (simp -iota; done))) ?_ | refine And.intro (AVE.bool (by assumption)) ?_ | refine And.intro (AVE.len (by first | rfl | omega | (dsimp only; omega) | (simp -iota; omega) | (simp -iota; done))) ?_) (by repeat' (first | exact trivial | refine ⟨⟨_, rfl, ChE.refl _⟩, ?_⟩)), ?_⟩
        show s.edits.length - (k + 1) < s.edits.length - k
        omega
    · (conv => whnf); repeat ((first | (refine And.intro ?_ ?_; (focus ((repeat' (first | exact trivial | refine And.intro rfl ?_)); done))) | (refine And.intro ?_ ?_; (focus (first | omega | (dsimp -iota only; omega) | (simp -iota; omega) | (simp -iota; done) | decide)))); conv => whnf)
      refine ⟨_, _, Ent.mk' (e' := [(0, AV.bool true)]) (H' := ⟨2, [(0, .sem (Nest s.H)), (1, .sem (Nest s.R))]⟩) [some 0, some 1] (by kernel_rfl) ?_ ?_, (), rfl, rfl⟩
      · exact ⟨AVE.refl _, trivial⟩
      · (repeat' first | exact trivial | refine ⟨⟨_, rfl, ChE.refl _⟩, ?_⟩)
end Go.Proofs.YtmlhaellfpbcgaaDoor.Ax
