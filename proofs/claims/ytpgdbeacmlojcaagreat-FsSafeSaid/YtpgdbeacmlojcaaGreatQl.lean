/-
  Chapter 07: calls of the laws.
-/
import Derived.Test.YtpgdbeacmlojcaaGreatQk
namespace Go.Proofs.YtpgdbeacmlojcaaGreat.Ax
open Go.RowKit
set_option maxRecDepth 100000
theorem str_ext {A B : List (List UInt8)} (h : A.length = B.length) (hj : ∀ j, j < A.length → A.getD j [] = B.getD j []) : A = B := by
  refine List.ext_getElem h fun j h1 h2 => ?_
  have := hj j h1
  simpa [List.getD, h1, h2] using this
theorem equalS_ok (A B : List (List UInt8)) (hA : A.length ≤ 1000000) (hB : B.length ≤ 1000000) : AFn Go.Proofs.Tryz.prog 23 [.iv (strRow A), .iv (strRow B)] ⟨0, []⟩ (fun _ : Unit => AV.bool (decide (A = B))) (fun _ => ⟨0, []⟩) := by
  refine ACall.walk (C := cfg 26 0) (cfgOk _ _) sch23 (fn := Go.Proofs.Tryz.f23) (by kernel_rfl) (by kernel_rfl) rfl (by kernel_rfl) (by kernel_rfl) rfl rfl ?_
  (conv => whnf); repeat (refine sideI ?_; conv => whnf)
  refine branchB_of (fun h => ?_) (fun h => ?_) <;> (first | replace h := not_t h | replace h := not_f h | skip) <;> (first | replace h := of_decide_eq_true h | replace h := of_decide_eq_false h | skip) <;> (first | replace h := Classical.not_not.1 h | skip) <;> (try dsimp only at h)
  · (conv => whnf); repeat (refine sideI ?_; conv => whnf)
    refine ⟨(), ?_, rfl⟩
    congr 3
    exact (decide_eq_false fun e => by subst e; exact h rfl).symm
  · have hl : A.length = B.length := by omega
    (conv => whnf); repeat (refine sideI ?_; conv => whnf)
    refine AWP.loop (X := { x : Nat // x ≤ A.length ∧ ∀ j, j < x → A.getD j [] = B.getD j [] }) (fun x => [(0, .iv (strRow A)), (1, .iv (strRow B)), (12, AV.int .i64 A.length), (13, AV.int .i64 x.1)]) (fun x => ⟨0, []⟩) (fun x => A.length - x.1) (⟨0, by omega, fun j hj => by omega⟩) ?_ fun x => AWP.go (S := sch23) (cfgOk _ _) (.of_eq (by kernel_rfl)) ?_
    · exact Ent.mkA []
    · obtain ⟨x, hx, hj⟩ := x
      have hxx : ((x : Nat) : Int).toNat = x := by simp
      (conv => whnf); repeat (refine sideI ?_; conv => whnf)
      refine branchB_of (fun g => ?_) (fun g => ?_) <;> (first | replace g := not_t g | replace g := not_f g | skip) <;> (first | replace g := of_decide_eq_true g | replace g := of_decide_eq_false g | skip) <;> (first | replace g := Classical.not_not.1 g | skip) <;> (try dsimp only at g)
      · (conv => whnf); repeat (refine sideI ?_; conv => whnf)
        refine branchB_of (fun g2 => ?_) (fun g2 => ?_) <;> (first | replace g2 := not_t g2 | replace g2 := not_f g2 | skip) <;> (first | replace g2 := of_decide_eq_true g2 | replace g2 := of_decide_eq_false g2 | skip) <;> (first | replace g2 := Classical.not_not.1 g2 | skip) <;> (try dsimp only at g2)
        · have hne : A ≠ B := fun e => by
            subst e
            simp at g2
          (conv => whnf); repeat (refine sideI ?_; conv => whnf)
          refine ⟨(), ?_, rfl⟩
          congr 3
          exact (decide_eq_false hne).symm
        · rw [hxx] at g2
          (conv => whnf); repeat (refine sideI ?_; conv => whnf)
          refine ⟨⟨x + 1, by omega, fun j hj' => ?_⟩, Ent.mkA [], ?_⟩
          · by_cases e : j = x
            · subst e
              exact g2
            · exact hj j (by omega)
          · show A.length - (x + 1) < A.length - x
            omega
      · (conv => whnf); repeat (refine sideI ?_; conv => whnf)
        refine ⟨(), ?_, rfl⟩
        congr 3
        exact (decide_eq_true (str_ext hl fun j hjl => hj j (by omega))).symm
theorem bequal_ok (a b : List UInt8) : AFn Go.Proofs.Tryz.prog 56 [.iv (.bs a), .iv (.bs b)] ⟨0, []⟩ (fun _ : Unit => AV.bool (decide (a = b))) (fun _ => ⟨0, []⟩) := by
  refine ACall.walk (C := cfg 10 0) (cfgOk _ _) [] (fn := Go.Proofs.Tryz.f56) (by kernel_rfl) (by kernel_rfl) rfl (by kernel_rfl) (by kernel_rfl) rfl rfl ?_
  conv => whnf
  exact ⟨(), rfl, rfl⟩
theorem prefix_ok (a b : List UInt8) : AFn Go.Proofs.Tryz.prog 19 [.iv (.bs a), .iv (.bs b)] ⟨0, []⟩ (fun _ : Unit => AV.bool (decide (b <+: a))) (fun _ => ⟨0, []⟩) := by
  refine ACall.fin ?_
  refine ACall.walk (C := cfg 18 0) (cfgOk _ _) [] (fn := Go.Proofs.Tryz.f19) (by kernel_rfl) (by kernel_rfl) rfl (by kernel_rfl) (by kernel_rfl) rfl rfl ?_
  (conv => whnf); repeat (refine sideI ?_; conv => whnf)
  by_cases h1 : (a.length : Int) ≥ b.length
  · rw [decide_eq_true h1]
    (conv => whnf); repeat (refine sideI ?_; conv => whnf)
    refine AFn.useA [] (bequal_ok (a.take b.length) b) fun _ => ?_
    (conv => whnf); repeat (refine sideI ?_; conv => whnf)
    refine ⟨_, _, Ent.mk' (e' := [(0, AV.bool (decide (b <+: a)))]) (H' := ⟨0, []⟩) [] (by kernel_rfl) ?_ ?_, (), rfl, rfl⟩
    · refine ⟨AVE.bool ?_, trivial⟩
      rw [decide_eq_decide, List.prefix_iff_eq_take]
      exact eq_comm
    · trivial
  · rw [decide_eq_false h1]
    (conv => whnf); repeat (refine sideI ?_; conv => whnf)
    refine ⟨_, _, Ent.mk' (e' := [(0, AV.bool (decide (b <+: a)))]) (H' := ⟨0, []⟩) [] (by kernel_rfl) ?_ ?_, (), rfl, rfl⟩
    · refine ⟨AVE.bool ?_, trivial⟩
      rw [eq_comm, decide_eq_false_iff_not]
      intro h2
      have := h2.length_le
      omega
    · trivial
theorem iclone_ok (P : List Int) (hn : P.length ≤ 17592186044416) : AFn Go.Proofs.Tryz.prog 15 [.iv (iRow P)] ⟨0, []⟩ (fun _ : Unit => .row 0 1 0 P.length) (fun _ => ⟨1, [(0, .rowc 3 1 P.length (iF P))]⟩) := by
  refine ACall.fin ?_
  refine ACall.walk (C := cfg 8 0) (cfgOk _ _) [] (fn := Go.Proofs.Tryz.f15) (by kernel_rfl) (by kernel_rfl) rfl (by kernel_rfl) (by kernel_rfl) rfl rfl ?_
  cases hP : P with
  | nil =>
    (conv => whnf); repeat (refine sideI ?_; conv => whnf)
    refine And.intro ?_ ?_ <;> ((conv => whnf); repeat (refine sideI ?_; conv => whnf))
    · refine ⟨_, _, Ent.mk' (e' := [(0, .row 0 1 0 0)]) (H' := ⟨1, [(0, .rowc 3 1 0 (iF []))]⟩) [none] (by kernel_rfl) ?_ ?_, (), rfl, rfl⟩
      · exact ⟨AVE.nil _ _, trivial⟩
      · exact ⟨trivial, trivial⟩
    · refine ⟨_, _, Ent.mk' (e' := [(0, .row 0 1 0 0)]) (H' := ⟨1, [(0, .rowc 3 1 0 (iF []))]⟩) [some 1] (by kernel_rfl) ?_ ?_, (), rfl, rfl⟩
      · exact ⟨AVE.refl _, trivial⟩
      · exact ⟨⟨_, rfl, ChE.row (Nat.zero_le _) fun i hi => absurd hi (Nat.not_lt_zero _)⟩, trivial⟩
  | cons p P' =>
    subst hP
    (conv => whnf); repeat (refine sideI ?_; conv => whnf)
    refine ⟨_, _, Ent.mk' (e' := [(0, .row 0 1 0 (p :: P').length)]) (H' := ⟨1, [(0, .rowc 3 1 (p :: P').length (iF (p :: P')))]⟩) [some 1] (by kernel_rfl) ?_ ?_, (), rfl, rfl⟩
    · exact ⟨AVE.len (by simp), trivial⟩
    · exact ⟨⟨_, rfl, ChE.row (by simp) fun i hi => by simp⟩, trivial⟩
/-- A number's lowest thirty bits. -/
def mask (p : Int) : Int := bitK .and .i64 p 1073741823
theorem mask_le (p : Int) : 0 ≤ mask p ∧ mask p ≤ 1073741823 := by
  have h : (BitVec.ofInt IntKind.i64.bits p &&& BitVec.ofInt IntKind.i64.bits 1073741823).toNat ≤ 1073741823 := by
    rw [BitVec.toNat_and]
    exact Nat.le_trans Nat.and_le_right (by decide)
  unfold mask bitK
  simp only
  generalize (BitVec.ofInt IntKind.i64.bits p &&& BitVec.ofInt IntKind.i64.bits 1073741823).toNat = n at h
  have e : ((n : Int) % (2 ^ IntKind.i64.bits : Int)) = n := Int.emod_eq_of_lt (by omega) (by show (n : Int) < 18446744073709551616; omega)
  unfold IntKind.wrap
  simp only
  rw [e]
  rw [if_neg (by rw [Bool.and_eq_true, decide_eq_true_eq]; rintro ⟨_, h2⟩; have h2 : (9223372036854775808 : Int) ≤ n := h2; omega)]
  omega
def maskTo (P : List Int) (i : Nat) : List Int := (P.take i).map mask ++ P.drop i
end Go.Proofs.YtpgdbeacmlojcaaGreat.Ax

namespace Go.Proofs.YtpgdbeacmlojcaaGreat.Ax
open Go.RowKit
set_option maxRecDepth 100000
structure FAct where
  what : Int
  name : List UInt8
  to : List UInt8
  n : Int
  m : Int
  b : List UInt8
  picks : List Int
instance : Inhabited FAct := ⟨⟨0, [], [], 0, 0, [], []⟩⟩
@[reducible] def actF (a : FAct) : List IV := [.v (.int .i64 a.what), .str a.name, .str a.to, .v (.int .i64 a.n), .v (.int .i64 a.m), .bs a.b, iRow a.picks]
structure FAct.Ok (a : FAct) : Prop where
  n : a.n ≤ 9223372036854775807
  b : a.b.length ≤ 9223372036854775807
  pl : a.picks.length ≤ 9223372036854775807
noncomputable def cfgFb (N b : Nat) : Cfg := { P := Go.Proofs.Tryz.prog, T := tt, wr := false, N := N, pure := [], base := b, frz := fun op => match op with | .box .. => true | _ => false }
theorem cfgFbOk (N b : Nat) : (cfgFb N b).Ok := ⟨ttOk, ttBytes, by kernel_rfl⟩
def VM.crashA (P : List Int) (v : VM) : VM := if P.any (fun p => decide (p < 0)) = true then v else v.crash P
def VM.crashAE (P : List Int) : Int := if P.any (fun p => decide (p < 0)) = true then 1 else 0
def isApp (w : Int) : Prop := w = 1 ∨ w = 2
instance (w : Int) : Decidable (isApp w) := by unfold isApp; infer_instance
def VM.does (a : FAct) (v : VM) : VM :=
  if a.what = 0 then v.create a.name else if isApp a.what then v.append a.name (a.b.take 60) else if a.what = 3 then v.trunc a.name a.n else if a.what = 4 then v.sync a.name else if a.what = 5 then v.syncDir
  else if a.what = 6 then v.rename a.name a.to else if a.what = 7 then v.remove a.name else if a.what = 9 then v.fuseSet a.n else if a.what = 11 then v.crashA a.picks else v
def VM.doesE (a : FAct) (v : VM) : Int :=
  if a.what = 0 then v.createE a.name else if isApp a.what then v.appendE a.name (a.b.take 60) else if a.what = 3 then v.truncE a.name a.n else if a.what = 4 then v.syncE a.name else if a.what = 5 then v.syncDirE
  else if a.what = 6 then v.renameE a.name a.to else if a.what = 7 then v.removeE a.name else if a.what = 9 then v.powE else if a.what = 11 then VM.crashAE a.picks else 0
theorem VM.Ok.crashA {n B k : Nat} {v : VM} (h : v.Ok n B k) (P : List Int) : (v.crashA P).Ok n B k := by
  unfold VM.crashA
  split
  · exact h
  · exact h.crash P
theorem VM.Ok.does {n B k : Nat} {v : VM} (h : v.Ok n B k) {a : FAct} (ha : a.Ok) : (v.does a).Ok (n + 1) (B + 60) (k + 1) := by
  have up : ∀ {v' : VM} {B' k' : Nat}, v'.Ok (n + 1) B' k' → B' ≤ B + 60 → k' ≤ k + 1 → v'.Ok (n + 1) (B + 60) (k + 1) := fun h h1 h2 => h.more (Nat.le_refl _) h1 h2
  have up0 : ∀ {v' : VM} {k' : Nat}, v'.Ok n B k' → k' ≤ k + 1 → v'.Ok (n + 1) (B + 60) (k + 1) := fun h h2 => h.more (Nat.le_succ _) (Nat.le_add_right _ _) h2
  have l60 : (a.b.take 60).length ≤ 60 := by simp; omega
  unfold VM.does
  split
  · exact up (h.create _) (by omega) (Nat.le_refl _)
  · split
    · exact up (h.append _ _) (by omega) (Nat.le_refl _)
    · split
      · exact up (h.trunc _ _) (by omega) (Nat.le_refl _)
      · split
        · exact up0 (h.sync _) (Nat.le_refl _)
        · split
          · exact up h.syncDir (by omega) (Nat.le_refl _)
          · split
            · exact up (h.rename _ _) (by omega) (Nat.le_refl _)
            · split
              · exact up (h.remove _) (by omega) (Nat.le_refl _)
              · split
                · exact up0 (h.fuseSet ha.n) (Nat.le_succ _)
                · split
                  · exact up0 (h.crashA _) (Nat.le_succ _)
                  · exact up0 h (Nat.le_succ _)
section
variable {n B k : Nat} {v : VM} (h : v.Ok n B k) (hn : n ≤ 490) (hB : B ≤ 80000000) (hk : k ≤ 900000000)
include h hn hB hk
theorem fdoes_ok {a : FAct} (ha : a.Ok) : AFn Go.Proofs.Tryz.prog 8 [.ptr 0 0, .agg ((actF a).map .iv)] (fone v) (fun _ : Unit => AV.int .i64 (v.doesE a)) (fun _ => fone (v.does a)) := by
  have hb := ha.b
  refine ACall.fin ?_
  refine ACall.walk (C := cfgFb 71 1) (cfgFbOk _ _) sch8 (fn := Go.Proofs.Tryz.f8) (by kernel_rfl) (by kernel_rfl) rfl (by kernel_rfl) (by kernel_rfl) rfl rfl ?_
  (conv => whnf); repeat (refine sideI ?_; conv => whnf)
  refine branchB_of (fun g0 => ?_) (fun g0 => ?_) <;> (first | replace g0 := not_t g0 | replace g0 := not_f g0 | skip) <;> (first | replace g0 := of_decide_eq_true g0 | replace g0 := of_decide_eq_false g0 | skip) <;> (first | replace g0 := Classical.not_not.1 g0 | skip) <;> (try dsimp only at g0)
  · rw [show v.doesE a = v.createE a.name from if_pos g0, show v.does a = v.create a.name from if_pos g0]
    (conv => whnf); repeat (refine sideI ?_; conv => whnf)
    refine AFn.useA [0] (fsCreate h hn hB hk a.name) fun _ => ?_
    (conv => whnf); repeat (refine sideI ?_; conv => whnf)
    refine ⟨_, _, Ent.mk' (e' := [(0, AV.int .i64 (v.createE a.name))]) (H' := fone (v.create a.name)) [some 0] (by kernel_rfl) ?_ ?_, (), rfl, rfl⟩
    · exact ⟨AVE.refl _, trivial⟩
    · exact subC
  · (conv => whnf); repeat (refine sideI ?_; conv => whnf)
    refine branchB_of (fun g1 => ?_) (fun g1 => ?_) <;> (first | replace g1 := not_t g1 | replace g1 := not_f g1 | skip) <;> (first | replace g1 := of_decide_eq_true g1 | replace g1 := of_decide_eq_false g1 | skip) <;> (first | replace g1 := Classical.not_not.1 g1 | skip) <;> (try dsimp only at g1)
    · have ga : isApp a.what := .inl g1
      (conv => whnf); repeat (refine sideI ?_; conv => whnf)
      repeat' (refine And.intro ?_ ?_ <;> ((conv => whnf); repeat (refine sideI ?_; conv => whnf)))
      all_goals
        rw [show v.doesE a = v.appendE a.name (a.b.take 60) by unfold VM.doesE; rw [if_neg g0, if_pos ga], show v.does a = v.append a.name (a.b.take 60) by unfold VM.does; rw [if_neg g0, if_pos ga]]
        have ec : List.take ((min (a.b.length : Int) 60).toNat - Int.toNat 0) (List.drop (Int.toNat 0) a.b) = a.b.take 60 := by
          rw [show Int.toNat 0 = 0 from rfl, List.drop_zero, Nat.sub_zero]
          rcases Nat.le_total a.b.length 60 with h6 | h6
          · rw [show (min (a.b.length : Int) 60).toNat = a.b.length by omega, List.take_length, List.take_of_length_le h6]
          · rw [show (min (a.b.length : Int) 60).toNat = 60 by omega]
        refine AFn.use [0] (fsAppend h hn hB hk a.name (a.b.take 60) (by simp; omega)) (by kernel_rfl) ?_ (by repeat' first | exact trivial | refine ⟨rfl, ?_⟩) fun _ => ?_
        · show [AV.ptr 0 0, AV.str a.name, AV.iv (.bs (List.take ((min (a.b.length : Int) 60).toNat - Int.toNat 0) (List.drop (Int.toNat 0) a.b)))] = [AV.ptr 0 0, AV.str a.name, AV.iv (.bs (a.b.take 60))]
          rw [ec]
        (conv => whnf); repeat (refine sideI ?_; conv => whnf)
        refine ⟨_, _, Ent.mk' (e' := [(0, AV.int .i64 (v.appendE a.name (a.b.take 60)))]) (H' := fone (v.append a.name (a.b.take 60))) [some 0] (by kernel_rfl) ?_ ?_, (), rfl, rfl⟩
        · exact ⟨AVE.refl _, trivial⟩
        · exact subC
    · (conv => whnf); repeat (refine sideI ?_; conv => whnf)
      refine branchB_of (fun g2 => ?_) (fun g2 => ?_) <;> (first | replace g2 := not_t g2 | replace g2 := not_f g2 | skip) <;> (first | replace g2 := of_decide_eq_true g2 | replace g2 := of_decide_eq_false g2 | skip) <;> (first | replace g2 := Classical.not_not.1 g2 | skip) <;> (try dsimp only at g2)
      · have ga : isApp a.what := .inr g2
        (conv => whnf); repeat (refine sideI ?_; conv => whnf)
        repeat' (refine And.intro ?_ ?_ <;> ((conv => whnf); repeat (refine sideI ?_; conv => whnf)))
        all_goals
          rw [show v.doesE a = v.appendE a.name (a.b.take 60) by unfold VM.doesE; rw [if_neg g0, if_pos ga], show v.does a = v.append a.name (a.b.take 60) by unfold VM.does; rw [if_neg g0, if_pos ga]]
          have ec : List.take ((min (a.b.length : Int) 60).toNat - Int.toNat 0) (List.drop (Int.toNat 0) a.b) = a.b.take 60 := by
            rw [show Int.toNat 0 = 0 from rfl, List.drop_zero, Nat.sub_zero]
            rcases Nat.le_total a.b.length 60 with h6 | h6
            · rw [show (min (a.b.length : Int) 60).toNat = a.b.length by omega, List.take_length, List.take_of_length_le h6]
            · rw [show (min (a.b.length : Int) 60).toNat = 60 by omega]
          refine AFn.use [0] (fsAppend h hn hB hk a.name (a.b.take 60) (by simp; omega)) (by kernel_rfl) ?_ (by repeat' first | exact trivial | refine ⟨rfl, ?_⟩) fun _ => ?_
          · show [AV.ptr 0 0, AV.str a.name, AV.iv (.bs (List.take ((min (a.b.length : Int) 60).toNat - Int.toNat 0) (List.drop (Int.toNat 0) a.b)))] = [AV.ptr 0 0, AV.str a.name, AV.iv (.bs (a.b.take 60))]
            rw [ec]
          (conv => whnf); repeat (refine sideI ?_; conv => whnf)
          refine ⟨_, _, Ent.mk' (e' := [(0, AV.int .i64 (v.appendE a.name (a.b.take 60)))]) (H' := fone (v.append a.name (a.b.take 60))) [some 0] (by kernel_rfl) ?_ ?_, (), rfl, rfl⟩
          · exact ⟨AVE.refl _, trivial⟩
          · exact subC
      · have gna : ¬ isApp a.what := fun h => by rcases h with h | h <;> contradiction
        (conv => whnf); repeat (refine sideI ?_; conv => whnf)
        refine branchB_of (fun g3 => ?_) (fun g3 => ?_) <;> (first | replace g3 := not_t g3 | replace g3 := not_f g3 | skip) <;> (first | replace g3 := of_decide_eq_true g3 | replace g3 := of_decide_eq_false g3 | skip) <;> (first | replace g3 := Classical.not_not.1 g3 | skip) <;> (try dsimp only at g3)
        · rw [show v.doesE a = v.truncE a.name a.n by unfold VM.doesE; rw [if_neg g0, if_neg gna, if_pos g3], show v.does a = v.trunc a.name a.n by unfold VM.does; rw [if_neg g0, if_neg gna, if_pos g3]]
          (conv => whnf); repeat (refine sideI ?_; conv => whnf)
          refine AFn.useA [0] (fsTrunc h hn hB hk a.name a.n) fun _ => ?_
          (conv => whnf); repeat (refine sideI ?_; conv => whnf)
          refine ⟨_, _, Ent.mk' (e' := [(0, AV.int .i64 (v.truncE a.name a.n))]) (H' := fone (v.trunc a.name a.n)) [some 0] (by kernel_rfl) ?_ ?_, (), rfl, rfl⟩
          · exact ⟨AVE.refl _, trivial⟩
          · exact subC
        · (conv => whnf); repeat (refine sideI ?_; conv => whnf)
          refine branchB_of (fun g4 => ?_) (fun g4 => ?_) <;> (first | replace g4 := not_t g4 | replace g4 := not_f g4 | skip) <;> (first | replace g4 := of_decide_eq_true g4 | replace g4 := of_decide_eq_false g4 | skip) <;> (first | replace g4 := Classical.not_not.1 g4 | skip) <;> (try dsimp only at g4)
          · rw [show v.doesE a = v.syncE a.name by unfold VM.doesE; rw [if_neg g0, if_neg gna, if_neg g3, if_pos g4], show v.does a = v.sync a.name by unfold VM.does; rw [if_neg g0, if_neg gna, if_neg g3, if_pos g4]]
            (conv => whnf); repeat (refine sideI ?_; conv => whnf)
            refine AFn.useA [0] (fsSync h hn hB hk a.name) fun _ => ?_
            (conv => whnf); repeat (refine sideI ?_; conv => whnf)
            refine ⟨_, _, Ent.mk' (e' := [(0, AV.int .i64 (v.syncE a.name))]) (H' := fone (v.sync a.name)) [some 0] (by kernel_rfl) ?_ ?_, (), rfl, rfl⟩
            · exact ⟨AVE.refl _, trivial⟩
            · exact subC
          · (conv => whnf); repeat (refine sideI ?_; conv => whnf)
            refine branchB_of (fun g5 => ?_) (fun g5 => ?_) <;> (first | replace g5 := not_t g5 | replace g5 := not_f g5 | skip) <;> (first | replace g5 := of_decide_eq_true g5 | replace g5 := of_decide_eq_false g5 | skip) <;> (first | replace g5 := Classical.not_not.1 g5 | skip) <;> (try dsimp only at g5)
            · rw [show v.doesE a = v.syncDirE by unfold VM.doesE; rw [if_neg g0, if_neg gna, if_neg g3, if_neg g4, if_pos g5], show v.does a = v.syncDir by unfold VM.does; rw [if_neg g0, if_neg gna, if_neg g3, if_neg g4, if_pos g5]]
              (conv => whnf); repeat (refine sideI ?_; conv => whnf)
              refine AFn.useA [0] (fsSyncDir h hn hB hk) fun _ => ?_
              (conv => whnf); repeat (refine sideI ?_; conv => whnf)
              refine ⟨_, _, Ent.mk' (e' := [(0, AV.int .i64 v.syncDirE)]) (H' := fone v.syncDir) [some 0] (by kernel_rfl) ?_ ?_, (), rfl, rfl⟩
              · exact ⟨AVE.refl _, trivial⟩
              · exact subC
            · (conv => whnf); repeat (refine sideI ?_; conv => whnf)
              refine branchB_of (fun g6 => ?_) (fun g6 => ?_) <;> (first | replace g6 := not_t g6 | replace g6 := not_f g6 | skip) <;> (first | replace g6 := of_decide_eq_true g6 | replace g6 := of_decide_eq_false g6 | skip) <;> (first | replace g6 := Classical.not_not.1 g6 | skip) <;> (try dsimp only at g6)
              · rw [show v.doesE a = v.renameE a.name a.to by unfold VM.doesE; rw [if_neg g0, if_neg gna, if_neg g3, if_neg g4, if_neg g5, if_pos g6], show v.does a = v.rename a.name a.to by unfold VM.does; rw [if_neg g0, if_neg gna, if_neg g3, if_neg g4, if_neg g5, if_pos g6]]
                (conv => whnf); repeat (refine sideI ?_; conv => whnf)
                refine AFn.useA [0] (fsRename h hn hB hk a.name a.to) fun _ => ?_
                (conv => whnf); repeat (refine sideI ?_; conv => whnf)
                refine ⟨_, _, Ent.mk' (e' := [(0, AV.int .i64 (v.renameE a.name a.to))]) (H' := fone (v.rename a.name a.to)) [some 0] (by kernel_rfl) ?_ ?_, (), rfl, rfl⟩
                · exact ⟨AVE.refl _, trivial⟩
                · exact subC
              · (conv => whnf); repeat (refine sideI ?_; conv => whnf)
                refine branchB_of (fun g7 => ?_) (fun g7 => ?_) <;> (first | replace g7 := not_t g7 | replace g7 := not_f g7 | skip) <;> (first | replace g7 := of_decide_eq_true g7 | replace g7 := of_decide_eq_false g7 | skip) <;> (first | replace g7 := Classical.not_not.1 g7 | skip) <;> (try dsimp only at g7)
                · rw [show v.doesE a = v.removeE a.name by unfold VM.doesE; rw [if_neg g0, if_neg gna, if_neg g3, if_neg g4, if_neg g5, if_neg g6, if_pos g7], show v.does a = v.remove a.name by unfold VM.does; rw [if_neg g0, if_neg gna, if_neg g3, if_neg g4, if_neg g5, if_neg g6, if_pos g7]]
                  (conv => whnf); repeat (refine sideI ?_; conv => whnf)
                  refine AFn.useA [0] (fsRemove h hn hB hk a.name) fun _ => ?_
                  (conv => whnf); repeat (refine sideI ?_; conv => whnf)
                  refine ⟨_, _, Ent.mk' (e' := [(0, AV.int .i64 (v.removeE a.name))]) (H' := fone (v.remove a.name)) [some 0] (by kernel_rfl) ?_ ?_, (), rfl, rfl⟩
                  · exact ⟨AVE.refl _, trivial⟩
                  · exact subC
                · (conv => whnf); repeat (refine sideI ?_; conv => whnf)
                  refine branchB_of (fun g9 => ?_) (fun g9 => ?_) <;> (first | replace g9 := not_t g9 | replace g9 := not_f g9 | skip) <;> (first | replace g9 := of_decide_eq_true g9 | replace g9 := of_decide_eq_false g9 | skip) <;> (first | replace g9 := Classical.not_not.1 g9 | skip) <;> (try dsimp only at g9)
                  · rw [show v.doesE a = v.powE by unfold VM.doesE; rw [if_neg g0, if_neg gna, if_neg g3, if_neg g4, if_neg g5, if_neg g6, if_neg g7, if_pos g9], show v.does a = v.fuseSet a.n by unfold VM.does; rw [if_neg g0, if_neg gna, if_neg g3, if_neg g4, if_neg g5, if_neg g6, if_neg g7, if_pos g9]]
                    (conv => whnf); repeat (refine sideI ?_; conv => whnf)
                    refine AFn.useA [0] (fsFuse (v := v) a.n ha.n) fun _ => ?_
                    (conv => whnf); repeat (refine sideI ?_; conv => whnf)
                    refine ⟨_, _, Ent.mk' (e' := [(0, AV.int .i64 v.powE)]) (H' := fone (v.fuseSet a.n)) [some 0] (by kernel_rfl) ?_ ?_, (), rfl, rfl⟩
                    · exact ⟨AVE.refl _, trivial⟩
                    · exact subC
                  · (conv => whnf); repeat (refine sideI ?_; conv => whnf)
                    refine branchB_of (fun g11 => ?_) (fun g11 => ?_) <;> (first | replace g11 := not_t g11 | replace g11 := not_f g11 | skip) <;> (first | replace g11 := of_decide_eq_true g11 | replace g11 := of_decide_eq_false g11 | skip) <;> (first | replace g11 := Classical.not_not.1 g11 | skip) <;> (try dsimp only at g11)
                    · rw [show v.doesE a = VM.crashAE a.picks by unfold VM.doesE; rw [if_neg g0, if_neg gna, if_neg g3, if_neg g4, if_neg g5, if_neg g6, if_neg g7, if_neg g9, if_pos g11], show v.does a = v.crashA a.picks by unfold VM.does; rw [if_neg g0, if_neg gna, if_neg g3, if_neg g4, if_neg g5, if_neg g6, if_neg g7, if_neg g9, if_pos g11]]
                      (conv => whnf); repeat (refine sideI ?_; conv => whnf)
                      rcases Bool.eq_false_or_eq_true (a.picks.any fun p => decide (p < 0)) with hp | hp
                      · rw [show VM.crashAE a.picks = 1 from if_pos hp, show v.crashA a.picks = v from if_pos hp]
                        refine AFn.useA [0] (fsCrashBad (v := v) ha.pl hp) fun _ => ?_
                        (conv => whnf); repeat (refine sideI ?_; conv => whnf)
                        refine ⟨_, _, Ent.mk' (e' := [(0, AV.int .i64 1)]) (H' := fone v) [some 0] (by kernel_rfl) ?_ ?_, (), rfl, rfl⟩
                        · exact ⟨AVE.refl _, trivial⟩
                        · exact subC
                      · rw [show VM.crashAE a.picks = 0 from if_neg (by rw [hp]; decide), show v.crashA a.picks = v.crash a.picks from if_neg (by rw [hp]; decide)]
                        refine AFn.useA [0] (fsCrashGood h hn hB ha.pl hp) fun _ => ?_
                        (conv => whnf); repeat (refine sideI ?_; conv => whnf)
                        refine ⟨_, _, Ent.mk' (e' := [(0, AV.int .i64 0)]) (H' := fone (v.crash a.picks)) [some 0] (by kernel_rfl) ?_ ?_, (), rfl, rfl⟩
                        · exact ⟨AVE.refl _, trivial⟩
                        · exact subC
                    · rw [show v.doesE a = 0 by unfold VM.doesE; rw [if_neg g0, if_neg gna, if_neg g3, if_neg g4, if_neg g5, if_neg g6, if_neg g7, if_neg g9, if_neg g11], show v.does a = v by unfold VM.does; rw [if_neg g0, if_neg gna, if_neg g3, if_neg g4, if_neg g5, if_neg g6, if_neg g7, if_neg g9, if_neg g11]]
                      (conv => whnf); repeat (refine sideI ?_; conv => whnf)
                      refine ⟨_, _, Ent.mk' (e' := [(0, AV.int .i64 0)]) (H' := fone v) [some 0] (by kernel_rfl) ?_ ?_, (), rfl, rfl⟩
                      · exact ⟨AVE.refl _, trivial⟩
                      · exact subC
end
end Go.Proofs.YtpgdbeacmlojcaaGreat.Ax

namespace Go.Proofs.YtpgdbeacmlojcaaGreat.Ax
open Go.RowKit
set_option maxRecDepth 100000
def prs (g : List UInt8 → List UInt8) : List (List UInt8) → List (List UInt8)
  | [] => []
  | x :: l => x :: g x :: prs g l
theorem prs_length (g : List UInt8 → List UInt8) : ∀ l, (prs g l).length = 2 * l.length
  | [] => rfl
  | x :: l => by simp only [prs, List.length_cons, prs_length g l]; omega
theorem prs_even (g : List UInt8 → List UInt8) : ∀ (l : List (List UInt8)) (i : Nat), (prs g l).getD (2 * i) [] = l.getD i []
  | [], i => by simp [prs]
  | x :: l, 0 => rfl
  | x :: l, i + 1 => by
    have e : 2 * (i + 1) = 2 * i + 1 + 1 := by omega
    rw [e, List.getD_cons_succ, prs, List.getD_cons_succ, List.getD_cons_succ, prs_even g l i]
theorem prs_odd (g : List UInt8 → List UInt8) : ∀ (l : List (List UInt8)) (i : Nat), i < l.length → (prs g l).getD (2 * i + 1) [] = g (l.getD i [])
  | [], i, h => absurd h (Nat.not_lt_zero _)
  | x :: l, 0, _ => rfl
  | x :: l, i + 1, h => by
    have e : 2 * (i + 1) + 1 = 2 * i + 1 + 1 + 1 := by omega
    rw [e, prs, List.getD_cons_succ, List.getD_cons_succ, List.getD_cons_succ, prs_odd g l i (Nat.lt_of_succ_lt_succ h)]
def VM.stL (v : VM) : List (List UInt8) := prs (fun x => v.read x 0 (v.size x)) v.list
theorem list_len (v : VM) : v.list.length ≤ v.fd.now.length := by
  unfold VM.list
  split
  · exact Nat.zero_le _
  · rw [List.length_map, lsN_length]
    exact Nat.le_refl _
theorem VM.Ok.nowLen {n B k : Nat} {v : VM} (h : v.Ok n B k) : v.fd.now.length ≤ n := h.fd.now.1.len
noncomputable def cfgS (N b : Nat) : Cfg := { P := Go.Proofs.Tryz.prog, T := tt, wr := false, N := N, pure := [], base := b, frz := fun op => match op with | .buildSlice .. => true | .convert .. => true | _ => false }
theorem cfgSOk (N b : Nat) : (cfgS N b).Ok := ⟨ttOk, ttBytes, by kernel_rfl⟩
section
variable {n B k : Nat} {v : VM} (h : v.Ok n B k) (hn : n ≤ 490) (hB : B ≤ 80000000)
include h hn hB
theorem state_ok : AFn Go.Proofs.Tryz.prog 21 [.ptr 0 0] (fone v) (fun _ : Unit => .iv (strRow v.stL)) (fun _ => fone v) := by
  have hl := list_len v
  have hl2 := h.nowLen
  have hp := prs_length (fun x => v.read x 0 (v.size x)) v.list
  have he := prs_even (fun x => v.read x 0 (v.size x)) v.list
  have ho := prs_odd (fun x => v.read x 0 (v.size x)) v.list
  change v.stL.length = _ at hp
  change ∀ i, v.stL.getD (2 * i) [] = _ at he
  change ∀ i, _ → v.stL.getD (2 * i + 1) [] = _ at ho
  refine ACall.fin ?_
  refine ACall.walk (C := cfgS 38 1) (cfgSOk _ _) [] (fn := Go.Proofs.Tryz.f21) (by kernel_rfl) (by kernel_rfl) rfl (by kernel_rfl) (by kernel_rfl) rfl rfl ?_
  (conv => whnf); repeat (refine sideI ?_; conv => whnf)
  refine AFn.useA [0] (fsList h hn) fun _ => ?_
  (conv => whnf); repeat (refine sideI ?_; conv => whnf)
  refine AWP.loop (X := { i : Nat // i ≤ v.list.length }) (fun i => [(0, .ptr 0 0), (3, .row 1 1 0 (2 * i.1)), (11, .iv (strRow v.list)), (12, AV.int .i64 v.list.length), (13, AV.int .i64 i.1)]) (fun i => ⟨2, [(0, .sem (fsV v)), (1, .rowc 9 1 (2 * i.1) (fun j => [.str (v.stL.getD j [])]))]⟩) (fun i => v.list.length - i.1) (⟨0, Nat.zero_le _⟩) ?_ fun i => AWP.go (S := []) (cfgSOk _ _) (.of_eq (by kernel_rfl)) ?_
  · refine Ent.mk' [some 0, none] (by kernel_rfl) ?_ ?_
    · exact ⟨AVE.refl _, AVE.nil _ _, AVE.refl _, AVE.refl _, AVE.refl _, trivial⟩
    · exact ⟨⟨_, rfl, ChE.refl _⟩, trivial, trivial⟩
  · obtain ⟨i, hi⟩ := i
    (conv => whnf); repeat (refine sideI ?_; conv => whnf)
    refine branchB_of (fun h1 => ?_) (fun h1 => ?_) <;> (first | replace h1 := not_t h1 | replace h1 := not_f h1 | skip) <;> (first | replace h1 := of_decide_eq_true h1 | replace h1 := of_decide_eq_false h1 | skip) <;> (first | replace h1 := Classical.not_not.1 h1 | skip) <;> (try dsimp only at h1)
    · (conv => whnf); repeat (refine sideI ?_; conv => whnf)
      simp -iota only [Int.toNat_natCast]
      generalize hx : v.list.getD i [] = x
      refine AFn.useA [0] (fsSize h x) fun _ => ?_
      (conv => whnf); repeat (refine sideI ?_; conv => whnf)
      refine AFn.useA [0] (fsReadAt h hB x 0 (v.size x)) fun _ => ?_
      (conv => whnf); repeat (refine sideI ?_; conv => whnf)
      refine ⟨⟨i + 1, by omega⟩, Ent.mkC [some 0, some 2] ?_, ?_⟩
      · refine ⟨⟨_, rfl, ChE.refl _⟩, ⟨_, rfl, ChE.rowE (by show 2 * (i + 1) ≤ 2 * i + 2; omega) fun j hj => ?_⟩, trivial⟩
        have hj : j < 2 * (i + 1) := hj
        by_cases g1 : j < 2 * i
        · rw [if_pos g1]
          exact IVEs.refl _
        · rw [if_neg g1]
          have hlt : i < v.list.length := by omega
          have g0 := he i
          have g2 := ho i hlt
          rw [hx] at g0 g2
          by_cases g3 : j = 2 * i
          · subst g3
            rw [Nat.sub_self, g0]
            exact IVEs.refl _
          · have g4 : j = 2 * i + 1 := by omega
            subst g4
            rw [show 2 * i + 1 - 2 * i = 1 by omega, g2]
            exact IVEs.refl _
      · show v.list.length - (i + 1) < v.list.length - i
        omega
    · (conv => whnf); repeat (refine sideI ?_; conv => whnf)
      have hi' : i = v.list.length := by omega
      subst hi'
      have e2 : 2 * v.list.length = v.stL.length := hp.symm
      refine ⟨_, _, (Ent.freeze 1 _ rfl rfl (e' := [(0, .iv (strRow v.stL))]) ?_).trans (Ent.mk' (e' := [(0, .iv (strRow v.stL))]) (H' := fone v) [some 0] (by kernel_rfl) ⟨AVE.refl _, trivial⟩ ?_), (), rfl, rfl⟩
      · rw [e2]
        exact ⟨AVF.sl (Nat.le_refl _), trivial⟩
      · exact subC
end
end Go.Proofs.YtpgdbeacmlojcaaGreat.Ax

namespace Go.Proofs.YtpgdbeacmlojcaaGreat.Ax
open Go.RowKit
set_option maxRecDepth 100000
theorem prs_congr {g g' : List UInt8 → List UInt8} : ∀ {l : List (List UInt8)}, (∀ x ∈ l, g x = g' x) → prs g l = prs g' l
  | [], _ => rfl
  | x :: l, h => by
    simp only [prs]
    rw [h x (List.mem_cons_self ..), prs_congr fun y hy => h y (List.mem_cons_of_mem _ hy)]
theorem file_of {v : VM} {x : List UInt8} {m : Nat} {f : FI} (h1 : afind v.fd.now x = some m) (h2 : ffind v.fs m = some f) : v.file x = f := by
  unfold VM.file
  rw [h1]
  simp [h2]
theorem list_mem {v : VM} (ho : v.off = false) {x : List UInt8} : x ∈ v.list ↔ x ∈ v.fd.now.map (·.1) := by
  unfold VM.list
  rw [if_neg (by rw [ho]; decide), lsN_keys, mem_sortS]
section
variable {n B k : Nat} {v : VM} (h : v.Ok n B k)
include h
theorem VM.Ok.named {x : List UInt8} (hx : x ∈ v.fd.now.map (·.1)) : ∃ m f, (x, m) ∈ v.fd.now ∧ afind v.fd.now x = some m ∧ ffind v.fs m = some f ∧ v.file x = f ∧ mayB x = true := by
  obtain ⟨p, hp, rfl⟩ := List.mem_map.1 hx
  have h1 := afind_of_mem h.fd.now.1.nd hp
  obtain ⟨f, hf⟩ := h.led _ _ h1
  exact ⟨p.2, f, hp, h1, hf, file_of h1 hf, (h.fd.now.1.rng p hp).2.2⟩
theorem VM.Ok.opens (ho : v.off = false) {x : List UInt8} (hx : x ∈ v.fd.now.map (·.1)) : v.openE x = 0 := by
  obtain ⟨m, f, _, h2, _, _, h5⟩ := h.named hx
  unfold VM.openE
  rw [if_neg (by rw [ho]; decide)]
  exact findE_yes h5 h2
omit h in
theorem read_all {v : VM} {x : List UInt8} (h0 : v.openE x = 0) : v.read x 0 (v.size x) = (v.file x).now ∧ v.readE x 0 (v.size x) = 0 := by
  have e1 : v.size x = ((v.file x).now.length : Int) := if_pos h0
  have e2 : v.readE x 0 (v.size x) = 0 := by
    unfold VM.readE
    rw [if_pos h0, e1]
    unfold FI.readE
    rw [if_neg (by omega), if_neg (by omega)]
  refine ⟨?_, e2⟩
  have e3 : (v.file x).readE 0 (v.size x) = 0 := by
    unfold VM.readE at e2
    rw [if_pos h0] at e2
    exact e2
  unfold VM.read
  rw [if_pos h0]
  unfold FI.read
  rw [if_pos e3, e1]
  simp
theorem VM.Ok.stL (ho : v.off = false) : v.stL = prs (fun x => (v.file x).now) v.list :=
  prs_congr fun _ hx => (read_all (h.opens ho ((list_mem ho).1 hx))).1
theorem stL_congr {n' B' k' : Nat} {v' : VM} (h' : v'.Ok n' B' k') (ho : v.off = false) (ho' : v'.off = false) (hnow : v'.fd.now = v.fd.now) (hf : ∀ p ∈ v.fd.now, (ffind v'.fs p.2).map FI.now = (ffind v.fs p.2).map FI.now) : v'.stL = v.stL := by
  have hl : v'.list = v.list := by
    unfold VM.list
    rw [if_neg (by rw [ho']; decide), if_neg (by rw [ho]; decide), hnow]
  rw [h.stL ho, h'.stL ho', hl]
  refine prs_congr fun x hx => ?_
  have hx := (list_mem ho).1 hx
  obtain ⟨m, f, h1, h2, h3, h4, _⟩ := h.named hx
  obtain ⟨m', f', g1, g2, g3, g4, _⟩ := h'.named (by rw [hnow]; exact hx)
  rw [hnow, h2] at g2
  injection g2 with g2
  subst g2
  have := hf _ h1
  rw [h3, g3] at this
  simp only [Option.map_some, Option.some.injEq] at this
  rw [h4, g4]
  exact this
end
theorem stL_of {v v' : VM} (h1 : v'.off = v.off) (h2 : v'.fd = v.fd) (h3 : v'.fs = v.fs) : v'.stL = v.stL := by
  cases v
  cases v'
  simp only at h1 h2 h3
  subst h1 h2 h3
  rfl
/-! Steps with the power on. -/
theorem stepE_on {v : VM} (ho : v.off = false) (hf : v.fuse ≠ 0) (e : VM → Int) : v.stepE e = e v.tick := by
  unfold VM.stepE
  rw [if_neg (by rw [ho]; decide), if_neg hf]
theorem stepV_on {v : VM} (ho : v.off = false) (hf : v.fuse ≠ 0) (d : VM → VM) : v.stepV d = (d v.tick).clean := by
  unfold VM.stepV
  rw [if_neg (by rw [ho]; decide), if_neg hf]
/-- The power is on, and there is no fuse. -/
structure VM.Up (v : VM) : Prop where
  off : v.off = false
  fuse : v.fuse = -1
theorem VM.Up.tick {v : VM} (h : v.Up) : v.tick.Up := ⟨h.off, by show max (v.fuse - 1) (-1) = -1; rw [h.fuse]; decide⟩
theorem VM.Up.clean {v : VM} (h : v.Up) : v.clean.Up := ⟨h.off, h.fuse⟩
theorem VM.Up.ne {v : VM} (h : v.Up) : v.fuse ≠ 0 := by rw [h.fuse]; decide
theorem VM.Up.step {v : VM} (h : v.Up) {d : VM → VM} (hd : (d v.tick).Up) : (v.stepV d).Up := by
  rw [stepV_on h.off h.ne]
  exact hd.clean
theorem VM.Up.withV {v : VM} (h : v.Up) (x : List UInt8) (d : VM → FI → FI) : (Ax.withV x d v).Up := by
  unfold Ax.withV
  split
  · exact ⟨h.off, h.fuse⟩
  · exact h
theorem VM.Up.create1 {v : VM} (h : v.Up) (x : List UInt8) : (v.create1 x).Up := by
  unfold VM.create1
  split
  · exact ⟨h.off, h.fuse⟩
  · exact h
theorem VM.Up.crash (v : VM) (P : List Int) : (v.crash P).Up := ⟨rfl, rfl⟩
theorem VM.Up.does {v : VM} (h : v.Up) {a : FAct} (h9 : a.what ≠ 9) : (v.does a).Up := by
  unfold VM.does
  split
  · exact h.step (h.tick.create1 _)
  · split
    · exact h.step (h.tick.withV _ _)
    · split
      · exact h.step (h.tick.withV _ _)
      · split
        · exact h.step (h.tick.withV _ _)
        · split
          · exact h.step (d := VM.syncDir1) ⟨h.tick.off, h.tick.fuse⟩
          · split
            · exact h.step (d := VM.rename1 _ _) ⟨h.tick.off, h.tick.fuse⟩
            · split
              · exact h.step (d := VM.remove1 _) ⟨h.tick.off, h.tick.fuse⟩
              · split
                · unfold VM.crashA
                  split
                  · exact h
                  · exact VM.Up.crash ..
                · exact h
theorem withV_no {n B k : Nat} {v : VM} (h : v.Ok n B k) {x : List UInt8} {e : VM → FI → Int} {d : VM → FI → FI} (hd : ∀ f, e v f ≠ 0 → d v f = f) (hE : withE x e v ≠ 0) : withV x d v = v := by
  unfold withV
  split
  · rename_i h0
    unfold withE at hE
    rw [if_pos h0] at hE
    obtain ⟨_, m, h1⟩ := findE_zero h0
    obtain ⟨f, hf⟩ := h.led x m h1
    have ef := file_of h1 hf
    have en : v.fd.findN x = m := by unfold FD.findN; rw [h1]; rfl
    rw [hd _ hE, ef, en, fset_self h.nd hf]
  · rfl
/-- What is refused turns nothing that is there. -/
theorem does_refused {n B k : Nat} {v : VM} (h : v.Ok n B k) (hu : v.Up) {a : FAct} (h9 : a.what ≠ 9) (hE : v.doesE a ≠ 0) : v.does a = v ∨ v.does a = v.tick.clean := by
  have ht := h.tick
  unfold VM.doesE at hE
  unfold VM.does
  split
  · rename_i g
    rw [if_pos g] at hE
    unfold VM.createE at hE
    rw [stepE_on hu.off hu.ne] at hE
    refine .inr ?_
    unfold VM.create
    rw [stepV_on hu.off hu.ne]
    unfold VM.create1
    rw [if_neg hE]
  · rename_i g
    rw [if_neg g] at hE
    split
    · rename_i g
      rw [if_pos g] at hE
      unfold VM.appendE at hE
      rw [stepE_on hu.off hu.ne] at hE
      refine .inr ?_
      unfold VM.append
      rw [stepV_on hu.off hu.ne, withV_no ht (fun f hf => if_neg hf) hE]
    · rename_i g
      rw [if_neg g] at hE
      split
      · rename_i g
        rw [if_pos g] at hE
        unfold VM.truncE at hE
        rw [stepE_on hu.off hu.ne] at hE
        refine .inr ?_
        unfold VM.trunc
        rw [stepV_on hu.off hu.ne, withV_no ht (fun f hf => ?_) hE]
        unfold FI.cutE at hf
        unfold FI.cut
        rw [if_neg]
        intro hh
        rw [if_neg (by omega)] at hf
        exact hf rfl
      · rename_i g
        rw [if_neg g] at hE
        split
        · rename_i g
          rw [if_pos g] at hE
          unfold VM.syncE at hE
          rw [stepE_on hu.off hu.ne] at hE
          refine .inr ?_
          unfold VM.sync
          rw [stepV_on hu.off hu.ne, withV_no ht (fun f hf => absurd rfl hf) hE]
        · rename_i g
          rw [if_neg g] at hE
          split
          · rename_i g
            rw [if_pos g] at hE
            unfold VM.syncDirE at hE
            rw [stepE_on hu.off hu.ne] at hE
            exact absurd rfl hE
          · rename_i g
            rw [if_neg g] at hE
            split
            · rename_i g
              rw [if_pos g] at hE
              unfold VM.renameE at hE
              rw [stepE_on hu.off hu.ne] at hE
              refine .inr ?_
              unfold VM.rename
              rw [stepV_on hu.off hu.ne]
              unfold VM.rename1 FD.ren
              rw [if_neg fun hh => hE hh.1]
            · rename_i g
              rw [if_neg g] at hE
              split
              · rename_i g
                rw [if_pos g] at hE
                unfold VM.removeE at hE
                rw [stepE_on hu.off hu.ne] at hE
                refine .inr ?_
                unfold VM.remove
                rw [stepV_on hu.off hu.ne]
                unfold VM.remove1 FD.rem
                rw [if_neg hE]
              · rename_i g
                rw [if_neg g] at hE
                rw [if_neg h9] at hE
                split
                · rename_i g
                  rw [if_pos g] at hE
                  unfold VM.crashAE at hE
                  unfold VM.crashA
                  split
                  · exact .inl rfl
                  · rename_i hp
                    rw [if_neg hp] at hE
                    exact absurd rfl hE
                · rename_i g
                  rw [if_neg g] at hE
                  exact absurd rfl hE
theorem stL_clean {n B k : Nat} {v : VM} (h : v.Ok n B k) (ho : v.off = false) : v.clean.stL = v.stL := by
  refine stL_congr h h.clean ho ho rfl fun p hp => ?_
  show (ffind (v.fs.filter fun p => decide (p.1 ∈ v.fd.live)) p.2).map _ = _
  have hl : p.2 ∈ v.fd.live := live_mem.2 ⟨v.fd.ds.length, Nat.le_refl _, by rw [List.take_length, ← h.fd.eq]; exact List.mem_map_of_mem hp⟩
  rw [ffind_filter (fun x => decide (x ∈ v.fd.live)), if_pos (decide_eq_true hl)]
theorem refused_stL {n B k : Nat} {v : VM} (h : v.Ok n B k) (hu : v.Up) {a : FAct} (h9 : a.what ≠ 9) (hE : v.doesE a ≠ 0) : (v.does a).stL = v.stL := by
  rcases does_refused h hu h9 hE with e | e
  · rw [e]
  · rw [e, stL_clean h.tick hu.off]
    exact stL_of rfl rfl rfl
end Go.Proofs.YtpgdbeacmlojcaaGreat.Ax

namespace Go.Proofs.YtpgdbeacmlojcaaGreat.Ax
open Go.RowKit
set_option maxRecDepth 100000
def wv0 : VM := VM.new 10
def wv1 : VM := wv0.create [97]
def wv2 : VM := wv1.append [97] [97, 98, 99, 100, 101, 102]
def wv3 : VM := wv2.append [97] [103, 104, 105, 106, 107]
def wv4 : VM := wv3.sync [97]
def wv5 : VM := wv4.crash [0]
def wv6 : VM := wv5.create [97]
def wv7 : VM := wv6.syncDir
def wv8 : VM := wv7.append [97] [120, 121, 122]
def wv9 : VM := wv8.crash [0, 2]
def wv10 : VM := wv9.fuseSet 1
def wv11 : VM := wv10.create [98]
def wv12 : VM := wv11.create [99]
theorem wk1 : wv0.createE [97] = 0 := by kernel_rfl
theorem wk2 : wv1.appendE [97] [97, 98, 99, 100, 101, 102] = 0 := by kernel_rfl
theorem wk3 : wv2.appendE [97] [103, 104, 105, 106, 107] = 21 := by kernel_rfl
theorem wk4 : wv3.syncE [97] = 0 := by kernel_rfl
theorem wk5 : wv5.list = [] := by kernel_rfl
theorem wk6 : wv9.read [97] 0 2 = [120, 121] ∧ wv9.readE [97] 0 2 = 0 := ⟨by kernel_rfl, by kernel_rfl⟩
theorem wk7 : wv9.powE = 0 ∧ wv10.createE [98] = 0 ∧ wv11.createE [99] = 20 ∧ (!wv12.off) = false := ⟨by kernel_rfl, by kernel_rfl, by kernel_rfl, by kernel_rfl⟩
theorem wok0 : wv0.Ok 0 0 0 := .new (by decide) _ _ _
theorem wok1 : wv1.Ok 1 0 1 := wok0.create _
theorem wok2 : wv2.Ok 2 6 2 := wok1.append [97] [97, 98, 99, 100, 101, 102]
theorem wok3 : wv3.Ok 3 11 3 := wok2.append [97] [103, 104, 105, 106, 107]
theorem wok4 : wv4.Ok 3 11 4 := wok3.sync _
theorem wok5 : wv5.Ok 3 11 4 := wok4.crash _
theorem wok6 : wv6.Ok 4 11 5 := wok5.create _
theorem wok7 : wv7.Ok 5 11 6 := wok6.syncDir
theorem wok8 : wv8.Ok 6 14 7 := wok7.append [97] [120, 121, 122]
theorem wok9 : wv9.Ok 6 14 7 := wok8.crash _
theorem wok10 : wv10.Ok 6 14 7 := wok9.fuseSet (by decide)
theorem wok11 : wv11.Ok 7 14 8 := wok10.create _
theorem wok12 : wv12.Ok 8 14 9 := wok11.create _
noncomputable def cfgWk (N b : Nat) : Cfg := { P := Go.Proofs.Tryz.prog, T := tt, wr := false, N := N, pure := [], base := b, frz := fun op => match op with | .buildSlice t _ _ => Nat.beq t 24 | .convert .. => true | _ => false }
theorem cfgWkOk (N b : Nat) : (cfgWk N b).Ok := ⟨ttOk, ttBytes, by kernel_rfl⟩
/-- A row of numbers that is built on the spot. -/
theorem AVE.irow {f : Nat → List IV} (P : List Int) (h : ∀ i, i < P.length → f i = iF P i) : AVE (.iv (.sl 1 P.length f)) (.iv (iRow P)) := AVE.sl fun i hi => by rw [h i hi]; exact IVEs.refl _
theorem wakes_ok : AFn Go.Proofs.Tryz.prog 7 [] ⟨0, []⟩ (fun _ : Unit => AV.bool true) (fun _ => ⟨0, []⟩) := by
  refine ACall.fin ?_
  refine ACall.walk (C := cfgWk 104 0) (cfgWkOk _ _) [] (fn := Go.Proofs.Tryz.f7) (by kernel_rfl) (by kernel_rfl) rfl (by kernel_rfl) (by kernel_rfl) rfl rfl ?_
  (conv => whnf); repeat (refine sideI ?_; conv => whnf)
  refine AFn.useA [] (new_fs 10 (by decide)) fun _ => ?_
  (conv => whnf); repeat (refine sideI ?_; conv => whnf)
  refine AFn.useA [0] (fsCreate wok0 (by decide) (by decide) (by decide) [97]) fun _ => ?_
  rw [wk1]
  (conv => whnf); repeat (refine sideI ?_; conv => whnf)
  refine AFn.useA [0] (fsAppend wok1 (by decide) (by decide) (by decide) [97] [97, 98, 99, 100, 101, 102] (by decide)) fun _ => ?_
  rw [wk2]
  (conv => whnf); repeat (refine sideI ?_; conv => whnf)
  refine AFn.useA [0] (fsAppend wok2 (by decide) (by decide) (by decide) [97] [103, 104, 105, 106, 107] (by decide)) fun _ => ?_
  rw [wk3]
  (conv => whnf); repeat (refine sideI ?_; conv => whnf)
  refine AFn.useA [0] (fsSync wok3 (by decide) (by decide) (by decide) [97]) fun _ => ?_
  rw [wk4]
  (conv => whnf); repeat (refine sideI ?_; conv => whnf)
  refine ACall.argsE [.ptr 0 0, .iv (iRow [0])] ⟨AVE.refl _, AVE.irow [0] (fun i hi => by rcases i with _ | i <;> first | rfl | (exfalso; simp at hi; done) | (exfalso; simp at hi; omega)), rfl⟩ ?_
  refine AFn.useA [0] (fsCrashGood wok4 (by decide) (by decide) (P := [0]) (by decide) (by decide)) fun _ => ?_
  (conv => whnf); repeat (refine sideI ?_; conv => whnf)
  have hL := fsList wok5 (by decide)
  rw [wk5] at hL
  refine AFn.useA [0] (hL) fun _ => ?_
  (conv => whnf); repeat (refine sideI ?_; conv => whnf)
  refine AFn.useA [0] (fsCreate wok5 (by decide) (by decide) (by decide) [97]) fun _ => ?_
  (conv => whnf); repeat (refine sideI ?_; conv => whnf)
  refine AFn.useA [0] (fsSyncDir wok6 (by decide) (by decide) (by decide)) fun _ => ?_
  (conv => whnf); repeat (refine sideI ?_; conv => whnf)
  refine AFn.useA [0] (fsAppend wok7 (by decide) (by decide) (by decide) [97] [120, 121, 122] (by decide)) fun _ => ?_
  (conv => whnf); repeat (refine sideI ?_; conv => whnf)
  refine ACall.argsE [.ptr 0 0, .iv (iRow [0, 2])] ⟨AVE.refl _, AVE.irow [0, 2] (fun i hi => by rcases i with _ | _ | i <;> first | rfl | (exfalso; simp at hi; done) | (exfalso; simp at hi; omega)), rfl⟩ ?_
  refine AFn.useA [0] (fsCrashGood wok8 (by decide) (by decide) (P := [0, 2]) (by decide) (by decide)) fun _ => ?_
  (conv => whnf); repeat (refine sideI ?_; conv => whnf)
  have hR := fsReadAt wok9 (by decide) [97] 0 2
  rw [wk6.1, wk6.2] at hR
  refine AFn.useA [0] (hR) fun _ => ?_
  (conv => whnf); repeat (refine sideI ?_; conv => whnf)
  have hF := fsFuse (v := wv9) 1 (by decide)
  rw [wk7.1] at hF
  refine AFn.useA [0] (hF) fun _ => ?_
  (conv => whnf); repeat (refine sideI ?_; conv => whnf)
  refine AFn.useA [0] (fsCreate wok10 (by decide) (by decide) (by decide) [98]) fun _ => ?_
  rw [wk7.2.1]
  (conv => whnf); repeat (refine sideI ?_; conv => whnf)
  refine AFn.useA [0] (fsCreate wok11 (by decide) (by decide) (by decide) [99]) fun _ => ?_
  rw [wk7.2.2.1]
  (conv => whnf); repeat (refine sideI ?_; conv => whnf)
  have hO := fsOn (v := wv12)
  rw [wk7.2.2.2] at hO
  refine AFn.useA [0] (hO) fun _ => ?_
  (conv => whnf); repeat (refine sideI ?_; conv => whnf)
  refine ⟨_, _, Ent.mk' (e' := [(0, AV.bool true)]) (H' := ⟨0, []⟩) [] (by kernel_rfl) ?_ ?_, (), rfl, rfl⟩
  · exact ⟨AVE.refl _, trivial⟩
  · trivial
end Go.Proofs.YtpgdbeacmlojcaaGreat.Ax
