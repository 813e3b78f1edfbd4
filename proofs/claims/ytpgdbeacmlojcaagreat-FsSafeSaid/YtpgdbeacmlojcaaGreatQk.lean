/-
  Chapter 07: file systems: reading, crashes, copies.
-/
import Derived.Test.YtpgdbeacmlojcaaGreatQj
namespace Go.Proofs.YtpgdbeacmlojcaaGreat.Ax
open Go.RowKit
set_option maxRecDepth 100000
def VM.powE (v : VM) : Int := bif v.off then 20 else 0
def VM.new (q : Int) : VM := ⟨⟨[], [], [], 0⟩, [], q, false, 0, -1⟩
theorem VM.Ok.new {q : Int} (h : 0 ≤ q ∧ q ≤ 1073741824) (n B k : Nat) : (VM.new q).Ok n B k := by
  refine ⟨⟨rfl, fun j hj => ⟨?_, fun p hp => ?_⟩⟩, Nat.zero_le _, Nat.zero_le _, List.nodup_nil, (fun p hp => by cases hp), (fun p hp => by cases hp), ⟨Int.le_refl _, by show (0 : Int) ≤ _; omega⟩, ⟨by show (-1 : Int) ≤ -1; decide, by show (-1 : Int) ≤ 9223372036854775807; decide⟩, h⟩
  · have : onAll (VM.new q).fd.safe ((VM.new q).fd.ds.take j) = [] := by simp [VM.new, onAll]
    rw [this]
    exact IOk.none _ _
  · have : onAll (VM.new q).fd.safe ((VM.new q).fd.ds.take j) = [] := by simp [VM.new, onAll]
    rw [this] at hp
    cases hp
def quotB (q : Int) : Bool := decide (0 ≤ q ∧ q ≤ 1073741824)
theorem quotas_ok (q : Int) : AFn Go.Proofs.Tryz.prog 26 [AV.int .i64 q] ⟨0, []⟩ (fun _ : Unit => AV.bool (quotB q)) (fun _ => ⟨0, []⟩) := by
  refine ACall.fin ?_
  refine ACall.walk (C := cfg 9 0) (cfgOk _ _) [] (fn := Go.Proofs.Tryz.f26) (by kernel_rfl) (by kernel_rfl) rfl (by kernel_rfl) (by kernel_rfl) rfl rfl ?_
  (conv => whnf); repeat (refine sideI ?_; conv => whnf)
  by_cases h1 : q ≥ 0
  · rw [decide_eq_true h1]
    (conv => whnf); repeat (refine sideI ?_; conv => whnf)
    refine ⟨_, _, Ent.mk' (e' := [(0, AV.bool (quotB q))]) (H' := ⟨0, []⟩) [] (by kernel_rfl) ?_ ?_, (), rfl, rfl⟩
    · exact ⟨AVE.bool (by unfold quotB; rw [decide_eq_decide]; omega), trivial⟩
    · trivial
  · rw [decide_eq_false h1]
    (conv => whnf); repeat (refine sideI ?_; conv => whnf)
    refine ⟨_, _, Ent.mk' (e' := [(0, AV.bool (quotB q))]) (H' := ⟨0, []⟩) [] (by kernel_rfl) ?_ ?_, (), rfl, rfl⟩
    · exact ⟨AVE.bool (by unfold quotB; rw [eq_comm, decide_eq_false_iff_not]; omega), trivial⟩
    · trivial
theorem new_fs (q : Int) (h : 0 ≤ q ∧ q ≤ 1073741824) : AFn Go.Proofs.Tryz.prog 6 [AV.int .i64 q] ⟨0, []⟩ (fun _ : Unit => .tup [.ptr 0 0, AV.int .i64 0]) (fun _ => fone (VM.new q)) := by
  refine ACall.fin ?_
  refine ACall.walk (C := cfg 12 0) (cfgOk _ _) [] (fn := Go.Proofs.Tryz.f6) (by kernel_rfl) (by kernel_rfl) rfl (by kernel_rfl) (by kernel_rfl) rfl rfl ?_
  (conv => whnf); repeat (refine sideI ?_; conv => whnf)
  refine AFn.useA [] (quotas_ok q) fun _ => ?_
  rw [show quotB q = true from decide_eq_true h]
  (conv => whnf); repeat (refine sideI ?_; conv => whnf)
  refine AFn.useA [] (new_ok) fun _ => ?_
  (conv => whnf); repeat (refine sideI ?_; conv => whnf)
  refine ⟨_, _, Ent.trans (HEnt.ent (HEnt.objs0 FI.H _)) (Ent.trans (HEnt.ent (HEnt.close [2, 0, 1, 3] 2 (SM.H ⟨⟨[], [], [], 0⟩, [], q, false, 0, -1⟩) (by kernel_rfl) (by repeat' first | exact trivial | refine ⟨rfl, ?_⟩))) (Ent.trans (HEnt.ent (HEnt.chunk (h := 2) rfl (ChE.exS (p := fun s : SM => s.At (VM.new q)) (F := SM.H) ⟨⟨[], [], [], 0⟩, [], q, false, 0, -1⟩ ⟨rfl, List.nodup_nil⟩))) (Ent.mk' (e' := [(0, .tup [.ptr 0 0, AV.int .i64 0])]) (H' := fone (VM.new q)) [some 2] (by kernel_rfl) ⟨AVE.refl _, trivial⟩ ⟨⟨_, rfl, ChE.refl _⟩, trivial⟩))), (), rfl, rfl⟩
def VM.openE (v : VM) (x : List UInt8) : Int := if v.off = true then 20 else v.findE x
def VM.size (v : VM) (x : List UInt8) : Int := if v.openE x = 0 then ((v.file x).now.length : Int) else 0
def VM.readE (v : VM) (x : List UInt8) (a m : Int) : Int := if v.openE x = 0 then (v.file x).readE a m else v.openE x
def VM.read (v : VM) (x : List UInt8) (a m : Int) : List UInt8 := if v.openE x = 0 then (v.file x).read a m else []
def VM.list (v : VM) : List (List UInt8) := if v.off = true then [] else (lsN v.fd.now).map (·.1)
section
variable (s : SM) {n B k : Nat} {v : VM} (hs : s.At v) (h : v.Ok n B k)
include hs
theorem power_at : AFn Go.Proofs.Tryz.prog 52 [.ptr 0 0] s.H (fun _ : Unit => AV.int .i64 v.powE) (fun _ => s.H) := by
  have hv := hs.val
  subst hv
  exact power_in s
theorem open_no {x : List UInt8} (h0 : v.openE x ≠ 0) : AFn Go.Proofs.Tryz.prog 53 [.ptr 0 0, .str x] s.H (fun _ : Unit => .tup [AV.nilPtr, AV.int .i64 (v.openE x)]) (fun _ => s.H) := by
  have hv := hs.val
  have hE : v.openE x = if s.off = true then 20 else (bif !mayB x then 1 else bif (afind s.fd.now x).isSome then 0 else 6) := by rw [← hv]; rfl
  refine ACall.fin ?_
  refine ACall.walk (C := cfg 17 4) (cfgOk _ _) [] (fn := Go.Proofs.Tryz.f53) (by kernel_rfl) (by kernel_rfl) rfl (by kernel_rfl) (by kernel_rfl) rfl rfl ?_
  (conv => whnf); repeat (refine sideI ?_; conv => whnf)
  refine AFn.useA [0, 1, 2, 3] (power_at s hs) fun _ => ?_
  rcases Bool.eq_false_or_eq_true v.off with ho | ho
  · have hso : s.off = true := by rw [← hv] at ho; exact ho
    rw [show v.powE = 20 by simp [VM.powE, ho], show v.openE x = 20 by rw [hE, if_pos hso]]
    (conv => whnf); repeat (refine sideI ?_; conv => whnf)
    refine ⟨_, _, Ent.mk' (e' := [(0, .tup [AV.nilPtr, AV.int .i64 20])]) (H' := s.H) [some 0, some 1, some 2, some 3] (by kernel_rfl) ?_ ?_, (), rfl, rfl⟩
    · exact ⟨AVE.refl _, trivial⟩
    · exact subC
  · have hso : ¬ s.off = true := by rw [← hv] at ho; simpa using ho
    rw [if_neg hso] at hE
    rw [show v.powE = 0 by simp [VM.powE, ho]]
    (conv => whnf); repeat (refine sideI ?_; conv => whnf)
    cases hm : mayB x with
    | false =>
      rw [show v.openE x = 1 by rw [hE, hm]; rfl]
      refine AFn.useA [0, 1, 2, 3] (find_bad s x hm) fun _ => ?_
      (conv => whnf); repeat (refine sideI ?_; conv => whnf)
      refine ⟨_, _, Ent.mk' (e' := [(0, .tup [AV.nilPtr, AV.int .i64 1])]) (H' := s.H) [some 0, some 1, some 2, some 3] (by kernel_rfl) ?_ ?_, (), rfl, rfl⟩
      · exact ⟨AVE.refl _, trivial⟩
      · exact subC
    | true =>
      cases hf : afind s.fd.now x with
      | none =>
        rw [show v.openE x = 6 by rw [hE, hm, hf]; rfl]
        refine AFn.useA [0, 1, 2, 3] (find_no s x hm hf) fun _ => ?_
        (conv => whnf); repeat (refine sideI ?_; conv => whnf)
        refine ⟨_, _, Ent.mk' (e' := [(0, .tup [AV.nilPtr, AV.int .i64 6])]) (H' := s.H) [some 0, some 1, some 2, some 3] (by kernel_rfl) ?_ ?_, (), rfl, rfl⟩
        · exact ⟨AVE.refl _, trivial⟩
        · exact subC
      | some m => exact absurd (by rw [hE, hm, hf]; rfl) h0
include h
theorem open_yes {x : List UInt8} (h0 : v.openE x = 0) : ∃ m b, ffind v.fs m = some (v.file x) ∧ (s.fs.find? fun p => decide (p.1 = m)) = some (m, b, v.file x) ∧ AFn Go.Proofs.Tryz.prog 53 [.ptr 0 0, .str x] s.H (fun _ : Unit => .tup [ptrV b, AV.int .i64 0]) (fun _ => s.H) := by
  have hv := hs.val
  have ho : v.off = false := by
    cases ho : v.off with
    | false => rfl
    | true => simp [VM.openE, ho] at h0
  have hF : v.findE x = 0 := by simpa [VM.openE, ho] using h0
  obtain ⟨hm, m, hf⟩ := findE_zero hF
  obtain ⟨f, h1⟩ := h.led x m hf
  obtain ⟨b, h2⟩ := at_find hs h1
  have ef : v.file x = f := by unfold VM.file; rw [hf]; simp [h1]
  have hf' : afind s.fd.now x = some m := by rw [← hv] at hf; exact hf
  refine ⟨m, b, by rw [ef]; exact h1, by rw [ef]; exact h2, ?_⟩
  refine ACall.fin ?_
  refine ACall.walk (C := cfg 17 4) (cfgOk _ _) [] (fn := Go.Proofs.Tryz.f53) (by kernel_rfl) (by kernel_rfl) rfl (by kernel_rfl) (by kernel_rfl) rfl rfl ?_
  (conv => whnf); repeat (refine sideI ?_; conv => whnf)
  refine AFn.useA [0, 1, 2, 3] (power_at s hs) fun _ => ?_
  rw [show v.powE = 0 by simp [VM.powE, ho]]
  (conv => whnf); repeat (refine sideI ?_; conv => whnf)
  refine AFn.useA [0, 1, 2, 3] (find_yes s x m b f hm hf' h2) fun _ => ?_
  (conv => whnf); repeat (refine sideI ?_; conv => whnf)
  refine ⟨_, _, Ent.mk' (e' := [(0, .tup [ptrV b, AV.int .i64 0])]) (H' := s.H) [some 0, some 1, some 2, some 3] (by kernel_rfl) ?_ ?_, (), rfl, rfl⟩
  · exact ⟨AVE.refl _, trivial⟩
  · exact subC
theorem size_s (x : List UInt8) : AFn Go.Proofs.Tryz.prog 17 [.ptr 0 0, .str x] s.H (fun _ : Unit => .tup [AV.int .i64 (v.size x), AV.int .i64 (v.openE x)]) (fun _ => s.H) := by
  refine ACall.fin ?_
  refine ACall.walk (C := cfg 17 4) (cfgOk _ _) [] (fn := Go.Proofs.Tryz.f17) (by kernel_rfl) (by kernel_rfl) rfl (by kernel_rfl) (by kernel_rfl) rfl rfl ?_
  (conv => whnf); repeat (refine sideI ?_; conv => whnf)
  by_cases h0 : v.openE x = 0
  · obtain ⟨m, b, h1, h2, h3⟩ := open_yes s hs h h0
    rw [h0, show v.size x = ((v.file x).now.length : Int) from if_pos h0]
    refine AFn.useA [0, 1, 2, 3] (h3) fun _ => ?_
    (conv => whnf); repeat (refine sideI ?_; conv => whnf)
    refine AFn.useA [0, 1, 2, 3] (size_at s hs.nd h2) fun _ => ?_
    (conv => whnf); repeat (refine sideI ?_; conv => whnf)
    refine ⟨_, _, Ent.mk' (e' := [(0, .tup [AV.int .i64 ((v.file x).now.length : Int), AV.int .i64 0])]) (H' := s.H) [some 0, some 1, some 2, some 3] (by kernel_rfl) ?_ ?_, (), rfl, rfl⟩
    · exact ⟨AVE.refl _, trivial⟩
    · exact subC
  · rw [show v.size x = 0 from if_neg h0]
    refine AFn.useA [0, 1, 2, 3] (open_no s hs h0) fun _ => ?_
    (conv => whnf); repeat (refine sideI ?_; conv => whnf)
    refine AFn.useA [] (size_nil) fun _ => ?_
    (conv => whnf); repeat (refine sideI ?_; conv => whnf)
    refine ⟨_, _, Ent.mk' (e' := [(0, .tup [AV.int .i64 0, AV.int .i64 (v.openE x)])]) (H' := s.H) [some 0, some 1, some 2, some 3] (by kernel_rfl) ?_ ?_, (), rfl, rfl⟩
    · exact ⟨AVE.refl _, trivial⟩
    · exact subC
theorem readAt_s (hB : B ≤ 80000000) (x : List UInt8) (a m : Int) : AFn Go.Proofs.Tryz.prog 18 [.ptr 0 0, .str x, AV.int .i64 a, AV.int .i64 m] s.H (fun _ : Unit => .tup [.iv (.bs (v.read x a m)), AV.int .i64 (v.readE x a m)]) (fun _ => s.H) := by
  refine ACall.fin ?_
  refine ACall.walk (C := cfg 27 4) (cfgOk _ _) [] (fn := Go.Proofs.Tryz.f18) (by kernel_rfl) (by kernel_rfl) rfl (by kernel_rfl) (by kernel_rfl) rfl rfl ?_
  (conv => whnf); repeat (refine sideI ?_; conv => whnf)
  by_cases h0 : v.openE x = 0
  · obtain ⟨m', b, h1, h2, h3⟩ := open_yes s hs h h0
    rw [show v.readE x a m = (v.file x).readE a m from if_pos h0, show v.read x a m = (v.file x).read a m from if_pos h0]
    refine AFn.useA [0, 1, 2, 3] (h3) fun _ => ?_
    (conv => whnf); repeat (refine sideI ?_; conv => whnf)
    refine AFn.useA [0, 1, 2, 3] (read_at s hs.nd h2 a m (by have := (h.file h1).len; omega)) fun _ => ?_
    (conv => whnf); repeat (refine sideI ?_; conv => whnf)
    refine ⟨_, _, Ent.mk' (e' := [(0, .tup [.iv (.bs ((v.file x).read a m)), AV.int .i64 ((v.file x).readE a m)])]) (H' := s.H) [some 0, some 1, some 2, some 3] (by kernel_rfl) ?_ ?_, (), rfl, rfl⟩
    · exact ⟨AVE.refl _, trivial⟩
    · exact subC
  · rw [show v.readE x a m = v.openE x from if_neg h0, show v.read x a m = [] from if_neg h0]
    refine AFn.useA [0, 1, 2, 3] (open_no s hs h0) fun _ => ?_
    (conv => whnf); repeat (refine sideI ?_; conv => whnf)
    refine branchB_of (fun g => ?_) (fun g => ?_) <;> (first | replace g := not_t g | replace g := not_f g | skip) <;> (first | replace g := of_decide_eq_true g | replace g := of_decide_eq_false g | skip) <;> (first | replace g := Classical.not_not.1 g | skip) <;> (try dsimp only at g)
    · (conv => whnf); repeat (refine sideI ?_; conv => whnf)
      refine ⟨_, _, Ent.mk' (e' := [(0, .tup [.iv (.bs []), AV.int .i64 (v.openE x)])]) (H' := s.H) [some 0, some 1, some 2, some 3] (by kernel_rfl) ?_ ?_, (), rfl, rfl⟩
      · exact ⟨AVE.tupE ⟨AVE.nilBs, AVE.refl _, rfl⟩, trivial⟩
      · exact subC
    · exact absurd g h0
theorem list_s (hn : n ≤ 490) : AFn Go.Proofs.Tryz.prog 20 [.ptr 0 0] s.H (fun _ : Unit => .iv (strRow v.list)) (fun _ => s.H) := by
  have hv := hs.val
  have hm : NOk s.fd.now := by have := (h.nok (by omega)).now; rw [← hv] at this; exact this
  have hl := lsN_length s.fd.now
  have hl2 := hm.len
  refine ACall.fin ?_
  refine ACall.walk (C := cfgL 26 4) (cfgLOk _ _) [] (fn := Go.Proofs.Tryz.f20) (by kernel_rfl) (by kernel_rfl) rfl (by kernel_rfl) (by kernel_rfl) rfl rfl ?_
  (conv => whnf); repeat (refine sideI ?_; conv => whnf)
  refine AFn.useA [0, 1, 2, 3] (power_at s hs) fun _ => ?_
  rcases Bool.eq_false_or_eq_true v.off with ho | ho
  · rw [show v.powE = 20 by simp [VM.powE, ho], show v.list = [] by simp [VM.list, ho]]
    (conv => whnf); repeat (refine sideI ?_; conv => whnf)
    refine ⟨_, _, Ent.mk' (e' := [(0, .iv (strRow []))]) (H' := s.H) [some 0, some 1, some 2, some 3] (by kernel_rfl) ?_ ?_, (), rfl, rfl⟩
    · exact ⟨AVE.nilSl' _ _, trivial⟩
    · exact subC
  · have hL : v.list = (lsN s.fd.now).map (·.1) := by rw [← hv] at ho ⊢; have ho : s.off = false := ho; simp [VM.list, ho]
    have hLl : v.list.length = (lsN s.fd.now).length := by rw [hL, List.length_map]
    have hLg : ∀ i, v.list.getD i [] = ((lsN s.fd.now).getD i ([], 0)).1 := fun i => by
      rw [hL]
      simp only [List.getD, List.getElem?_map]
      cases (lsN s.fd.now)[i]? <;> rfl
    rw [show v.powE = 0 by simp [VM.powE, ho]]
    (conv => whnf); repeat (refine sideI ?_; conv => whnf)
    refine AFn.useA [1] (list_ok s.fd hm) fun _ => ?_
    (conv => whnf); repeat (refine sideI ?_; conv => whnf)
    refine AWP.loop (X := { i : Nat // i ≤ (lsN s.fd.now).length }) (fun i => [(0, .ptr 0 0), (3, .row 4 1 0 i.1), (13, .iv (.sl 2 (lsN s.fd.now).length (enF (lsN s.fd.now)))), (14, AV.int .i64 (lsN s.fd.now).length), (15, AV.int .i64 i.1)]) (fun i => ⟨5, s.H.ch ++ [(4, .rowc 9 1 i.1 (fun i => [.str (v.list.getD i [])]))]⟩) (fun i => (lsN s.fd.now).length - i.1) (⟨0, Nat.zero_le _⟩) ?_ fun i => AWP.go (S := []) (cfgLOk _ _) (.of_eq (by kernel_rfl)) ?_
    · refine Ent.mk' [some 0, some 1, some 2, some 3, none] (by kernel_rfl) ?_ ?_
      · exact ⟨AVE.refl _, AVE.nil _ _, AVE.refl _, AVE.refl _, AVE.refl _, trivial⟩
      · exact ⟨⟨_, rfl, ChE.refl _⟩, ⟨_, rfl, ChE.refl _⟩, ⟨_, rfl, ChE.refl _⟩, ⟨_, rfl, ChE.refl _⟩, trivial, trivial⟩
    · obtain ⟨i, hi⟩ := i
      (conv => whnf); repeat (refine sideI ?_; conv => whnf)
      refine branchB_of (fun h1 => ?_) (fun h1 => ?_) <;> (first | replace h1 := not_t h1 | replace h1 := not_f h1 | skip) <;> (first | replace h1 := of_decide_eq_true h1 | replace h1 := of_decide_eq_false h1 | skip) <;> (first | replace h1 := Classical.not_not.1 h1 | skip) <;> (try dsimp only at h1)
      · (conv => whnf); repeat (refine sideI ?_; conv => whnf)
        refine ⟨⟨i + 1, by omega⟩, Ent.mkC [some 0, some 1, some 2, some 3, some 6] ?_, ?_⟩
        · exact ⟨⟨_, rfl, ChE.refl _⟩, ⟨_, rfl, ChE.refl _⟩, ⟨_, rfl, ChE.refl _⟩, ⟨_, rfl, ChE.refl _⟩, ⟨_, rfl, ChE.push (fun _ _ => rfl) (by simp only [hLg, Int.toNat_natCast]; exact IVEs.refl _)⟩, trivial⟩
        · show (lsN s.fd.now).length - (i + 1) < (lsN s.fd.now).length - i
          omega
      · (conv => whnf); repeat (refine sideI ?_; conv => whnf)
        have hi' : i = v.list.length := by omega
        subst hi'
        refine ⟨_, _, (Ent.freeze 4 _ rfl rfl (e' := [(0, .iv (strRow v.list))]) ?_).trans (Ent.mk' (e' := [(0, .iv (strRow v.list))]) (H' := s.H) [some 0, some 1, some 2, some 3] (by kernel_rfl) ⟨AVE.refl _, trivial⟩ ?_), (), rfl, rfl⟩
        · exact ⟨AVF.sl (Nat.le_refl _), trivial⟩
        · exact subC
omit h
theorem steps_s : AFn Go.Proofs.Tryz.prog 24 [.ptr 0 0] s.H (fun _ : Unit => AV.int .i64 (bif v.off then 0 else v.steps)) (fun _ => s.H) := by
  have hv := hs.val
  refine ACall.fin ?_
  refine ACall.walk (C := cfg 10 4) (cfgOk _ _) [] (fn := Go.Proofs.Tryz.f24) (by kernel_rfl) (by kernel_rfl) rfl (by kernel_rfl) (by kernel_rfl) rfl rfl ?_
  (conv => whnf); repeat (refine sideI ?_; conv => whnf)
  refine AFn.useA [0, 1, 2, 3] (power_at s hs) fun _ => ?_
  rcases Bool.eq_false_or_eq_true v.off with ho | ho
  · rw [show v.powE = 20 by simp [VM.powE, ho], show (bif v.off then 0 else v.steps) = 0 by rw [ho]; rfl]
    (conv => whnf); repeat (refine sideI ?_; conv => whnf)
    refine ⟨_, _, Ent.mk' (e' := [(0, AV.int .i64 0)]) (H' := s.H) [some 0, some 1, some 2, some 3] (by kernel_rfl) ?_ ?_, (), rfl, rfl⟩
    · exact ⟨AVE.refl _, trivial⟩
    · exact subC
  · rw [show v.powE = 0 by simp [VM.powE, ho], show (bif v.off then 0 else v.steps) = s.steps by rw [ho, ← hv]; rfl]
    (conv => whnf); repeat (refine sideI ?_; conv => whnf)
    refine ⟨_, _, Ent.mk' (e' := [(0, AV.int .i64 s.steps)]) (H' := s.H) [some 0, some 1, some 2, some 3] (by kernel_rfl) ?_ ?_, (), rfl, rfl⟩
    · exact ⟨AVE.refl _, trivial⟩
    · exact subC
theorem on_s : AFn Go.Proofs.Tryz.prog 16 [.ptr 0 0] s.H (fun _ : Unit => AV.bool (!v.off)) (fun _ => s.H) := by
  refine ACall.fin ?_
  refine ACall.walk (C := cfg 6 4) (cfgOk _ _) [] (fn := Go.Proofs.Tryz.f16) (by kernel_rfl) (by kernel_rfl) rfl (by kernel_rfl) (by kernel_rfl) rfl rfl ?_
  (conv => whnf); repeat (refine sideI ?_; conv => whnf)
  refine AFn.useA [0, 1, 2, 3] (power_at s hs) fun _ => ?_
  (conv => whnf); repeat (refine sideI ?_; conv => whnf)
  refine ⟨_, _, Ent.mk' (e' := [(0, AV.bool (!v.off))]) (H' := s.H) [some 0, some 1, some 2, some 3] (by kernel_rfl) ?_ ?_, (), rfl, rfl⟩
  · refine ⟨AVE.bool ?_, trivial⟩
    unfold VM.powE
    cases v.off <;> rfl
  · exact subC
def VM.fuseSet (m : Int) (v : VM) : VM := if v.off = true then v else { v with fuse := max m (-1) }
theorem fuse_s (m : Int) (_hm : m ≤ 9223372036854775807) : AFn Go.Proofs.Tryz.prog 25 [.ptr 0 0, AV.int .i64 m] s.H (fun _ : { s' : SM // s'.At (v.fuseSet m) } => AV.int .i64 v.powE) (fun s' => s'.1.H) := by
  have hv := hs.val
  refine ACall.fin ?_
  refine ACall.walk (C := cfg 16 4) (cfgOk _ _) [] (fn := Go.Proofs.Tryz.f25) (by kernel_rfl) (by kernel_rfl) rfl (by kernel_rfl) (by kernel_rfl) rfl rfl ?_
  (conv => whnf); repeat (refine sideI ?_; conv => whnf)
  refine AFn.useA [0, 1, 2, 3] (power_at s hs) fun _ => ?_
  rcases Bool.eq_false_or_eq_true v.off with ho | ho
  · have e1 : v.fuseSet m = v := if_pos ho
    rw [show v.powE = 20 by simp [VM.powE, ho]]
    (conv => whnf); repeat (refine sideI ?_; conv => whnf)
    refine ⟨_, _, Ent.mk' (e' := [(0, AV.int .i64 20)]) (H' := s.H) [some 0, some 1, some 2, some 3] (by kernel_rfl) ⟨AVE.refl _, trivial⟩ (by repeat' (first | exact trivial | refine ⟨⟨_, rfl, ChE.refl _⟩, ?_⟩)), ⟨s, by rw [e1]; exact hs⟩, rfl, rfl⟩
  · have e1 : v.fuseSet m = { v with fuse := max m (-1) } := if_neg (by rw [ho]; decide)
    rw [show v.powE = 0 by simp [VM.powE, ho]]
    (conv => whnf); repeat (refine sideI ?_; conv => whnf)
    refine ⟨_, _, Ent.mk' (e' := [(0, AV.int .i64 0)]) (H' := SM.H { s with fuse := max m (-1) }) [some 0, some 1, some 2, some 3] (by kernel_rfl) ⟨AVE.refl _, trivial⟩ (by repeat' (first | exact trivial | refine ⟨⟨_, rfl, ChE.refl _⟩, ?_⟩)), ⟨{ s with fuse := max m (-1) }, by rw [e1, ← hv]; exact ⟨rfl, hs.nd⟩⟩, rfl, rfl⟩
end
end Go.Proofs.YtpgdbeacmlojcaaGreat.Ax

namespace Go.Proofs.YtpgdbeacmlojcaaGreat.Ax
open Go.RowKit
set_option maxRecDepth 100000
/-- A row of numbers. -/
def iF (P : List Int) (i : Nat) : List IV := [.v (.int .i64 (P.getD i 0))]
@[reducible] def iRow (P : List Int) : IV := .sl 1 P.length (iF P)
def pickN (P : List Int) (L : Nat) : Nat := match P with
  | [] => 0
  | p :: _ => p.toNat % (L + 1)
theorem pickN_le' (P : List Int) (L : Nat) {m : Nat} (h : L ≤ m) : pickN P L ≤ m := by
  unfold pickN
  split
  · exact Nat.zero_le _
  · rename_i p _
    have h1 : p.toNat % (L + 1) < L + 1 := Nat.mod_lt _ (Nat.succ_pos L)
    omega
@[reducible] def pickH (P : List Int) : AH := ⟨1, [(0, .cells 24 [.iv (iRow P)])]⟩
theorem iF_tail (p : Int) (P : List Int) (i : Nat) : iF (p :: P) (1 + i) = iF P i := by
  unfold iF
  rw [Nat.add_comm, List.getD_cons_succ]
theorem pick_ok (P : List Int) (hP : ∀ p ∈ P, 0 ≤ p) (L : Nat) (hL : L ≤ 1000000000) : AFn Go.Proofs.Tryz.prog 45 [AV.int .i64 L, .ptr 0 0] (pickH P) (fun _ : Unit => AV.int .i64 (pickN P L)) (fun _ => pickH P.tail) := by
  refine ACall.fin ?_
  refine ACall.walk (C := cfgN 17 1) (cfgNOk _ _) [] (fn := Go.Proofs.Tryz.f45) (by kernel_rfl) (by kernel_rfl) rfl (by kernel_rfl) (by kernel_rfl) rfl rfl ?_
  (conv => whnf); repeat (refine sideI ?_; conv => whnf)
  cases P with
  | nil =>
    (conv => whnf); repeat (refine sideI ?_; conv => whnf)
    refine ⟨_, _, Ent.mk' (e' := [(0, AV.int .i64 0)]) (H' := pickH []) [some 0] (by kernel_rfl) ?_ ?_, (), rfl, rfl⟩
    · exact ⟨AVE.refl _, trivial⟩
    · exact subC
  | cons p P =>
    have hp := hP p (List.mem_cons_self ..)
    (conv => whnf); repeat (refine sideI ?_; conv => whnf)
    refine ⟨_, _, Ent.mk' (e' := [(0, AV.int .i64 (pickN (p :: P) L))]) (H' := pickH P) [some 0] (by kernel_rfl) ?_ ?_, (), rfl, rfl⟩
    · refine ⟨AVE.int ?_, trivial⟩
      show (p :: P).getD 0 0 % ((L : Int) + 1) = _
      simp only [pickN, List.getD_cons_zero]
      rw [Int.natCast_emod, Int.toNat_of_nonneg hp]
      rfl
    · refine ⟨⟨_, rfl, ChE.cells ⟨AVE.of_eq ?_, rfl⟩⟩, trivial⟩
      show AV.iv (IV.sl 1 (((p :: P).length : Int).toNat - Int.toNat 1) fun i => iF (p :: P) (Int.toNat 1 + i)) = AV.iv (iRow P)
      rw [show ((p :: P).length : Int).toNat - Int.toNat 1 = P.length by simp, show (fun i => iF (p :: P) (Int.toNat 1 + i)) = iF P from funext fun i => iF_tail p P i]
theorem neg_ok (p : Int) : AFn Go.Proofs.Tryz.prog 44 [AV.int .i64 p] ⟨0, []⟩ (fun _ : Unit => AV.bool (decide (p < 0))) (fun _ => ⟨0, []⟩) := by
  refine ACall.walk (C := cfg 5 0) (cfgOk _ _) [] (fn := Go.Proofs.Tryz.f44) (by kernel_rfl) (by kernel_rfl) rfl (by kernel_rfl) (by kernel_rfl) rfl rfl ?_
  conv => whnf
  exact ⟨(), rfl, rfl⟩
theorem indexF_ok (P : List Int) (hl : P.length ≤ 9223372036854775807) : AFn Go.Proofs.Tryz.prog 75 [.iv (iRow P), .iv (.v (.func (.func 44) ⟨[]⟩ ⟨[]⟩))] ⟨0, []⟩ (fun y : { y : Int // 0 ≤ y ↔ ∃ p ∈ P, p < 0 } => AV.int .i64 y.1) (fun _ => ⟨0, []⟩) := by
  refine ACall.fin ?_
  refine ACall.walk (C := cfg 19 0) (cfgOk _ _) [] (fn := Go.Proofs.Tryz.f75) (by kernel_rfl) (by kernel_rfl) rfl (by kernel_rfl) (by kernel_rfl) rfl rfl ?_
  (conv => whnf); repeat (refine sideI ?_; conv => whnf)
  refine AWP.loop (X := { i : Nat // i ≤ P.length ∧ ∀ j, j < i → ¬ P.getD j 0 < 0 }) (fun y => [(0, .iv (iRow P)), (1, .iv (.v (.func (.func 44) ⟨[]⟩ ⟨[]⟩))), (7, AV.int .i64 P.length), (8, AV.int .i64 y.1)]) (fun y => ⟨0, []⟩) (fun y => P.length - y.1) (⟨0, Nat.zero_le _, fun j hj => absurd hj (Nat.not_lt_zero _)⟩) ?_ fun y => AWP.go (S := []) (cfgOk _ _) (.of_eq (by kernel_rfl)) ?_
  · exact Ent.mkA []
  · obtain ⟨i, hi, hne⟩ := y
    (conv => whnf); repeat (refine sideI ?_; conv => whnf)
    refine branchB_of (fun h1 => ?_) (fun h1 => ?_) <;> (first | replace h1 := not_t h1 | replace h1 := not_f h1 | skip) <;> (first | replace h1 := of_decide_eq_true h1 | replace h1 := of_decide_eq_false h1 | skip) <;> (first | replace h1 := Classical.not_not.1 h1 | skip) <;> (try dsimp only at h1)
    · have hlt : i < P.length := by omega
      (conv => whnf); repeat (refine sideI ?_; conv => whnf)
      refine AFn.useA [] (neg_ok (P.getD i 0)) fun _ => ?_
      (conv => whnf); repeat (refine sideI ?_; conv => whnf)
      by_cases hp : P.getD i 0 < 0
      · rw [decide_eq_true hp]
        (conv => whnf); repeat (refine sideI ?_; conv => whnf)
        exact ⟨AV.int .i64 i, ⟨0, []⟩, Ent.mk' [] (by kernel_rfl) ⟨AVE.refl _, trivial⟩ trivial, ⟨(i : Int), ⟨fun _ => ⟨P.getD i 0, by simp [List.getD, hlt], hp⟩, fun _ => by omega⟩⟩, rfl, rfl⟩
      · rw [decide_eq_false hp]
        (conv => whnf); repeat (refine sideI ?_; conv => whnf)
        refine ⟨⟨i + 1, by omega, fun j hj => by
          rcases Nat.lt_succ_iff_lt_or_eq.1 hj with h | h
          · exact hne j h
          · subst h; exact hp⟩, Ent.mkA [], ?_⟩
        show P.length - (i + 1) < P.length - i
        omega
    · (conv => whnf); repeat (refine sideI ?_; conv => whnf)
      refine ⟨AV.int .i64 (-1), ⟨0, []⟩, Ent.mk' [] (by kernel_rfl) ⟨AVE.refl _, trivial⟩ trivial, ⟨-1, ⟨fun h => by omega, fun ⟨p, hm, hp⟩ => ?_⟩⟩, rfl, rfl⟩
      obtain ⟨j, hj, e⟩ := List.getElem_of_mem hm
      exact absurd (by simpa [List.getD, hj, e] using hp) (hne j (by omega))
theorem containsF_ok (P : List Int) (hl : P.length ≤ 9223372036854775807) : AFn Go.Proofs.Tryz.prog 43 [.iv (iRow P), .iv (.v (.func (.func 44) ⟨[]⟩ ⟨[]⟩))] ⟨0, []⟩ (fun _ : Unit => AV.bool (P.any fun p => decide (p < 0))) (fun _ => ⟨0, []⟩) := by
  refine ACall.fin ?_
  refine ACall.walk (C := cfg 9 0) (cfgOk _ _) [] (fn := Go.Proofs.Tryz.f43) (by kernel_rfl) (by kernel_rfl) rfl (by kernel_rfl) (by kernel_rfl) rfl rfl ?_
  (conv => whnf); repeat (refine sideI ?_; conv => whnf)
  refine AFn.useA [] (indexF_ok P hl) fun y => ?_
  obtain ⟨y, hy⟩ := y
  (conv => whnf); repeat (refine sideI ?_; conv => whnf)
  refine ⟨_, _, Ent.mk' (e' := [(0, AV.bool (P.any fun p => decide (p < 0)))]) (H' := ⟨0, []⟩) [] (by kernel_rfl) ?_ ?_, (), rfl, rfl⟩
  rotate_left
  · trivial
  refine ⟨AVE.bool ?_, trivial⟩
  rw [Bool.eq_iff_iff, decide_eq_true_eq, List.any_eq_true]
  refine hy.trans ⟨fun ⟨p, h1, h2⟩ => ⟨p, h1, decide_eq_true h2⟩, fun ⟨p, h1, h2⟩ => ⟨p, h1, of_decide_eq_true h2⟩⟩
/-! A file system behind a crash. -/
/-- What is done at one file. -/
def cs1 (st : List Int × List (Nat × FI)) (x : Nat) : List Int × List (Nat × FI) :=
  (st.1.tail, fset st.2 x (((ffind st.2 x).getD ⟨[], [], []⟩).crash (pickN st.1 (fl ((ffind st.2 x).getD ⟨[], [], []⟩).ds))))
def csN (P : List Int) (fs : List (Nat × FI)) (l : List Nat) : List Int × List (Nat × FI) := l.foldl cs1 (P, fs)
theorem csN_succ (P : List Int) (fs : List (Nat × FI)) {l : List Nat} {i : Nat} (h : i < l.length) : csN P fs (l.take (i + 1)) = cs1 (csN P fs (l.take i)) (l.getD i 0) := by
  unfold csN
  rw [List.take_add_one, List.getElem?_eq_getElem h, List.foldl_append]
  simp [List.getD, h]
theorem csN_neg {P : List Int} (hP : ∀ p ∈ P, 0 ≤ p) (fs : List (Nat × FI)) : ∀ l : List Nat, ∀ p ∈ (csN P fs l).1, 0 ≤ p := by
  have key : ∀ (l : List Nat) (st : List Int × List (Nat × FI)), (∀ p ∈ st.1, 0 ≤ p) → ∀ p ∈ (l.foldl cs1 st).1, 0 ≤ p := by
    intro l
    induction l with
    | nil => intro st h; exact h
    | cons x l ih => intro st h; exact ih (cs1 st x) fun p hp => h p (List.mem_of_mem_tail hp)
  exact fun l => key l (P, fs) hP
def VM.crash1 (P : List Int) (v : VM) : VM := VM.clean { v with fd := v.fd.crash (pickN P v.fd.ds.length) }
def VM.crash (P : List Int) (v : VM) : VM := { v.crash1 P with fs := (csN P.tail (v.crash1 P).fs (v.crash1 P).fd.live).2, off := false, fuse := -1 }
section
variable {n B k : Nat} {v : VM} (h : v.Ok n B k)
include h
theorem VM.Ok.crash0 (K : Int) : VM.Ok n B k { v with fd := v.fd.crash K } :=
  ⟨h.fd.crash K, Nat.zero_le _, h.last, h.nd, h.le, h.files, h.steps, h.fuse, h.quota⟩
theorem VM.Ok.crash1 (P : List Int) : (v.crash1 P).Ok n B k := (h.crash0 _).clean
theorem VM.Ok.csN (P : List Int) : ∀ l : List Nat, VM.Ok n B k { v with fs := (Ax.csN P v.fs l).2 } := by
  have key : ∀ (l : List Nat) (st : List Int × List (Nat × FI)), VM.Ok n B k { v with fs := st.2 } → VM.Ok n B k { v with fs := (l.foldl cs1 st).2 } := by
    intro l
    induction l with
    | nil => intro st h; exact h
    | cons x l ih =>
      intro st h
      refine ih (cs1 st x) ?_
      refine h.fset (x := x) ?_
      cases hf : ffind st.2 x with
      | none => exact (FI.Ok.rest n B (Nat.zero_le _)).crash _
      | some f => exact (h.file hf).crash _
  exact fun l => key l (P, v.fs) h
theorem VM.Ok.crash (P : List Int) : (v.crash P).Ok n B k := by
  have h1 := (h.crash1 P).csN P.tail (v.crash1 P).fd.live
  exact ⟨h1.fd, h1.ds, h1.last, h1.nd, h1.le, h1.files, h1.steps, ⟨by show (-1 : Int) ≤ -1; decide, by show (-1 : Int) ≤ 9223372036854775807; decide⟩, h1.quota⟩
end
def crashE (P : List Int) : Int := bif P.any fun p => decide (p < 0) then 1 else 0
/-- How far a crash has come. -/
structure CrS (v : VM) (P : List Int) where
  i : Nat
  hi : i ≤ (v.crash1 P).fd.live.length
  s : SM
  hs : s.At { v.crash1 P with fs := (csN P.tail (v.crash1 P).fs ((v.crash1 P).fd.live.take i)).2 }
section
variable (s : SM) {n B k : Nat} {v : VM} (hs : s.At v) (h : v.Ok n B k) (hn : n ≤ 490) (hB : B ≤ 80000000)
include hs
theorem crash_bad {P : List Int} (hl : P.length ≤ 9223372036854775807) (hP : P.any (fun p => decide (p < 0)) = true) : AFn Go.Proofs.Tryz.prog 14 [.ptr 0 0, .iv (iRow P)] s.H (fun _ : { s' : SM // s'.At v } => AV.int .i64 1) (fun s' => s'.1.H) := by
  refine ACall.fin ?_
  refine ACall.walk (C := cfgN 59 4) (cfgNOk _ _) sch14 (fn := Go.Proofs.Tryz.f14) (by kernel_rfl) (by kernel_rfl) rfl (by kernel_rfl) (by kernel_rfl) rfl rfl ?_
  (conv => whnf); repeat (refine sideI ?_; conv => whnf)
  refine AFn.useA [0, 1, 2, 3] (fnone_in s) fun _ => ?_
  (conv => whnf); repeat (refine sideI ?_; conv => whnf)
  refine AFn.useA [] (containsF_ok P hl) fun _ => ?_
  rw [hP]
  (conv => whnf); repeat (refine sideI ?_; conv => whnf)
  exact ⟨_, _, Ent.mk' (e' := [(0, AV.int .i64 1)]) (H' := s.H) [some 0, some 1, some 2, some 3] (by kernel_rfl) ⟨AVE.refl _, trivial⟩ (by repeat' (first | exact trivial | refine ⟨⟨_, rfl, ChE.refl _⟩, ?_⟩)), ⟨s, hs⟩, rfl, rfl⟩
include h hn hB
theorem crash_good {P : List Int} (hl : P.length ≤ 9223372036854775807) (hP : P.any (fun p => decide (p < 0)) = false) : AFn Go.Proofs.Tryz.prog 14 [.ptr 0 0, .iv (iRow P)] s.H (fun _ : { s' : SM // s'.At (v.crash P) } => AV.int .i64 0) (fun s' => s'.1.H) := by
  have hP0 : ∀ p ∈ P, 0 ≤ p := fun p hp => by
    have := List.any_eq_false.1 hP p hp
    simp at this
    exact this
  have hv := hs.val
  have hds : s.fd.ds.length ≤ 490 := by have := h.ds; rw [← hv] at this; have : s.fd.ds.length ≤ n := this; omega
  refine ACall.fin ?_
  refine ACall.walk (C := cfgN 59 4) (cfgNOk _ _) sch14 (fn := Go.Proofs.Tryz.f14) (by kernel_rfl) (by kernel_rfl) rfl (by kernel_rfl) (by kernel_rfl) rfl rfl ?_
  (conv => whnf); repeat (refine sideI ?_; conv => whnf)
  refine AFn.useA [0, 1, 2, 3] (fnone_in s) fun _ => ?_
  (conv => whnf); repeat (refine sideI ?_; conv => whnf)
  refine AFn.useA [] (containsF_ok P hl) fun _ => ?_
  rw [hP]
  (conv => whnf); repeat (refine sideI ?_; conv => whnf)
  have h0 := h.crash0 (pickN P v.fd.ds.length : Nat)
  have h1 := h.crash1 P
  have e1 : v.crash1 P = (SM.val { s with fd := s.fd.crash (pickN P s.fd.ds.length : Nat) }).clean := by rw [← hv]; rfl
  have ht : SM.At { s with fd := s.fd.crash (pickN P s.fd.ds.length : Nat) } { v with fd := v.fd.crash (pickN P v.fd.ds.length : Nat) } := by rw [← hv]; exact ⟨rfl, hs.nd⟩
  have hc := clean_at ht
  have hcl := h0.cl (by omega)
  have hin : (s.fd.crash (pickN P s.fd.ds.length : Nat)).In NOk := by have := hcl.fin; rw [← hv] at this; exact this
  have hliv : (v.crash1 P).fd.live = (s.fd.crash (pickN P s.fd.ds.length : Nat)).live := by rw [e1]; rfl
  have hll : (s.fd.crash (pickN P s.fd.ds.length : Nat)).live.length ≤ 1000 := live_len hin
  have hok : ∀ i, VM.Ok n B k { v.crash1 P with fs := (csN P.tail (v.crash1 P).fs ((v.crash1 P).fd.live.take i)).2 } := fun i => h1.csN P.tail _
  have hneg : ∀ i, ∀ p ∈ (csN P.tail (v.crash1 P).fs ((v.crash1 P).fd.live.take i)).1, 0 ≤ p := fun i => csN_neg (fun p hp => hP0 p (List.mem_of_mem_tail hp)) _ _
  repeat' (first | (refine And.intro ?_ ?_ <;> ((conv => whnf); repeat (refine sideI ?_; conv => whnf))) | (refine AFn.useA [1] (loose_ok s.fd) fun _ => ?_; ((conv => whnf); repeat (refine sideI ?_; conv => whnf))))
  all_goals
    refine AFn.useA [4] (pick_ok P hP0 s.fd.ds.length (by omega)) fun _ => ?_
    (conv => whnf); repeat (refine sideI ?_; conv => whnf)
    refine AFn.useA [1] (crash_ok s.fd (by omega) (pickN P s.fd.ds.length : Nat)) fun _ => ?_
    (conv => whnf); repeat (refine sideI ?_; conv => whnf)
    refine AFn.useA [0, 1, 2, 3] (clean_ok _ ht hcl) fun _ => ?_
    (conv => whnf); repeat (refine sideI ?_; conv => whnf)
    refine AFn.useA [1] (live_ok (s.fd.crash (pickN P s.fd.ds.length : Nat)) hin (Nat.zero_le _)) fun _ => ?_
    (conv => whnf); repeat (refine sideI ?_; conv => whnf)
    refine AWP.loop (X := CrS v P) (fun y => [(0, .ptr 0 0), (5, .fnc (.func 45) [] [.ptr 4 0]), (34, .iv (.sl 1 (s.fd.crash (pickN P s.fd.ds.length : Nat)).live.length (uF (s.fd.crash (pickN P s.fd.ds.length : Nat)).live.toArray))), (35, AV.int .i64 (s.fd.crash (pickN P s.fd.ds.length : Nat)).live.length), (36, AV.int .i64 y.i)]) (fun y => ⟨5, y.s.H.ch ++ [(4, .cells 24 [.iv (iRow (csN P.tail (v.crash1 P).fs ((v.crash1 P).fd.live.take y.i)).1)])]⟩) (fun y => (v.crash1 P).fd.live.length - y.i) (⟨0, Nat.zero_le _, _, hc⟩) ?_ fun y => AWP.go (S := sch14) (cfgNOk _ _) (.of_eq (by kernel_rfl)) ?_
    · exact Ent.mkA [some 0, some 1, some 2, some 3, some 4]
    · obtain ⟨i, hi, s', hs'⟩ := y
      (conv => whnf); repeat (refine sideI ?_; conv => whnf)
      refine branchB_of (fun g1 => ?_) (fun g1 => ?_) <;> (first | replace g1 := not_t g1 | replace g1 := not_f g1 | skip) <;> (first | replace g1 := of_decide_eq_true g1 | replace g1 := of_decide_eq_false g1 | skip) <;> (first | replace g1 := Classical.not_not.1 g1 | skip) <;> (try dsimp only at g1)
      · have hlt : i < (v.crash1 P).fd.live.length := by rw [hliv]; omega
        have hx : (v.crash1 P).fd.live.getD i 0 ∈ (v.crash1 P).fd.live := by simp [List.getD, hlt]
        obtain ⟨f, hf⟩ := Option.isSome_iff_exists.1 ((hok i).alive _ hx)
        obtain ⟨b, hb⟩ := at_find hs' hf
        have hfo := (hok i).file hf
        have hkey : (s.fd.crash (pickN P s.fd.ds.length : Nat)).live.toArray[i]! = (v.crash1 P).fd.live.getD i 0 := by rw [hliv]; simp [List.getD]
        have hnext := csN_succ P.tail (v.crash1 P).fs hlt
        have hput := file_put hs' (hok i).nd hb (f.crash (pickN (csN P.tail (v.crash1 P).fs ((v.crash1 P).fd.live.take i)).1 (fl f.ds)))
        have hput' : (s'.put b (f.crash (pickN (csN P.tail (v.crash1 P).fs ((v.crash1 P).fd.live.take i)).1 (fl f.ds)))).At { v.crash1 P with fs := (csN P.tail (v.crash1 P).fs ((v.crash1 P).fd.live.take (i + 1))).2 } := by
          rw [hnext]
          have hf' : ffind (csN P.tail (v.crash1 P).fs ((v.crash1 P).fd.live.take i)).2 ((v.crash1 P).fd.live.getD i 0) = some f := hf
          unfold cs1
          rw [hf']
          exact hput
        (conv => whnf); repeat (refine sideI ?_; conv => whnf)
        rw [mfind_flM]
        simp -iota only [Int.toNat_natCast]
        have hb' : (s'.fs.find? fun p => decide (p.1 = (s.fd.crash (pickN P s.fd.ds.length : Nat)).live.toArray[i]!)) = some ((v.crash1 P).fd.live.getD i 0, b, f) := by rw [hkey]; exact hb
        rw [hb']
        refine ⟨fun y hy => ?_, fun hy => by cases hy⟩
        cases hy
        (conv => whnf); repeat (refine sideI ?_; conv => whnf)
        refine AFn.useA [0, 1, 2, 3] (loose_at s' hs'.nd hb (by have := hfo.ds; omega) (by have := hfo.sz; omega)) fun _ => ?_
        (conv => whnf); repeat (refine sideI ?_; conv => whnf)
        refine AFn.useA [4] (pick_ok _ (hneg i) (fl f.ds) (by have := hfo.sz; omega)) fun _ => ?_
        (conv => whnf); repeat (refine sideI ?_; conv => whnf)
        refine AFn.useA [0, 1, 2, 3] (crash_at s' hb (pickN (csN P.tail (v.crash1 P).fs ((v.crash1 P).fd.live.take i)).1 (fl f.ds)) (pickN_le' _ _ (by have := hfo.sz; omega)) hfo.vd (by have := hfo.sz; omega) (by have := hfo.ds; omega)) fun _ => ?_
        (conv => whnf); repeat (refine sideI ?_; conv => whnf)
        refine ⟨⟨i + 1, by omega, s'.put b (f.crash (pickN (csN P.tail (v.crash1 P).fs ((v.crash1 P).fd.live.take i)).1 (fl f.ds))), hput'⟩, Ent.mkC [some 0, some 1, some 2, some 3, some 4] ?_, ?_⟩
        · exact ⟨⟨_, rfl, ChE.refl _⟩, ⟨_, rfl, ChE.refl _⟩, ⟨_, rfl, ChE.refl _⟩, ⟨_, rfl, ChE.refl _⟩, ⟨_, rfl, ChE.of_eq (by rw [hnext]; rfl)⟩, trivial⟩
        · show (v.crash1 P).fd.live.length - (i + 1) < (v.crash1 P).fd.live.length - i
          omega
      · have hi' : i = (v.crash1 P).fd.live.length := by rw [hliv] at hi ⊢; omega
        subst hi'
        have hend : SM.At { s' with off := false, fuse := -1 } (v.crash P) := by
          have hv' := hs'.val
          rw [List.take_length] at hv'
          refine ⟨?_, hs'.nd⟩
          have e : SM.val { s' with off := false, fuse := -1 } = { SM.val s' with off := false, fuse := -1 } := rfl
          rw [e, hv']
          rfl
        (conv => whnf); repeat (refine sideI ?_; conv => whnf)
        exact ⟨_, _, Ent.mk' (e' := [(0, AV.int .i64 0)]) (H' := SM.H { s' with off := false, fuse := -1 }) [some 0, some 1, some 2, some 3] (by kernel_rfl) ⟨AVE.refl _, trivial⟩ (by repeat' (first | exact trivial | refine ⟨⟨_, rfl, ChE.refl _⟩, ?_⟩)), ⟨{ s' with off := false, fuse := -1 }, hend⟩, rfl, rfl⟩
end
end Go.Proofs.YtpgdbeacmlojcaaGreat.Ax

namespace Go.Proofs.YtpgdbeacmlojcaaGreat.Ax
open Go.RowKit
set_option maxRecDepth 100000
/-- What is in another order under a map can be put in order ahead of it. -/
theorem perm_lift {X Y : Type} (g : X → Y) {a b : List Y} (h : a.Perm b) : ∀ {N : List X}, N.map g = a → ∃ N' : List X, N.Perm N' ∧ N'.map g = b := by
  induction h with
  | nil => intro N e; exact ⟨N, .refl _, e⟩
  | cons y _ ih =>
    intro N e
    cases N with
    | nil => cases e
    | cons x N =>
      rw [List.map_cons] at e
      injection e with e1 e2
      obtain ⟨N', h1, h2⟩ := ih e2
      exact ⟨x :: N', h1.cons x, by rw [List.map_cons, e1, h2]⟩
  | swap y z l =>
    intro N e
    cases N with
    | nil => cases e
    | cons x N =>
      cases N with
      | nil => rw [List.map_cons] at e; injection e with _ e; cases e
      | cons x' N =>
        simp only [List.map_cons] at e
        injection e with e1 e2
        injection e2 with e2 e3
        exact ⟨x' :: x :: N, .swap .., by simp only [List.map_cons]; rw [e1, e2, e3]⟩
  | trans _ _ ih1 ih2 =>
    intro N e
    obtain ⟨N1, h1, h2⟩ := ih1 e
    obtain ⟨N2, h3, h4⟩ := ih2 h2
    exact ⟨N2, h1.trans h3, h4⟩
def lfS (l : List (Nat × Nat × FI)) (left : List MK) : List (Nat × Nat × FI) := l.filter fun p => decide (MK.i .u64 (p.1 : Int) ∈ left)
theorem lfS_all (l : List (Nat × Nat × FI)) : lfS l ((flM l).map (·.1)) = l := by
  unfold lfS
  rw [List.filter_eq_self]
  intro p hp
  refine decide_eq_true ?_
  exact List.mem_map.2 ⟨_, List.mem_map_of_mem (f := fun p : Nat × Nat × FI => (MK.i .u64 (p.1 : Int), adI p.2.1)) hp, rfl⟩
theorem mki_inj {a b : Nat} (h : MK.i .u64 (a : Int) = MK.i .u64 (b : Int)) : a = b := by injection h with _ h; omega
theorem lfS_take : ∀ {l : List (Nat × Nat × FI)} {left : List MK} {p : Nat × Nat × FI}, (l.map (·.1)).Nodup → p ∈ l → MK.i .u64 (p.1 : Int) ∈ left → (lfS l left).Perm (p :: lfS l (left.filter fun j => decide (j ≠ MK.i .u64 (p.1 : Int))))
  | [], _, _, _, h, _ => by cases h
  | q :: l, left, p, hn, hp, hl => by
    simp only [List.map_cons, List.nodup_cons] at hn
    have other : ∀ q' : Nat × Nat × FI, q'.1 ≠ p.1 → (decide (MK.i .u64 (q'.1 : Int) ∈ left.filter fun j => decide (j ≠ MK.i .u64 (p.1 : Int)))) = decide (MK.i .u64 (q'.1 : Int) ∈ left) := fun q' hq' => by
      rw [decide_eq_decide, List.mem_filter]
      exact ⟨fun h => h.1, fun h => ⟨h, decide_eq_true fun e => hq' (mki_inj e)⟩⟩
    rcases List.mem_cons.1 hp with e | hp
    · subst e
      have e1 : lfS (p :: l) left = p :: lfS l left := by unfold lfS; rw [List.filter_cons_of_pos (by simpa using hl)]
      have e2 : lfS (p :: l) (left.filter fun j => decide (j ≠ MK.i .u64 (p.1 : Int))) = lfS l left := by
        unfold lfS
        rw [List.filter_cons_of_neg (by simp)]
        refine List.filter_congr fun q' hq' => ?_
        exact other q' fun e => hn.1 (by rw [← e]; exact List.mem_map_of_mem hq')
      rw [e1, e2]
    · have hne : q.1 ≠ p.1 := fun e => hn.1 (by rw [e]; exact List.mem_map_of_mem hp)
      have ih := lfS_take hn.2 hp hl
      by_cases hq : MK.i .u64 (q.1 : Int) ∈ left
      · have e1 : lfS (q :: l) left = q :: lfS l left := by unfold lfS; rw [List.filter_cons_of_pos (by simpa using hq)]
        have e2 : lfS (q :: l) (left.filter fun j => decide (j ≠ MK.i .u64 (p.1 : Int))) = q :: lfS l (left.filter fun j => decide (j ≠ MK.i .u64 (p.1 : Int))) := by
          unfold lfS
          rw [List.filter_cons_of_pos (by rw [other q hne]; exact decide_eq_true hq)]
        rw [e1, e2]
        exact (ih.cons q).trans (.swap ..)
      · have e1 : lfS (q :: l) left = lfS l left := by unfold lfS; rw [List.filter_cons_of_neg (by simpa using hq)]
        have e2 : lfS (q :: l) (left.filter fun j => decide (j ≠ MK.i .u64 (p.1 : Int))) = lfS l (left.filter fun j => decide (j ≠ MK.i .u64 (p.1 : Int))) := by
          unfold lfS
          rw [List.filter_cons_of_neg (by rw [other q hne]; simpa using hq)]
        rw [e1, e2]
        exact ih
theorem lset_self {s : SM} (hn : (s.fs.map fun p => p.2.1).Nodup) {n b : Nat} {f : FI} (h : (n, b, f) ∈ s.fs) : lset (flO s.fs) b f = flO s.fs := by
  rw [← flO_put, put_self hn h]
/-- How far a copy has come. -/
structure CpS (s : SM) where
  left : List MK
  N : List (Nat × Nat × FI)
  hp : (vfs N ++ vfs (lfS s.fs left)).Perm (vfs s.fs)
  nd : (N.map fun p => p.2.1).Nodup
section
variable (s : SM) {n B k : Nat} {v : VM} (hs : s.At v) (h : v.Ok n B k) (hn : n ≤ 490) (hB : B ≤ 80000000)
include hs h hn hB
theorem copy_s : AFn Go.Proofs.Tryz.prog 22 [.ptr 0 0] (one s.H) (fun _ : { s2 : SM // s2.At v } => .ptr 1 0) (fun s2 => ⟨2, [(0, .sem (Nest s.H)), (1, .sem (Nest s2.1.H))]⟩) := by
  have hv := hs.val
  have hds : s.fd.ds.length ≤ 1000 := by have := h.ds; rw [← hv] at this; have : s.fd.ds.length ≤ n := this; omega
  have hnd : (s.fs.map (·.1)).Nodup := by
    have := h.nd
    rw [← hv, show s.val.fs = vfs s.fs from rfl] at this
    unfold vfs at this
    rw [List.map_map] at this
    exact this
  refine ACall.fin ?_
  refine ACall.walkE (C := cfgN 34 1) (cfgNOk _ _) sch22 (fn := Go.Proofs.Tryz.f22) (by kernel_rfl) (by kernel_rfl) rfl (by kernel_rfl) (by kernel_rfl) rfl rfl (H1 := s.H) (fun _ _ => (HEnt.openOne (s.H) rfl rfl).ent) fun hlen hheap => ?_
  (conv => whnf); repeat (refine sideI ?_; conv => whnf)
  refine AFn.useA [0, 1, 2, 3] (fnone_in s) fun _ => ?_
  (conv => whnf); repeat (refine sideI ?_; conv => whnf)
  refine AFn.useA [1] (copy_ok s.fd hds) fun _ => ?_
  (conv => whnf); repeat (refine sideI ?_; conv => whnf)
  refine AWP.loop (X := CpS s) (fun y => [(0, .ptr 0 0), (3, .ptr 4 0), (23, .ptr 7 0)]) (fun y => ⟨9, [(0, .cells 60 [.ptr 1 0, .mp 2, AV.int .i64 s.quota, AV.bool s.off, AV.int .i64 s.steps, AV.int .i64 s.fuse]), (1, .sem (Nest s.fd.H)), (2, .mapit (some .u64) (flM s.fs) y.left 7 none), (3, .sem (Objs FI.H (flO s.fs))), (4, .cells 60 [.ptr 5 0, .mp 6, AV.int .i64 s.quota, AV.bool s.off, AV.int .i64 s.steps, AV.int .i64 s.fuse]), (5, .sem (Nest s.fd.H)), (6, .map (some .u64) (flM y.N)), (8, .sem (Objs FI.H (flO y.N)))]⟩) (fun y => y.left.length) (⟨(flM s.fs).map (·.1), [], by rw [lfS_all]; exact .refl _, List.nodup_nil⟩) ?_ fun y => AWP.go (S := sch22) (cfgNOk _ _) (.of_eq (by kernel_rfl)) ?_
  · refine Ent.trans (HEnt.ent (HEnt.objs0 FI.H _)) (Ent.mk' [some 0, some 1, some 2, some 3, some 4, some 5, some 6, some 7, some 8] (by kernel_rfl) ⟨AVE.refl _, AVE.refl _, AVE.refl _, trivial⟩ ?_)
    repeat' (first | exact trivial | refine ⟨⟨_, rfl, ChE.refl _⟩, ?_⟩)
  · obtain ⟨left, N, hp, ndN⟩ := y
    (conv => whnf); repeat (refine sideI ?_; conv => whnf)
    refine ⟨fun p hq hl => ?_, fun hnone => ?_⟩
    · obtain ⟨⟨n', b, f⟩, hm, rfl⟩ := List.mem_map.1 hq
      have ht := lfS_take hnd hm hl
      have hfo : f.Ok n B := h.files (n', f) (by rw [← hv]; exact List.mem_map.2 ⟨_, hm, rfl⟩)
      have hp' : ∀ b', (vfs (N ++ [(n', b', f)]) ++ vfs (lfS s.fs (left.filter fun j => decide (j ≠ MK.i .u64 (n' : Int))))).Perm (vfs s.fs) := fun b' => by
        refine List.Perm.trans ?_ hp
        unfold vfs
        rw [List.map_append, List.append_assoc]
        refine List.Perm.append_left _ ?_
        exact (ht.map fun p : Nat × Nat × FI => (p.1, p.2.2)).symm
      have hne : ∀ p ∈ N, p.1 ≠ n' := fun p hpN e => by
        have h1 : ((vfs N ++ vfs (lfS s.fs left)).map (·.1)).Nodup := by
          refine ((hp.map (·.1)).nodup_iff).2 ?_
          unfold vfs
          rw [List.map_map]
          exact hnd
        rw [List.map_append, List.nodup_append] at h1
        refine h1.2.2 p.1 (List.mem_map.2 ⟨(p.1, p.2.2), List.mem_map.2 ⟨p, hpN, rfl⟩, rfl⟩) n' (List.mem_map.2 ⟨(n', f), List.mem_map.2 ⟨(n', b, f), ?_, rfl⟩, rfl⟩) e
        exact List.mem_filter.2 ⟨hm, decide_eq_true hl⟩
      (conv => whnf); repeat (refine sideI ?_; conv => whnf)
      repeat' (first | (refine And.intro ?_ ?_ <;> ((conv => whnf); repeat (refine sideI ?_; conv => whnf))) | (refine ACall.absorb fi_root (ACall.atObj fi_root 3 b rfl (List.mem_map.2 ⟨_, hm, rfl⟩) ?_); refine AFn.useA [9] (fcopy_ok f (by have := hfo.sz; omega) (by have := hfo.len; omega) (by have := hfo.ds; omega)) fun _ => ?_; refine ⟨f, rfl, rfl, 8, _, _, f, rfl, rfl, rfl, rfl, fun b' hb' => ?_⟩; ((conv => whnf); repeat (refine sideI ?_; conv => whnf))))
      all_goals
        rw [mput_flM (f := f) hne, lset_self hs.nd hm]
        have ndN' : ((N ++ [(n', b', f)]).map fun p => p.2.1).Nodup := by
          rw [List.map_append, List.nodup_append]
          refine ⟨ndN, by simp, fun a ha c hc => ?_⟩
          simp at hc
          subst hc
          intro e
          subst e
          obtain ⟨p, hpN, rfl⟩ := List.mem_map.1 ha
          exact hb' (List.mem_map.2 ⟨p.2, List.mem_map.2 ⟨p, hpN, rfl⟩, rfl⟩)
        refine ⟨⟨left.filter fun j => decide (j ≠ MK.i .u64 (n' : Int)), N ++ [(n', b', f)], hp' b', ndN'⟩, Ent.mkC [some 0, some 1, some 2, some 3, some 4, some 5, some 6, some 7, some 8] ?_, ?_⟩
        · refine ⟨⟨_, rfl, ChE.refl _⟩, ⟨_, rfl, ChE.refl _⟩, ⟨_, rfl, ChE.stand⟩, ⟨_, rfl, ChE.refl _⟩, ⟨_, rfl, ChE.refl _⟩, ⟨_, rfl, ChE.refl _⟩, ⟨_, rfl, ChE.refl _⟩, ⟨_, rfl, ChE.objsP ?_⟩, trivial⟩
          unfold flO
          rw [List.map_append]
          exact List.perm_append_comm (l₁ := [_])
        · exact List.length_filter_lt_length_iff_exists.2 ⟨_, hl, by simp⟩
    · have hz : lfS s.fs left = [] := by
        unfold lfS
        rw [List.filter_eq_nil_iff]
        intro p hpm
        have := hnone (MK.i .u64 (p.1 : Int), adI p.2.1) (List.mem_map_of_mem (f := fun p : Nat × Nat × FI => (MK.i .u64 (p.1 : Int), adI p.2.1)) hpm)
        simpa using this
      rw [hz] at hp
      have hp1 : (vfs N).Perm (vfs s.fs) := by simpa [vfs] using hp
      obtain ⟨N', hN, hNe⟩ := perm_lift (fun p : Nat × Nat × FI => (p.1, p.2.2)) hp1 (N := N) rfl
      have hN : N.Perm N' := hN
      have h2 : SM.At ⟨s.fd, N', s.quota, s.off, s.steps, s.fuse⟩ v := by
        refine ⟨?_, ((hN.map _).nodup_iff).1 ndN⟩
        rw [← hv]
        simp only [SM.val]
        congr 1
      (conv => whnf); repeat (refine sideI ?_; conv => whnf)
      refine ⟨_, _, Ent.trans (HEnt.ent (HEnt.trans (HEnt.chunk (h := 6) rfl (ChE.map (m' := flM N') (hN.map _))) (HEnt.trans (HEnt.chunk (h := 8) rfl (ChE.objsP (l' := flO N') (hN.map _))) (HEnt.trans (HEnt.close [0, 1, 2, 3] 0 s.H ?_ ?_) (HEnt.close [4, 5, 6, 8] 4 (SM.H ⟨s.fd, N', s.quota, s.off, s.steps, s.fuse⟩) ?_ ?_))))) (Ent.mk' (e' := [(0, .ptr 1 0)]) (H' := ⟨2, [(0, .sem (Nest s.H)), (1, .sem (Nest (SM.H ⟨s.fd, N', s.quota, s.off, s.steps, s.fuse⟩)))]⟩) [some 0, some 4] ?_ ?_ ?_), ⟨⟨s.fd, N', s.quota, s.off, s.steps, s.fuse⟩, h2⟩, rfl, rfl⟩
      · kernel_rfl
      · repeat' first | exact trivial | refine ⟨rfl, ?_⟩
      · kernel_rfl
      · repeat' first | exact trivial | refine ⟨rfl, ?_⟩
      · kernel_rfl
      · exact ⟨AVE.refl _, trivial⟩
      · exact subC
end
end Go.Proofs.YtpgdbeacmlojcaaGreat.Ax

namespace Go.Proofs.YtpgdbeacmlojcaaGreat.Ax
open Go.RowKit
set_option maxRecDepth 100000
theorem AFn.keep {P : Program} {f : FuncId} {args : List AV} {r : AV} {s : SM} {v : VM} (hs : s.At v) (h : AFn P f args s.H (fun _ : Unit => r) fun _ => s.H) : AFn P f args s.H (fun _ : { s' : SM // s'.At v } => r) fun s' => s'.1.H :=
  h.say fun _ => ⟨⟨s, hs⟩, AVE.refl _, rfl⟩
section
variable {n B k : Nat} {v : VM} (h : v.Ok n B k) (hn : n ≤ 490) (hB : B ≤ 80000000) (hk : k ≤ 900000000)
include h hn hB hk
theorem fsCreate (x : List UInt8) : AFn Go.Proofs.Tryz.prog 9 [.ptr 0 0, .str x] (fone v) (fun _ : Unit => AV.int .i64 (v.createE x)) (fun _ => fone (v.create x)) := AFn.val fun s hs => AFn.shut (create_s s hs h hn hB hk x) rfl rfl (fun _ => ⟨by kernel_rfl, by kernel_rfl⟩) (fun _ => (by repeat' first | exact trivial | refine ⟨rfl, ?_⟩)) (fun _ => rfl)
theorem fsRemove (x : List UInt8) : AFn Go.Proofs.Tryz.prog 30 [.ptr 0 0, .str x] (fone v) (fun _ : Unit => AV.int .i64 (v.removeE x)) (fun _ => fone (v.remove x)) := AFn.val fun s hs => AFn.shut (remove_s s hs h hn hB hk x) rfl rfl (fun _ => ⟨by kernel_rfl, by kernel_rfl⟩) (fun _ => (by repeat' first | exact trivial | refine ⟨rfl, ?_⟩)) (fun _ => rfl)
theorem fsRename (a b : List UInt8) : AFn Go.Proofs.Tryz.prog 29 [.ptr 0 0, .str a, .str b] (fone v) (fun _ : Unit => AV.int .i64 (v.renameE a b)) (fun _ => fone (v.rename a b)) := AFn.val fun s hs => AFn.shut (rename_s s hs h hn hB hk a b) rfl rfl (fun _ => ⟨by kernel_rfl, by kernel_rfl⟩) (fun _ => (by repeat' first | exact trivial | refine ⟨rfl, ?_⟩)) (fun _ => rfl)
theorem fsSyncDir : AFn Go.Proofs.Tryz.prog 12 [.ptr 0 0] (fone v) (fun _ : Unit => AV.int .i64 v.syncDirE) (fun _ => fone v.syncDir) := AFn.val fun s hs => AFn.shut (syncDir_s s hs h hn hB hk) rfl rfl (fun _ => ⟨by kernel_rfl, by kernel_rfl⟩) (fun _ => (by repeat' first | exact trivial | refine ⟨rfl, ?_⟩)) (fun _ => rfl)
theorem fsAppend (x c : List UInt8) (hc : c.length ≤ 10000000) : AFn Go.Proofs.Tryz.prog 10 [.ptr 0 0, .str x, .iv (.bs c)] (fone v) (fun _ : Unit => AV.int .i64 (v.appendE x c)) (fun _ => fone (v.append x c)) := AFn.val fun s hs => AFn.shut (append_s s hs h hn hB hk x c hc) rfl rfl (fun _ => ⟨by kernel_rfl, by kernel_rfl⟩) (fun _ => (by repeat' first | exact trivial | refine ⟨rfl, ?_⟩)) (fun _ => rfl)
theorem fsTrunc (x : List UInt8) (m : Int) : AFn Go.Proofs.Tryz.prog 28 [.ptr 0 0, .str x, AV.int .i64 m] (fone v) (fun _ : Unit => AV.int .i64 (v.truncE x m)) (fun _ => fone (v.trunc x m)) := AFn.val fun s hs => AFn.shut (trunc_s s hs h hn hB hk x m) rfl rfl (fun _ => ⟨by kernel_rfl, by kernel_rfl⟩) (fun _ => (by repeat' first | exact trivial | refine ⟨rfl, ?_⟩)) (fun _ => rfl)
theorem fsSync (x : List UInt8) : AFn Go.Proofs.Tryz.prog 11 [.ptr 0 0, .str x] (fone v) (fun _ : Unit => AV.int .i64 (v.syncE x)) (fun _ => fone (v.sync x)) := AFn.val fun s hs => AFn.shut (sync_s s hs h hn hB hk x) rfl rfl (fun _ => ⟨by kernel_rfl, by kernel_rfl⟩) (fun _ => (by repeat' first | exact trivial | refine ⟨rfl, ?_⟩)) (fun _ => rfl)
omit hk
theorem fsCrashGood {P : List Int} (hl : P.length ≤ 9223372036854775807) (hP : P.any (fun p => decide (p < 0)) = false) : AFn Go.Proofs.Tryz.prog 14 [.ptr 0 0, .iv (iRow P)] (fone v) (fun _ : Unit => AV.int .i64 0) (fun _ => fone (v.crash P)) := AFn.val fun s hs => AFn.shut (crash_good s hs h hn hB hl hP) rfl rfl (fun _ => ⟨by kernel_rfl, by kernel_rfl⟩) (fun _ => (by repeat' first | exact trivial | refine ⟨rfl, ?_⟩)) (fun _ => rfl)
theorem fsCopy : AFn Go.Proofs.Tryz.prog 22 [.ptr 0 0] (fone v) (fun _ : Unit => .ptr 1 0) (fun _ => ⟨2, [(0, .sem (fsV v)), (1, .sem (fsV v))]⟩) :=
  ACall.exS 0 rfl (vm_at v) fun s hs => ACall.hent (HEnt.refl _) ((copy_s s hs h hn hB).mono (fun r' H' ⟨⟨s', hs'⟩, e1, e2⟩ => by
    subst e1 e2
    exact ⟨_, HEnt.trans (HEnt.chunk (h := 0) rfl (ChE.exS s hs)) (HEnt.chunk (h := 1) rfl (ChE.exS s' hs')), (), rfl, rfl⟩) fun _ _ h => h.elim)
omit hB
theorem fsList : AFn Go.Proofs.Tryz.prog 20 [.ptr 0 0] (fone v) (fun _ : Unit => .iv (strRow v.list)) (fun _ => fone v) := AFn.val fun s hs => AFn.shut (AFn.keep hs (list_s s hs h hn)) rfl rfl (fun _ => ⟨by kernel_rfl, by kernel_rfl⟩) (fun _ => (by repeat' first | exact trivial | refine ⟨rfl, ?_⟩)) (fun _ => rfl)
omit hn
include hB
theorem fsReadAt (x : List UInt8) (a m : Int) : AFn Go.Proofs.Tryz.prog 18 [.ptr 0 0, .str x, AV.int .i64 a, AV.int .i64 m] (fone v) (fun _ : Unit => .tup [.iv (.bs (v.read x a m)), AV.int .i64 (v.readE x a m)]) (fun _ => fone v) := AFn.val fun s hs => AFn.shut (AFn.keep hs (readAt_s s hs h hB x a m)) rfl rfl (fun _ => ⟨by kernel_rfl, by kernel_rfl⟩) (fun _ => (by repeat' first | exact trivial | refine ⟨rfl, ?_⟩)) (fun _ => rfl)
omit hB
theorem fsSize (x : List UInt8) : AFn Go.Proofs.Tryz.prog 17 [.ptr 0 0, .str x] (fone v) (fun _ : Unit => .tup [AV.int .i64 (v.size x), AV.int .i64 (v.openE x)]) (fun _ => fone v) := AFn.val fun s hs => AFn.shut (AFn.keep hs (size_s s hs h x)) rfl rfl (fun _ => ⟨by kernel_rfl, by kernel_rfl⟩) (fun _ => (by repeat' first | exact trivial | refine ⟨rfl, ?_⟩)) (fun _ => rfl)
omit h
theorem fsCrashBad {P : List Int} (hl : P.length ≤ 9223372036854775807) (hP : P.any (fun p => decide (p < 0)) = true) : AFn Go.Proofs.Tryz.prog 14 [.ptr 0 0, .iv (iRow P)] (fone v) (fun _ : Unit => AV.int .i64 1) (fun _ => fone v) := AFn.val fun s hs => AFn.shut (crash_bad s hs hl hP) rfl rfl (fun _ => ⟨by kernel_rfl, by kernel_rfl⟩) (fun _ => (by repeat' first | exact trivial | refine ⟨rfl, ?_⟩)) (fun _ => rfl)
theorem fsSteps : AFn Go.Proofs.Tryz.prog 24 [.ptr 0 0] (fone v) (fun _ : Unit => AV.int .i64 (bif v.off then 0 else v.steps)) (fun _ => fone v) := AFn.val fun s hs => AFn.shut (AFn.keep hs (steps_s s hs)) rfl rfl (fun _ => ⟨by kernel_rfl, by kernel_rfl⟩) (fun _ => (by repeat' first | exact trivial | refine ⟨rfl, ?_⟩)) (fun _ => rfl)
theorem fsOn : AFn Go.Proofs.Tryz.prog 16 [.ptr 0 0] (fone v) (fun _ : Unit => AV.bool (!v.off)) (fun _ => fone v) := AFn.val fun s hs => AFn.shut (AFn.keep hs (on_s s hs)) rfl rfl (fun _ => ⟨by kernel_rfl, by kernel_rfl⟩) (fun _ => (by repeat' first | exact trivial | refine ⟨rfl, ?_⟩)) (fun _ => rfl)
theorem fsFuse (m : Int) (hm : m ≤ 9223372036854775807) : AFn Go.Proofs.Tryz.prog 25 [.ptr 0 0, AV.int .i64 m] (fone v) (fun _ : Unit => AV.int .i64 v.powE) (fun _ => fone (v.fuseSet m)) := AFn.val fun s hs => AFn.shut (fuse_s s hs m hm) rfl rfl (fun _ => ⟨by kernel_rfl, by kernel_rfl⟩) (fun _ => (by repeat' first | exact trivial | refine ⟨rfl, ?_⟩)) (fun _ => rfl)
end
theorem VM.Ok.fuseSet {n B k : Nat} {v : VM} (h : v.Ok n B k) {m : Int} (hm : m ≤ 9223372036854775807) : (v.fuseSet m).Ok n B k := by
  unfold VM.fuseSet
  split
  · exact h
  · exact ⟨h.fd, h.ds, h.last, h.nd, h.le, h.files, h.steps, by show -1 ≤ max m (-1) ∧ max m (-1) ≤ 9223372036854775807; omega, h.quota⟩
end Go.Proofs.YtpgdbeacmlojcaaGreat.Ax
