/-
  Chapter 11: the law's walk.
-/
import Derived.Test.YtgfkepebfaiepaaGreatDoorQw
import Derived.Test.YtgfkepebfaiepaaGreatDoorQv
import Derived.Test.YtgfkepebfaiepaaGreatDoorQy
import Derived.LaidHandle
import Derived.LaidSub
import Derived.LaidLaws
import Derived.OpenShut
import Derived.FnData
namespace Go.Proofs.YtgfkepebfaiepaaGreatDoor.Ax
open Go.RowKit
set_option maxRecDepth 100000
def recF (l : List Rec) (i : Nat) : List IV := recI (l.getD i default)
def recsA (l : List Rec) : AV := .iv (.sl 6 l.length (recF l))
theorem rec_push {e : Nat} {l : List Rec} {r : Rec} {g : Nat → List IV} (hg : g 0 = recI r) : ChE (.rowc e 6 (l.length + 1) fun j => if j < l.length then recF l j else g (j - l.length)) (.rowc e 6 (l ++ [r]).length (recF (l ++ [r]))) := by
 refine ChE.row (by simp) fun j hj => ?_
 by_cases h : j < l.length
 ·simp only [if_pos h]
  unfold recF
  simp [List.getD, List.getElem?_append_left, h]
 ·have : j = l.length := by simp at hj; omega
  subst this
  simp only [if_neg h, Nat.sub_self]
  rw [hg]
  simp [recF, List.getD]
def Rec.W (r : Rec) : Prop := r.key.length ≤ 9223372036854775807 ∧ r.val.length ≤ 9223372036854775807
theorem lawCut_ok (r : Rec) (h : r.W) : AFn Go.Proofs.Tryz.prog 117 [recA r] ⟨0, []⟩ (fun _ : Unit => recA r.cut) (fun _ => ⟨0, []⟩) := by
 obtain ⟨h1, h2⟩ := h
 have e1 : List.take ((min (r.key.length : Int) 70).toNat - Int.toNat 0) (List.drop (Int.toNat 0) r.key) = r.key.take 70 := by
  rw [show (min (r.key.length : Int) 70).toNat - Int.toNat 0 = min 70 r.key.length by simp; omega, show List.drop (Int.toNat 0) r.key = r.key from rfl, ← List.take_take, List.take_length]
 have e2 : List.take ((min (r.val.length : Int) 1030).toNat - Int.toNat 0) (List.drop (Int.toNat 0) r.val) = r.val.take 1030 := by
  rw [show (min (r.val.length : Int) 1030).toNat - Int.toNat 0 = min 1030 r.val.length by simp; omega, show List.drop (Int.toNat 0) r.val = r.val from rfl, ← List.take_take, List.take_length]
 refine ACall.fin ?_
 refine ACall.walk (C := cfg 20 0) (cfgOk _ _) sch117 (fn := Go.Proofs.Tryz.f117) (by kernel_rfl) (by kernel_rfl) rfl (by kernel_rfl) (by kernel_rfl) rfl rfl ?_
 refine goA ?_
 rw [e1, e2]
 refine goA ?_
 refine ⟨_, _, Ent.mk' (e' := [(0, recA r.cut)]) (H' := ⟨0, []⟩) [] (by kernel_rfl) ?_ ?_, (), rfl, rfl⟩
 ·exact ⟨AVE.refl _, trivial⟩
 ·trivial
theorem cut_B (r : Rec) : r.cut.B := ⟨Nat.le_trans (List.length_take_le ..) (by decide), Nat.le_trans (List.length_take_le ..) (by decide)⟩
def numTo (cap : Nat) (l : List Rec) (i : Nat) : List Rec := (l.take i).foldl (numStep cap) []
theorem numTo_succ {cap : Nat} {l : List Rec} {i : Nat} (h : i < l.length) : numTo cap l (i + 1) = numStep cap (numTo cap l i) (l.getD i default) := by
 unfold numTo
 rw [List.take_succ_eq_append_getElem h, List.foldl_append]
 simp [List.getD, h]
theorem numTo_all (cap : Nat) (l : List Rec) : numTo cap l l.length = numb cap l := by
 unfold numTo numb
 rw [List.take_length]
theorem numTo_ok (cap : Nat) (l : List Rec) (i : Nat) : Numd (numTo cap l i) ∧ (numTo cap l i).length ≤ cap := numb_ok _ _ Numd.nil (Nat.zero_le _)
set_option maxHeartbeats 4000000 in
theorem numbered_ok (l : List Rec) (hl : l.length ≤ 9223372036854775807) (hB : ∀ r ∈ l, r.W) : AFn Go.Proofs.Tryz.prog 54 [recsA l] ⟨0, []⟩ (fun _ : Unit => recsA (numb 30 l)) (fun _ => ⟨0, []⟩) := by
 refine ACall.fin ?_
 refine ACall.walk (C := cfg 32 0) (cfgOk _ _) [] (fn := Go.Proofs.Tryz.f54) (by kernel_rfl) (by kernel_rfl) rfl (by kernel_rfl) (by kernel_rfl) rfl rfl ?_
 refine goA ?_
 refine AWP.loop (X := { i : Nat // i ≤ l.length }) (fun x => [(3, .row 0 6 0 (numTo 30 l x.1).length), (6, recsA l), (7, AV.int .i64 l.length), (8, AV.int .i64 x.1)]) (fun x => ⟨1, [(0, .rowc 50 6 (numTo 30 l x.1).length (recF (numTo 30 l x.1)))]⟩) (fun x => l.length - x.1) (⟨0, Nat.zero_le _⟩) ?_ fun x => AWP.go (S := []) (cfgOk _ _) (.of_eq (by kernel_rfl)) ?_
 ·refine (HEnt.ent (HEnt.addNil 50 6 (recF []))).trans ?_
  exact Ent.mk' [some 0] (by kernel_rfl) ⟨AVE.nil _ _, AVE.refl _, AVE.refl _, AVE.refl _, trivial⟩ subC
 ·obtain ⟨i, hi⟩ := x
  dsimp only
  obtain ⟨_, hle⟩ := numTo_ok 30 l i
  refine goA ?_
  refine ifdA (fun h => ?_) (fun h => ?_) <;> (try dsimp only at h)
  ·have hlt : i < l.length := by omega
   have hs := numTo_succ (cap := 30) hlt
   have hrB : (l.getD i default).W := hB _ (by simp [List.getD, hlt])
   have hg : l.getD ((i : Nat) : Int).toNat default = l.getD i default := rfl
   generalize numTo 30 l i = out at *
   generalize l.getD i default = r at *
   refine goA ?_
   rw [hg]
   refine AFn.useA [] (lawCut_ok r hrB) fun _ => ?_
   refine goA ?_
   refine AFn.useA [] (recMay_ok { r.cut with seq := out.length + 1 } (cut_B r)) fun _ => ?_
   unfold numStep at hs
   by_cases h1 : Rec.May { r.cut with seq := out.length + 1 }
   ·rw [decide_eq_true h1]
    refine goA ?_
    refine ifdA (fun q => ?_) (fun q => ?_) <;> (try dsimp only at q)
    ·rw [if_pos ⟨h1, by omega⟩] at hs
     refine goA ?_
     refine ⟨⟨i + 1, by omega⟩, ?_, by show l.length - (i + 1) < l.length - i; omega⟩
     dsimp only
     rw [hs]
     exact Ent.mk' [some 3] (by kernel_rfl) ⟨AVE.len (by simp), AVE.refl _, AVE.refl _, AVE.int (by simp), trivial⟩ ⟨⟨_, rfl, rec_push rfl⟩, trivial⟩
    ·rw [if_neg (by rintro ⟨_, g⟩; omega)] at hs
     refine goA ?_
     refine ⟨⟨i + 1, by omega⟩, ?_, by show l.length - (i + 1) < l.length - i; omega⟩
     dsimp only
     rw [hs]
     exact Ent.mkA [some 0]
   ·rw [decide_eq_false h1]
    rw [if_neg (fun g => h1 g.1)] at hs
    refine goA ?_
    refine ⟨⟨i + 1, by omega⟩, ?_, by show l.length - (i + 1) < l.length - i; omega⟩
    dsimp only
    rw [hs]
    exact Ent.mkA [some 0]
  ·have : i = l.length := by omega
   subst this
   rw [numTo_all]
   generalize numb 30 l = out
   refine goA ?_
   exact ⟨_, _, (Ent.freeze 0 _ rfl rfl (e' := [(0, recsA out)]) ⟨AVF.sl (Nat.le_refl _), trivial⟩).trans (Ent.mk' (e' := [(0, recsA out)]) (H' := ⟨0, []⟩) [] (by kernel_rfl) ⟨AVE.refl _, trivial⟩ trivial), (), rfl, rfl⟩
end Go.Proofs.YtgfkepebfaiepaaGreatDoor.Ax

namespace Go.Proofs.YtgfkepebfaiepaaGreatDoor.Ax
open Go.RowKit
set_option maxRecDepth 100000
theorem FI.app_now (f : FI) (c : List UInt8) : (f.app c).now = f.now ++ c := by
 unfold FI.app
 split
 ·rename_i e
  rw [e, List.append_nil]
 ·show f.now ++ c.take c.length = _
  rw [List.take_length]
structure SegSt (Q s t id : Nat) (b : Option (List UInt8)) (l : List Rec) (v : VM) : Prop where
 ok : v.Ok (s + l.length) (t + 1113 * l.length) (s + l.length)
 up : v.Up Q
 has : ∃ f, v.Has (segName id) f ∧ (∀ x, b = some x → f.Adds x) ∧ f.now = segBytes id l
def fst (l : List Rec) : Nat := if l = [] then 0 else 1
def segG (id : Nat) (l : List Rec) (sf : Nat) : SG := ⟨⟨id, offAt l l.length, l.length, fst l, l.length⟩, sf⟩
theorem cr_ok {Q : Nat} (h0 : 16 ≤ Q) (hQ : Q ≤ 1073741824) {id : Nat} (hi : IsId id) : (∀ i, i < 4 → (VM.new Q).crE (segName id) (headB 1 id) i = 0) ∧ SegSt Q 16 16 id (some (headB 1 id)) [] ((VM.new Q).cr (segName id) (headB 1 id) 4) := by
 have hN : (VM.new Q).Ok 0 0 0 := .new (by omega) _ _ _
 have hl := headB_len 1 id
 have hUp : (VM.new (Q : Int)).Up Q := ⟨rfl, rfl, rfl⟩
 obtain ⟨h1, h2, h3, h4, h5, h6, _, _⟩ := made_file hN hUp (x := segName id) (segName_may hi) rfl (Nat.succ_pos 255) (b := headB 1 id) (by rw [hl]; omega)
 refine ⟨fun i hi => ?_, ⟨?_, h6, ⟨headB 1 id, headB 1 id, []⟩, h5, (fun x hx => by injection hx with hx; subst hx; exact ⟨rfl, fun d hd => by cases hd⟩), ?_⟩⟩
 ·have : i = 0 ∨ i = 1 ∨ i = 2 ∨ i = 3 := by omega
  rcases this with rfl | rfl | rfl | rfl
  ·exact h1
  ·exact h2
  ·exact h3
  ·exact h4
 ·exact (hN.cr (segName id) (headB 1 id) 4).more (by simp) (by rw [hl]; simp) (by simp)
 ·show headB 1 id = headB 1 id ++ encs []
  simp [encs]
theorem offAt_le {l : List Rec} (h : Numd l) (i : Nat) : 16 ≤ offAt l i ∧ offAt l i ≤ 16 + 1113 * l.length := by
 refine ⟨Nat.le_add_right _ _, ?_⟩
 have h1 := encs_le (l := l.take i) fun r hr => h.may r (List.mem_of_mem_take hr)
 have h2 : (l.take i).length ≤ l.length := by rw [List.length_take]; exact Nat.min_le_right ..
 unfold offAt
 have := Nat.mul_le_mul_left 1113 h2
 omega
theorem Numd.last {l : List Rec} {r : Rec} (h : Numd (l ++ [r])) : r.May ∧ r.seq = l.length + 1 := by
 refine ⟨h.may r (by simp), ?_⟩
 have := h.seq l.length (by simp)
 simpa [List.getD] using this
theorem Numd.init {l : List Rec} {r : Rec} (h : Numd (l ++ [r])) : Numd l := by
 have := h.take l.length
 simpa using this
theorem SegSt.append {Q s t id : Nat} {b : Option (List UInt8)} {l : List Rec} {v : VM} (h : SegSt Q s t id b l v) {r : Rec} (hn : Numd (l ++ [r])) (hl : l.length ≤ 40) (hQ : (s + l.length) * (t + 1113 * l.length) + r.size ≤ Q) (sf : Nat) :
 (segG id l sf).appE v r = 0 ∧ (segG id l sf).appG v r = segG id (l ++ [r]) sf ∧ (segG id l sf).appL v r = locA id (offAt l l.length) ∧ (segG id l sf).appV v r = v.append (segName id) r.enc ∧ SegSt Q s t id b (l ++ [r]) (v.append (segName id) r.enc) := by
 obtain ⟨hm, hs⟩ := hn.last
 have hsz := May.size hm
 have hel := enc_len r
 obtain ⟨f, hf, ha, hnow⟩ := h.has
 have ho := offAt_le hn.init l.length
 have hb : (segG id l sf).badE r = 0 := by
  unfold SG.badE
  rw [if_neg, if_neg]
  ·show ¬ 16777216 - (offAt l l.length : Int) < (r.size : Int)
   omega
  ·rintro (g | g)
   ·exact g hm
   ·have g : r.seq ≤ l.length := g
    omega
 obtain ⟨a1, a2, a3, a4, _⟩ := hf.append h.ok h.up (c := r.enc) (by omega)
 have e0 : (segG id l sf).appE v r = 0 := by
  unfold SG.appE
  rw [if_neg (by rw [hb]; decide)]
  exact a1
 refine ⟨e0, ?_, if_pos e0, ?_, ⟨?_, a3, f.app r.enc, a2, (fun x hx => (ha x hx).app.1), ?_⟩⟩
 ·unfold SG.appG
  rw [if_pos e0]
  unfold SG.more segG
  have q1 : offAt (l ++ [r]) (l ++ [r]).length = offAt l l.length + r.size := by
   rw [List.length_append]
   exact offAt_snoc l r
  have q2 : fst (l ++ [r]) = 1 := if_neg (by simp)
  have q3 : (if l.length = 0 then r.seq else fst l) = 1 := by
   unfold fst
   by_cases e : l = []
   ·subst e
    simpa using hs
   ·rw [if_neg (by simpa using e), if_neg e]
  show SG.mk ⟨id, offAt l l.length + r.size, l.length + 1, if l.length = 0 then r.seq else fst l, r.seq⟩ sf = SG.mk ⟨id, offAt (l ++ [r]) (l ++ [r]).length, (l ++ [r]).length, fst (l ++ [r]), (l ++ [r]).length⟩ sf
  rw [q3, q2, q1, hs, List.length_append]
  rfl
 ·unfold SG.appV
  rw [if_neg (by rw [hb]; decide)]
  rfl
 ·refine (h.ok.append (segName id) r.enc).more ?_ ?_ ?_ <;> simp <;> omega
 ·rw [FI.app_now, hnow]
  unfold segBytes
  rw [encs_append, List.append_assoc]
  simp [encs]
theorem SegSt.appended {Q s t id : Nat} {b : Option (List UInt8)} {l : List Rec} {v : VM} (h : SegSt Q s t id b l v) {r : Rec} (hn : Numd (l ++ [r])) (hl : l.length ≤ 40) (hs : s ≤ 100) (ht : t ≤ 100000) (hi : IsId id) (hr : r.B) (hQ : (s + l.length) * (t + 1113 * l.length) + r.size ≤ Q) (sf : Nat) :
 AFn Go.Proofs.Tryz.prog 62 [.ptr 1 0, recA r] (sgH (segG id l sf) v) (fun _ : Unit => .tup [locA id (offAt l l.length), AV.int .i64 0]) (fun _ => sgH (segG id (l ++ [r]) sf) (v.append (segName id) r.enc)) := by
 obtain ⟨h1, h2, h3, h4, h5⟩ := h.append hn hl hQ sf
 have ho := offAt_le hn.init l.length
 have := segApp_ok h.ok (by omega) (by omega) (by omega) (segG id l sf) r hr (show id < 4294967296 by unfold IsId at hi; omega) (show offAt l l.length ≤ 16777216 by omega) (show l.length < 4294967295 by omega)
 rw [h1, h2, h3, h4] at this
 exact this
theorem May.B {r : Rec} (h : r.May) : r.B := by
 obtain ⟨_, _, h1, h2, _⟩ := h
 exact ⟨by omega, by omega⟩
theorem SegSt.read {Q s t id : Nat} {b : Option (List UInt8)} {l : List Rec} {v : VM} (h : SegSt Q s t id b l v) (hn : Numd l) (sf : Nat) {i : Nat} (hi : i < l.length) : (segG id l sf).read v id (offAt l i) = (l.getD i default, 0) := by
 obtain ⟨f, hf, ha, hnow⟩ := h.has
 have hm := hn.getMay hi
 have hsz := May.size hm
 have h1 := offAt_succ hi
 have h2 := offAt_mono (l := l) (show i + 1 ≤ l.length by omega)
 have h3 : (segBytes id l).length = offAt l l.length := segBytes_len id l
 have h4 := offAt_le hn i
 have hp : 25 ≤ (l.getD i default).size := by unfold Rec.size; omega
 unfold SG.read
 rw [if_neg (by rintro (g | g | g); exact g rfl; omega; have g : offAt l l.length ≤ offAt l i := g; omega)]
 show SG.rd v (segName id) (offAt l i) (min 1113 (offAt l l.length - offAt l i)) = _
 have e1 : v.readE (segName id) (offAt l i : Int) (min 1113 (offAt l l.length - offAt l i) : Nat) = 0 := by
  rw [hf.readE h.up.off]
  unfold FI.readE
  rw [hnow, h3, if_neg (by omega), if_neg (by omega)]
 have e2 : v.read (segName id) (offAt l i : Int) (min 1113 (offAt l l.length - offAt l i) : Nat) = ((segBytes id l).drop (offAt l i)).take (min 1113 (offAt l l.length - offAt l i)) := by
  rw [hf.read h.up.off]
  have e1' : f.readE (offAt l i : Int) (min 1113 (offAt l l.length - offAt l i) : Nat) = 0 := by rw [← hf.readE h.up.off]; exact e1
  unfold FI.read
  rw [if_pos e1', hnow]
  rfl
 unfold SG.rd
 rw [if_pos e1, e2, seg_read hi hm (by omega)]
 rfl
end Go.Proofs.YtgfkepebfaiepaaGreatDoor.Ax

namespace Go.Proofs.YtgfkepebfaiepaaGreatDoor.Ax
open Go.RowKit
set_option maxRecDepth 100000
noncomputable def cfgWk (N b : Nat) : Cfg := { P := Go.Proofs.Tryz.prog, T := tt, wr := false, N := N, pure := [], base := b, frz := fun op => match op with | .convert .. => true | _ => false }
theorem cfgWkOk (N b : Nat) : (cfgWk N b).Ok := ⟨ttOk, ttBytes, by kernel_rfl⟩
theorem isId (n : Nat) (h : 1 ≤ n ∧ n ≤ 16777215) : IsId n := h
def wkR : Rec := ⟨1, 1, [97, 98, 99], [], 0, 0⟩
theorem wkN : Numd ([] ++ [wkR]) := Numd.nil.snoc ⟨.inl rfl, ⟨by decide, by decide⟩, ⟨by decide, by decide⟩, by decide, .inl ⟨rfl, rfl⟩⟩ rfl
theorem wakes_ok : AFn Go.Proofs.Tryz.prog 15 [] ⟨0, []⟩ (fun _ : Unit => AV.bool true) (fun _ => ⟨0, []⟩) := by
 have a1 := segId_some [115, 101, 103, 45, 48, 48, 48, 48, 102, 102] rfl (n := 255) (by decide +kernel)
 have a2 := segId_some [115, 101, 103, 45, 48, 48, 48, 48, 70, 70] rfl (n := 255) (by decide +kernel)
 rw [show idP [115, 101, 103, 45, 48, 48, 48, 48, 102, 102] = (255, true) by decide +kernel] at a1
 rw [show idP [115, 101, 103, 45, 48, 48, 48, 48, 70, 70] = (0, false) by decide +kernel] at a2
 obtain ⟨c1, c2⟩ := cr_ok (Q := 1000) (by decide) (by decide) (id := 1) (isId 1 (by decide))
 have c3 := segCreate_ok (v := VM.new 1000) (.new (by decide) 0 0 0) (by decide) (by decide) (by decide) 1 (isId 1 (by decide)) c1
 have c4 := c2.appended wkN (by decide) (by decide) (by decide) (isId 1 (by decide)) (May.B wkN.last.1) (by decide) 0
 have c5 := segSeal_ok (segG 1 ([] ++ [wkR]) 0) (VM.append (segName 1) wkR.enc ((VM.new 1000).cr (segName 1) (headB 1 1) 4))
 have n1 := segName_ok 1 (by decide)
 have n2 := segName_ok 255 (by decide)
 rw [show segName 1 = [115, 101, 103, 45, 48, 48, 48, 48, 48, 49] by decide +kernel] at n1
 rw [show segName 255 = [115, 101, 103, 45, 48, 48, 48, 48, 102, 102] by decide +kernel] at n2
 rw [show segG 1 [] 0 = ⟨⟨1, 16, 0, 0, 0⟩, 0⟩ by kernel_rfl, show locA 1 (offAt [] ([] : List Rec).length) = locA 1 16 by kernel_rfl, show segG 1 ([] ++ [wkR]) 0 = ⟨⟨1, 44, 1, 1, 1⟩, 0⟩ by kernel_rfl] at c4
 rw [show segG 1 ([] ++ [wkR]) 0 = ⟨⟨1, 44, 1, 1, 1⟩, 0⟩ by kernel_rfl] at c5
 refine ACall.fin ?_
 refine ACall.walk (C := cfgWk 72 0) (cfgWkOk _ _) [] (fn := Go.Proofs.Tryz.f15) (by kernel_rfl) (by kernel_rfl) rfl (by kernel_rfl) (by kernel_rfl) rfl rfl ?_
 refine goA ?_
 refine AFn.useA [] (a1) fun _ => ?_
 refine goA ?_
 refine AFn.useA [] (a2) fun _ => ?_
 refine goA ?_
 refine AFn.useA [] (new_fs 1000 (by decide)) fun _ => ?_
 refine goA ?_
 refine AFn.useA [0] (c3) fun _ => ?_
 refine goA ?_
 refine ACall.argsE [.ptr 1 0, recA wkR] ⟨AVE.refl _, AVE.aggE ⟨AVE.refl _, AVE.refl _, AVE.refl _, AVE.nilBs, AVE.refl _, AVE.refl _, rfl⟩, rfl⟩ ?_
 refine AFn.useA [0, 1] (c4) fun _ => ?_
 refine goA ?_
 refine AFn.useA [] (n1) fun _ => ?_
 refine goA ?_
 refine AFn.useA [] (n2) fun _ => ?_
 refine goA ?_
 refine AFn.useA [0, 1] (c5) fun _ => ?_
 refine goA ?_
 refine ⟨_, _, Ent.mk' (e' := [(0, AV.bool true)]) (H' := ⟨0, []⟩) [] (by kernel_rfl) ?_ ?_, (), rfl, rfl⟩
 ·exact ⟨AVE.refl _, trivial⟩
 ·trivial
def locF (id : Nat) (l : List Rec) (i : Nat) : List IV := [u32I id, u32I (offAt l i)]
theorem loc_push {e id i : Nat} {l : List Rec} {g : Nat → List IV} (hg : g 0 = locF id l i) : ChE (.rowc e 2 (i + 1) fun j => if j < i then locF id l j else g (j - i)) (.rowc e 2 (i + 1) (locF id l)) := by
 refine ChE.row (Nat.le_refl _) fun j hj => ?_
 by_cases h : j < i
 ·simp only [if_pos h]
 ·have : j = i := by omega
  subst this
  simp only [if_neg h, Nat.sub_self]
  exact hg
def laidV (id : Nat) (l : List Rec) : VM := l.foldl (fun v r => v.append (segName id) r.enc) ((VM.new 1073741824).cr (segName id) (headB 1 id) 4)
theorem take_snoc {l : List Rec} {i : Nat} (h : i < l.length) : l.take (i + 1) = l.take i ++ [l.getD i default] := by
 rw [List.take_succ_eq_append_getElem h]
 simp [List.getD, h]
theorem laidV_succ {id : Nat} {l : List Rec} {i : Nat} (h : i < l.length) : laidV id (l.take (i + 1)) = (laidV id (l.take i)).append (segName id) (l.getD i default).enc := by
 unfold laidV
 rw [take_snoc h, List.foldl_append]
 rfl
theorem laid_st {id : Nat} (hi : IsId id) {l : List Rec} (hn : Numd l) (hl : l.length ≤ 40) : ∀ i, i ≤ l.length → SegSt 1073741824 16 16 id (some (headB 1 id)) (l.take i) (laidV id (l.take i))
 | 0, _ => (cr_ok (Q := 1073741824) (by decide) (by decide) hi).2
 | i + 1, h => by
   have ih := laid_st hi hn hl i (by omega)
   have e := take_snoc (l := l) (i := i) (by omega)
   have hn2 := hn.take (i + 1)
   have hlen : (l.take i).length ≤ 40 := by simp; omega
   rw [laidV_succ (by omega)]
   rw [e] at hn2 ⊢
   have hsz := May.size hn2.last.1
   refine (ih.append hn2 hlen ?_ 0).2.2.2.2
   have h1 : (16 + (l.take i).length) * (16 + 1113 * (l.take i).length) ≤ 56 * (16 + 1113 * 40) := Nat.mul_le_mul (by omega) (by omega)
   omega
@[reducible] def laidH (id : Nat) (l : List Rec) (i : Nat) : AH := ⟨3, [(0, .sem (fsV (laidV id (l.take i)))), (1, .cells 192 (sgC 0 (segG id (l.take i) 0))), (2, .rowc 48 2 i (locF id l))]⟩
theorem laidR_ok (id : Nat) (hi : IsId id) (l : List Rec) (hn : Numd l) (hl : l.length ≤ 40) : AFn Go.Proofs.Tryz.prog 55 [.ptr 0 0, AV.int .u32 id, recsA l] (fone (VM.new 1073741824)) (fun _ : Unit => .tup [.ptr 1 0, .row 2 2 0 l.length]) (fun _ => laidH id l l.length) := by
 obtain ⟨c1, c2⟩ := cr_ok (Q := 1073741824) (by decide) (by decide) hi
 have c3 := segCreate_ok (v := VM.new 1073741824) (.new (by decide) 0 0 0) (by decide) (by decide) (by decide) id hi c1
 refine ACall.fin ?_
 refine ACall.walk (C := cfg 44 1) (cfgOk _ _) [] (fn := Go.Proofs.Tryz.f55) (by kernel_rfl) (by kernel_rfl) rfl (by kernel_rfl) (by kernel_rfl) rfl rfl ?_
 refine goA ?_
 refine AFn.useA [0] (c3) fun _ => ?_
 refine goA ?_
 refine AWP.loop (X := { i : Nat // i ≤ l.length }) (fun x => [(8, .ptr 1 0), (10, .row 2 2 0 x.1), (23, recsA l), (24, AV.int .i64 l.length), (25, AV.int .i64 x.1)]) (fun x => laidH id l x.1) (fun x => l.length - x.1) (⟨0, Nat.zero_le _⟩) ?_ fun x => AWP.go (S := []) (cfgOk _ _) (.of_eq (by kernel_rfl)) ?_
 ·refine (HEnt.ent (HEnt.addNil 48 2 (locF id l))).trans ?_
  exact Ent.mk' [some 0, some 1, some 2] (by kernel_rfl) ⟨AVE.refl _, AVE.nil _ _, AVE.refl _, AVE.refl _, AVE.refl _, trivial⟩ subC
 ·obtain ⟨i, hle⟩ := x
  dsimp only
  refine goA ?_
  refine ifdA (fun h => ?_) (fun h => ?_) <;> (try dsimp only at h)
  ·have hlt : i < l.length := by omega
   have e := take_snoc hlt
   have hn2 := hn.take (i + 1)
   rw [e] at hn2
   have hm := hn2.last.1
   have hlen : (l.take i).length = i := by simp; omega
   have hS := laid_st hi hn hl i hle
   have hA := hS.appended hn2 (by omega) (by decide) (by decide) hi (May.B hm) (by have := May.size hm; have h1 : (16 + (l.take i).length) * (16 + 1113 * (l.take i).length) ≤ 56 * (16 + 1113 * 40) := Nat.mul_le_mul (by omega) (by omega); omega) 0
   rw [← e, ← laidV_succ hlt, hlen, offAt_take (Nat.le_refl _)] at hA
   have hg : l.getD ((i : Nat) : Int).toNat default = l.getD i default := rfl
   refine goA ?_
   rw [hg]
   generalize hr : l.getD i default = r at *
   refine AFn.useA [0, 1] (hA) fun _ => ?_
   refine goA ?_
   refine ⟨⟨i + 1, by omega⟩, ?_, by show l.length - (i + 1) < l.length - i; omega⟩
   exact Ent.mk' [some 0, some 1, some 6] (by kernel_rfl) ⟨AVE.refl _, AVE.refl _, AVE.refl _, AVE.refl _, AVE.int (by simp), trivial⟩ ⟨⟨_, rfl, ChE.refl _⟩, ⟨_, rfl, ChE.refl _⟩, ⟨_, rfl, loc_push rfl⟩, trivial⟩
  ·have : i = l.length := by omega
   subst this
   refine goA ?_
   refine ⟨_, _, Ent.mk' (e' := [(0, .tup [.ptr 1 0, .row 2 2 0 l.length])]) (H' := laidH id l l.length) [some 0, some 1, some 2] (by kernel_rfl) ?_ ?_, (), rfl, rfl⟩
   ·exact ⟨AVE.refl _, trivial⟩
   ·exact subC
end Go.Proofs.YtgfkepebfaiepaaGreatDoor.Ax

namespace Go.Proofs.YtgfkepebfaiepaaGreatDoor.Ax
open Go.RowKit
set_option maxRecDepth 100000
def sch8 : List (Nat × Sched) := [(10, .take 0 (.take 1 (.take 2 (.take 3 (.take 4 (.take 5 (.take 6 (.take 7 (.take 8 (.take 9 (.take 10 (.take 11 (.take 12 (.take 13 (.take 14 (.take 15 (.take 16 (.take 17 (.take 18 (.take 19 (.take 20 (.take 21 (.take 22 (.take 23 (.take 24 (.take 25 (.take 26 (.take 28 (.take 27 (.take 29 (.take 30 (.take 31 (.take 32 (.take 33 (.take 34 (.take 35 (.take 36 (.take 37 (.take 38 (.take 39 (.take 40 (.done)))))))))))))))))))))))))))))))))))))))))), (17, .take 0 (.take 1 (.take 2 (.take 3 (.take 4 (.take 5 (.take 6 (.take 7 (.take 8 (.take 9 (.take 10 (.take 11 (.take 12 (.take 13 (.take 14 (.take 15 (.take 16 (.take 17 (.take 18 (.take 19 (.take 20 (.take 21 (.take 22 (.take 23 (.take 24 (.take 25 (.take 26 (.take 27 (.take 28 (.take 29 (.take 30 (.take 31 (.take 32 (.take 33 (.take 34 (.take 35 (.take 36 (.take 37 (.take 38 (.take 39 (.take 40 (.take 41 (.done)))))))))))))))))))))))))))))))))))))))))))]
end Go.Proofs.YtgfkepebfaiepaaGreatDoor.Ax

namespace Go.Proofs.YtgfkepebfaiepaaGreatDoor.Ax
open Go.RowKit
set_option maxRecDepth 100000
theorem take_encs : ∀ (R : List Rec) (K : Nat), ∃ m k, m ≤ R.length ∧ (encs R).take K = encs (R.take m) ++ (R.getD m default).enc.take k ∧ (k = 0 ∨ (m < R.length ∧ k < (R.getD m default).size))
 | [], K => ⟨0, 0, Nat.le_refl _, by simp [encs], .inl rfl⟩
 | r :: t, K => by
   by_cases h : K < r.size
   ·refine ⟨0, K, Nat.zero_le _, ?_, .inr ⟨by simp, h⟩⟩
    show (r.enc ++ encs t).take K = [] ++ r.enc.take K
    rw [List.take_append_of_le_length (by rw [enc_len]; omega), List.nil_append]
   ·obtain ⟨m, k, h1, h2, h3⟩ := take_encs t (K - r.size)
    refine ⟨m + 1, k, by simpa using h1, ?_, ?_⟩
    ·show (r.enc ++ encs t).take K = r.enc ++ encs (t.take m) ++ (t.getD m default).enc.take k
     rw [List.append_assoc, ← h2, List.take_append, List.take_of_length_le (by rw [enc_len]; omega), enc_len]
    ·rcases h3 with h3 | ⟨h3, h4⟩
     ·exact .inl h3
     ·exact .inr ⟨by simpa using h3, h4⟩
theorem crash_scan {id : Nat} (hi : IsId id) {L : List Rec} (hN : Numd L) (hl : L.length ≤ 40) {n : Nat} (hn : n ≤ L.length) (K : Nat) : ∃ m why, n ≤ m ∧ m ≤ L.length ∧ (why = 0 ∨ why = 22) ∧
 scanB id (segBytes id (L.take n) ++ (encs (L.drop n)).take K) = ⟨fnds 16 (L.take m), [], offAt L m, why⟩ ∧ (segBytes id (L.take n) ++ (encs (L.drop n)).take K).take (offAt L m) = segBytes id (L.take m) ∧ offAt L m ≤ (segBytes id (L.take n) ++ (encs (L.drop n)).take K).length := by
 obtain ⟨j, k, h1, h2, h3⟩ := take_encs (L.drop n) K
 have hj : j ≤ L.length - n := by simpa using h1
 have hsplit : L.take (n + j) = L.take n ++ (L.drop n).take j := by rw [List.take_add]
 have hM := hN.take (n + j)
 have ho : offAt L (n + j) = 16 + (encs (L.take (n + j))).length := rfl
 have hle := (offAt_le hN (n + j)).2
 have hb : segBytes id (L.take n) ++ (encs (L.drop n)).take K = headB 1 id ++ (encs (L.take (n + j)) ++ ((L.drop n).getD j default).enc.take k) := by
  rw [h2, hsplit, encs_append]
  unfold segBytes
  simp only [List.append_assoc]
 have hlen : (headB 1 id).length = 16 := headB_len 1 id
 have htake : (headB 1 id ++ (encs (L.take (n + j)) ++ ((L.drop n).getD j default).enc.take k)).take (offAt L (n + j)) = segBytes id (L.take (n + j)) := by
  rw [← List.append_assoc]
  refine List.take_left' ?_
  rw [List.length_append, hlen]
  exact ho.symm
 have hge : offAt L (n + j) ≤ (headB 1 id ++ (encs (L.take (n + j)) ++ ((L.drop n).getD j default).enc.take k)).length := by
  rw [List.length_append, List.length_append, hlen, ho]
  omega
 rw [hb]
 have hm : HMay 1 id := .inr ⟨rfl, hi⟩
 by_cases hk : k = 0
 ·subst hk
  refine ⟨n + j, 0, by omega, by omega, .inl rfl, ?_, htake, hge⟩
  have := scanB_encs hm hM.asc (by omega)
  rw [List.take_zero, List.append_nil]
  exact this
 ·obtain ⟨g1, g2⟩ : j < (L.drop n).length ∧ k < ((L.drop n).getD j default).size := by
   rcases h3 with h3 | h3
   ·exact absurd h3 hk
   ·exact h3
  have g1' : n + j < L.length := by simp at g1; omega
  have hr : ((L.drop n).getD j default).May := by
   have := hN.getMay g1'
   rwa [show (L.drop n).getD j default = L.getD (n + j) default by simp [List.getD]]
  refine ⟨n + j, 22, by omega, by omega, .inr rfl, ?_, htake, hge⟩
  exact scanB_torn hm hM.asc hr (by omega) g2 (by omega)
theorem SegSt.sync {Q s t id : Nat} {b : Option (List UInt8)} {l : List Rec} {v : VM} (h : SegSt Q s t id b l v) : v.syncE (segName id) = 0 ∧ SegSt Q (s + 1) t id (some (segBytes id l)) l (v.sync (segName id)) := by
 obtain ⟨f, hf, _, hnow⟩ := h.has
 obtain ⟨a1, a2, a3, _, _⟩ := hf.sync h.ok h.up
 refine ⟨a1, ⟨(h.ok.sync (segName id)).more (by omega) (by omega) (by omega), a3, ⟨f.now, f.now, []⟩, a2, fun x hx => ?_, hnow⟩⟩
 injection hx with hx
 rw [← hx, ← hnow]
 exact ⟨rfl, fun d hd => by cases hd⟩
theorem SegSt.synced {Q s t id : Nat} {b : Option (List UInt8)} {l : List Rec} {v : VM} (h : SegSt Q s t id b l v) (hi : IsId id) (hl : l.length ≤ 40) (hs : s ≤ 100) (ht : t ≤ 100000) (sf : Nat) : AFn Go.Proofs.Tryz.prog 59 [.ptr 1 0] (sgH (segG id l sf) v) (fun _ : Unit => AV.int .i64 0) (fun _ => sgH (segG id l l.length) (v.sync (segName id))) := by
 obtain ⟨h1, _⟩ := h.sync
 have := segSync_ok h.ok (by omega) (by omega) (by omega) (segG id l sf) (show id < 4294967296 by unfold IsId at hi; omega)
 rw [show (segG id l sf).s.id = id from rfl, h1, if_pos rfl] at this
 exact this
theorem SegSt.crash {Q s t id n : Nat} {L : List Rec} {v : VM} (h : SegSt Q s t id (some (segBytes id (L.take n))) L v) (hi : IsId id) (hN : Numd L) (hl : L.length ≤ 40) (hn : n ≤ L.length) (P : List Int) : ∃ m why, n ≤ m ∧ m ≤ L.length ∧ (why = 0 ∨ why = 22) ∧ ∃ f, (v.crash P).Has (segName id) f ∧ scanB id f.now = ⟨fnds 16 (L.take m), [], offAt L m, why⟩ ∧ f.now.take (offAt L m) = segBytes id (L.take m) ∧ offAt L m ≤ f.now.length ∧ f.now.length ≤ 90000000 := by
 obtain ⟨f, hf, ha, hnow⟩ := h.has
 obtain ⟨K, hK⟩ := hf.crash P
 have hsp : segBytes id L = segBytes id (L.take n) ++ encs (L.drop n) := by
  unfold segBytes
  rw [List.append_assoc, ← encs_append, List.take_append_drop]
 obtain ⟨_, i, _, hfi⟩ := hf
 have hc := crash_cut (h.ok.file hfi) (ha _ rfl) (hnow.trans hsp) K
 rw [hc] at hK
 obtain ⟨m, why, c1, c2, c3, c4, c5, c6⟩ := crash_scan hi hN hl hn K
 refine ⟨m, why, c1, c2, c3, _, hK, c4, c5, c6, ?_⟩
 have h1 : (segBytes id L).length = offAt L L.length := segBytes_len id L
 have h2 := (offAt_le hN L.length).2
 rw [hsp, List.length_append] at h1
 show (segBytes id (L.take n) ++ (encs (L.drop n)).take K).length ≤ 90000000
 rw [List.length_append, List.length_take]
 omega
theorem runs_cnt {b : List UInt8} : ∀ (n : Nat) (s : SC), s.end_ ≤ b.length → 25 * (s.found.length + s.passed.length) ≤ s.end_ → (SC.runs b n s).end_ ≤ b.length ∧ 25 * ((SC.runs b n s).found.length + (SC.runs b n s).passed.length) ≤ (SC.runs b n s).end_
 | 0, s, h1, h2 => ⟨h1, h2⟩
 | n + 1, s, h1, h2 => by
   have h3 := SC.next_end h1
   have h4 := SC.next_cnt h1 h2
   rw [SC.runs]
   split
   ·exact runs_cnt n _ h3.2.1 h4
   ·exact ⟨h3.2.1, h4⟩
theorem scanB_cnt (n : Nat) (b : List UInt8) : 25 * ((scanB n b).found.length + (scanB n b).passed.length) ≤ b.length := by
 unfold scanB
 split
 ·simp
 ·rename_i h
  have h16 : 16 ≤ b.length := by
   by_cases g : b.length < 16
   ·exact absurd (by rw [checkH_short g]; decide) h
   ·omega
  have := runs_cnt (b := b) (b.length + 1) ⟨[], [], 16, 0⟩ h16 (by simp)
  omega
end Go.Proofs.YtgfkepebfaiepaaGreatDoor.Ax

namespace Go.Proofs.YtgfkepebfaiepaaGreatDoor.Ax
open Go.RowKit
set_option maxRecDepth 100000
def FI.flipped (f : FI) (i : Nat) (m : UInt8) : FI := ⟨flip f.now i m, flip f.now i m, []⟩
theorem u8xor (c m : UInt8) : bitK .xor .u8 ((c.toNat : Nat) : Int) ((m.toNat : Nat) : Int) = (((c ^^^ m).toNat : Nat) : Int) := by
 show IntKind.u8.wrap ((BitVec.ofInt 8 (c.toNat : Int) ^^^ BitVec.ofInt 8 (m.toNat : Int)).toNat : Nat) = _
 rw [BitVec.ofInt_natCast, BitVec.ofInt_natCast, UInt8.toNat_xor, BitVec.toNat_xor, BitVec.toNat_ofNat, BitVec.toNat_ofNat, Nat.mod_eq_of_lt c.toNat_lt, Nat.mod_eq_of_lt m.toNat_lt]
 have h : (c ^^^ m).toNat < 256 := (c ^^^ m).toNat_lt
 rw [UInt8.toNat_xor] at h
 generalize c.toNat ^^^ m.toNat = x at *
 simp [IntKind.wrap, IntKind.bits, IntKind.signed]
 omega
theorem fflip_ok (f : FI) (hd : f.ds = []) (i : Nat) (hi : i < f.now.length) (m : UInt8) (hb : f.now.length ≤ 100000000) : AFn Go.Proofs.Tryz.prog 122 [.ptr 0 0, AV.int .i64 i, AV.int .u8 m.toNat] (one f.H) (fun _ : Unit => AV.int .i64 0) (fun _ => one (FI.H (f.flipped i m))) := by
 refine ACall.fin ?_
 refine ACall.walkE (C := cfg 46 1) (cfgOk _ _) [] (fn := Go.Proofs.Tryz.f122) (by kernel_rfl) (by kernel_rfl) rfl (by kernel_rfl) (by kernel_rfl) rfl rfl (H1 := f.H) (fun _ _ => (HEnt.openOne (f.H) rfl rfl).ent) fun hlen hheap => ?_
 have h0 : f.ds.length = 0 := by rw [hd]; rfl
 refine goA ?_
 repeat' (refine ifdA (fun q => ?_) (fun q => ?_) <;> (try dsimp only at q) <;> first | (exfalso; omega) | (refine goA ?_))
 refine AFn.useA [] (bcloneR_ok f.now (by omega)) fun _ => ?_
 refine goA ?_
 have hx := (f.now.getD i 0 ^^^ m).toNat_lt
 rw [show 0 + ((i : Nat) : Int).toNat = i from Nat.zero_add i, u8xor]
 refine goA ?_
 have hfl : f.now.set i (UInt8.ofNat (((f.now.getD i 0 ^^^ m).toNat : Nat) : Int).toNat) = flip f.now i m := by
  unfold flip
  congr 1
  show UInt8.ofNat (f.now.getD i 0 ^^^ m).toNat = _
  exact UInt8.ofNat_toNat
 rw [hfl]
 refine ACall.freezeB 2 rfl [.ptr 0 0, .iv (.bs (flip f.now i m))] ⟨AVF.same .., AVF.bs (by rw [flip_len]; exact Nat.le_refl _) (by rw [← flip_len f.now i m, List.take_length]), rfl⟩ ?_
 refine ACall.hent (HEnt.close [0, 1] 0 f.H (by kernel_rfl) (by repeat' first | exact trivial | refine ⟨rfl, ?_⟩)) ?_
 refine AFn.useA [0] (rest_ok f (flip f.now i m) (by rw [flip_len]; omega)) fun _ => ?_
 refine ⟨_, HEnt.refl _, ?_⟩
 refine goA ?_
 refine ⟨_, _, Ent.mk' (e' := [(0, AV.int .i64 0)]) (H' := one (f.flipped i m).H) [some 0] (by kernel_rfl) ?_ ?_, (), rfl, rfl⟩
 ·exact ⟨AVE.refl _, trivial⟩
 ·exact subC
theorem fsOpen_at (s : SM) {v : VM} (hs : s.At v) (ho : v.off = false) {x : List UInt8} {m b : Nat} {f : FI} (hm : mayB x = true) (hf : afind v.fd.now x = some m) (h2 : (s.fs.find? fun p => decide (p.1 = m)) = some (m, b, f)) : AFn Go.Proofs.Tryz.prog 121 [.ptr 0 0, .str x] s.H (fun _ : Unit => .tup [ptrV b, AV.int .i64 0]) (fun _ => s.H) := by
 have hv := hs.val
 have hf' : afind s.fd.now x = some m := by rw [← hv] at hf; exact hf
 refine ACall.fin ?_
 refine ACall.walk (C := cfg 17 4) (cfgOk _ _) [] (fn := Go.Proofs.Tryz.f121) (by kernel_rfl) (by kernel_rfl) rfl (by kernel_rfl) (by kernel_rfl) rfl rfl ?_
 refine goA ?_
 refine AFn.useA [0, 1, 2, 3] (power_at s hs) fun _ => ?_
 rw [show v.powE = 0 by simp [VM.powE, ho]]
 refine goA ?_
 refine AFn.useA [0, 1, 2, 3] (find_yes s x m b f hm hf' h2) fun _ => ?_
 refine goA ?_
 refine ⟨_, _, Ent.mk' (e' := [(0, .tup [ptrV b, AV.int .i64 0])]) (H' := s.H) [some 0, some 1, some 2, some 3] (by kernel_rfl) ?_ ?_, (), rfl, rfl⟩
 ·exact ⟨AVE.refl _, trivial⟩
 ·exact subC
theorem flip_s (s : SM) {n B k : Nat} {v : VM} (hs : s.At v) (h : v.Ok n B k) (hB : B ≤ 80000000) (ho : v.off = false) {x : List UInt8} {m : Nat} {f : FI} (hm : mayB x = true) (hf : afind v.fd.now x = some m) (h1 : ffind v.fs m = some f) (hd : f.ds = []) (i : Nat) (hi : i < f.now.length) (c : UInt8) : AFn Go.Proofs.Tryz.prog 60 [.ptr 0 0, .str x, AV.int .i64 i, AV.int .u8 c.toNat] s.H (fun _ : { s' : SM // s'.At { v with fs := fset v.fs m (f.flipped i c) } } => AV.int .i64 0) (fun s' => s'.1.H) := by
 obtain ⟨b, h2⟩ := at_find hs h1
 have hl := (h.file h1).len
 refine ACall.fin ?_
 refine ACall.walk (C := cfg 24 4) (cfgOk _ _) [] (fn := Go.Proofs.Tryz.f60) (by kernel_rfl) (by kernel_rfl) rfl (by kernel_rfl) (by kernel_rfl) rfl rfl ?_
 refine goA ?_
 refine AFn.useA [0, 1, 2, 3] (fsOpen_at s hs ho hm hf h2) fun _ => ?_
 refine goA ?_
 refine AFn.useA [0, 1, 2, 3] (AFn.atF s (find_of h2).2 (fflip_ok f hd i hi c (by omega)) (fun _ => rfl) fun _ => rfl) fun _ => ?_
 refine goA ?_
 refine ⟨_, _, Ent.mk' (e' := [(0, AV.int .i64 0)]) (H' := (s.put b (f.flipped i c)).H) [some 0, some 1, some 2, some 3] (by kernel_rfl) ⟨AVE.refl _, trivial⟩ (by repeat' (first | exact trivial | refine ⟨⟨_, rfl, ChE.refl _⟩, ?_⟩)), ⟨s.put b (f.flipped i c), file_put hs h.nd h2 _⟩, rfl, rfl⟩
theorem fsFlip {n B k Q : Nat} {v : VM} (ok : v.Ok n B k) (hB : B ≤ 80000000) (up : v.Up Q) {x b : List UInt8} (h : v.Has x ⟨b, b, []⟩) (i : Nat) (hi : i < b.length) (c : UInt8) : ∃ w : VM, w.Ok n B k ∧ w.Up Q ∧ w.Has x ⟨flip b i c, flip b i c, []⟩ ∧ AFn Go.Proofs.Tryz.prog 60 [.ptr 0 0, .str x, AV.int .i64 i, AV.int .u8 c.toNat] (fone v) (fun _ : Unit => AV.int .i64 0) (fun _ => fone w) := by
 obtain ⟨hm, j, h1, h2⟩ := h
 have hl : b.length ≤ B := (ok.file h2).len
 refine ⟨{ v with fs := fset v.fs j (FI.flipped ⟨b, b, []⟩ i c) }, ok.fset (FI.Ok.rest _ _ (by show (flip b i c).length ≤ B; rw [flip_len]; exact hl)), ⟨up.off, up.fuse, up.quota⟩, ⟨hm, j, h1, ?_⟩, ?_⟩
 ·show ffind (fset v.fs j _) j = _
  rw [ffind_fset, if_pos ⟨rfl, by rw [h2]; rfl⟩]
  rfl
 ·exact AFn.val fun s hs => AFn.shut (flip_s s hs ok hB up.off hm h1.now h2 rfl i hi c) rfl rfl (fun _ => ⟨by kernel_rfl, by kernel_rfl⟩) (fun _ => (by repeat' first | exact trivial | refine ⟨rfl, ?_⟩)) (fun _ => rfl)
theorem SegSt.syncHas {Q s t id : Nat} {b : Option (List UInt8)} {l : List Rec} {v : VM} (h : SegSt Q s t id b l v) : (v.sync (segName id)).Has (segName id) ⟨segBytes id l, segBytes id l, []⟩ := by
 obtain ⟨f, hf, _, hnow⟩ := h.has
 obtain ⟨_, a2, _, _, _⟩ := hf.sync h.ok h.up
 rw [hnow] at a2
 exact a2
theorem read_bytes {id off : Nat} {w : VM} {D : List UInt8} (ho : w.off = false) (h : w.Has (segName id) ⟨D, D, []⟩) (l : List Rec) (sf : Nat) (h16 : 16 ≤ off) (hlt : off < offAt l l.length) (hD : D.length = offAt l l.length) : (segG id l sf).read w id off = if (getR ((D.drop off).take (min 1113 (offAt l l.length - off)))).2.2 = 0 then ((getR ((D.drop off).take (min 1113 (offAt l l.length - off)))).1, 0) else (default, 36) := by
 unfold SG.read
 rw [if_neg (by rintro (g | g | g); exact g rfl; omega; have g : offAt l l.length ≤ off := g; omega)]
 show SG.rd w (segName id) off (min 1113 (offAt l l.length - off)) = _
 have e1 : w.readE (segName id) (off : Int) (min 1113 (offAt l l.length - off) : Nat) = 0 := by
  rw [h.readE ho]
  have hb' : (⟨D, D, []⟩ : FI).now.length = offAt l l.length := hD
  unfold FI.readE
  rw [hb', if_neg (by omega), if_neg (by omega)]
 have e2 : w.read (segName id) (off : Int) (min 1113 (offAt l l.length - off) : Nat) = (D.drop off).take (min 1113 (offAt l l.length - off)) := by
  rw [h.read ho]
  have e1' : FI.readE ⟨D, D, []⟩ (off : Int) (min 1113 (offAt l l.length - off) : Nat) = 0 := by rw [← h.readE ho]; exact e1
  unfold FI.read
  rw [if_pos e1']
  rfl
 unfold SG.rd
 rw [if_pos e1, e2]
theorem flip_reads {id k b : Nat} {w : VM} {l : List Rec} {m : UInt8} (hN : Numd l) (hk : k < offAt l l.length) (hb : b < 8) (hmm : m.toBitVec.setWidth 32 = BitVec.twoPow 32 b) (ho : w.off = false) (h : w.Has (segName id) ⟨flip (segBytes id l) k m, flip (segBytes id l) k m, []⟩) (sf : Nat) :
 ∃ j, (k < 16 → j = l.length) ∧ (16 ≤ k → j < l.length) ∧ ∀ i, i < l.length → (segG id l sf).read w id (offAt l i) = if i = j then (default, 36) else (l.getD i default, 0) := by
 have hlen : (segBytes id l).length = offAt l l.length := segBytes_len id l
 have key : ∀ i, i < l.length → 16 ≤ offAt l i ∧ offAt l i < offAt l l.length ∧ (l.getD i default).size ≤ min 1113 (offAt l l.length - offAt l i) := fun i hi => by
  have hsz := May.size (hN.getMay hi)
  have h1 := offAt_succ hi
  have h2 := offAt_mono (l := l) (show i + 1 ≤ l.length by omega)
  have h4 := offAt_le hN i
  have hp : 25 ≤ (l.getD i default).size := by unfold Rec.size; omega
  omega
 by_cases h16 : 16 ≤ k
 ·obtain ⟨j, hj, hr⟩ := seg_read_flip (n := id) hN.may h16 (by rw [hlen]; exact hk) hb hmm
  refine ⟨j, fun h => by omega, fun _ => hj, fun i hi => ?_⟩
  obtain ⟨k1, k2, k3⟩ := key i hi
  have hri := hr i _ hi k3
  rw [read_bytes ho h l sf k1 k2 (by rw [flip_len, hlen])]
  by_cases e : i = j
  ·rw [if_pos e] at hri ⊢
   rw [hri]
   rfl
  ·rw [if_neg e] at hri ⊢
   rw [hri]
   rfl
 ·refine ⟨l.length, fun _ => rfl, fun h => absurd h h16, fun i hi => ?_⟩
  obtain ⟨k1, k2, k3⟩ := key i hi
  rw [read_bytes ho h l sf k1 k2 (by rw [flip_len, hlen]), if_neg (show ¬ i = l.length by omega)]
  have hd : (flip (segBytes id l) k m).drop (offAt l i) = (segBytes id l).drop (offAt l i) := by
   unfold flip
   rw [List.drop_set_of_lt (by omega)]
  rw [hd, seg_read hi (hN.getMay hi) k3]
  rfl
theorem flip_scan {id k b : Nat} {l : List Rec} {m : UInt8} (hi : IsId id) (hN : Numd l) (hl : l.length ≤ 40) (hk : k < offAt l l.length) (hb : b < 8) (hmm : m.toBitVec.setWidth 32 = BitVec.twoPow 32 b) :
 (k < 16 → (scanB id (flip (segBytes id l) k m)).why = 23) ∧ ∀ y ∈ (scanB id (flip (segBytes id l) k m)).found, ∃ i, i < l.length ∧ y = ⟨offAt l i, (l.getD i default).size, l.getD i default⟩ := by
 have hlen : (segBytes id l).length = offAt l l.length := segBytes_len id l
 by_cases h16 : 16 ≤ k
 ·have h1 := offAt_le hN l.length
  refine ⟨fun h => by omega, scanB_flip (.inr ⟨rfl, hi⟩) hN.asc ?_ h16 (by rw [hlen]; exact hk) hb hmm⟩
  have : offAt l l.length = 16 + (encs l).length := by unfold offAt; rw [List.take_length]
  omega
 ·have e : scanB id (flip (segBytes id l) k m) = ⟨[], [], 0, 23⟩ := by
   unfold segBytes
   rw [flip_append_left (by rw [headB_len]; omega)]
   unfold scanB
   rw [checkH_flip (by omega) hb hmm, if_pos (by decide)]
  rw [e]
  exact ⟨fun _ => rfl, fun y hy => by cases hy⟩
end Go.Proofs.YtgfkepebfaiepaaGreatDoor.Ax

namespace Go.Proofs.YtgfkepebfaiepaaGreatDoor.Ax
open Go.RowKit
set_option maxRecDepth 100000
noncomputable def cfgFl (N b : Nat) : Cfg := { P := Go.Proofs.Tryz.prog, T := tt, wr := false, N := N, pure := [13, 25, 53, 57, 61], base := b, frz := fun op => match op with | .makeFunc .. => true | .convert .. => true | _ => false }
theorem cfgFlOk (N b : Nat) : (cfgFl N b).Ok := ⟨ttOk, ttBytes, by kernel_rfl⟩
def sch9 : List (Nat × Sched) := [(27, .take 0 (.take 1 (.take 2 (.take 3 (.take 4 (.take 5 (.take 6 (.take 7 (.take 8 (.take 9 (.take 10 (.take 11 (.take 12 (.take 13 (.take 14 (.take 15 (.take 16 (.take 17 (.take 18 (.take 19 (.take 20 (.take 21 (.take 22 (.take 23 (.take 24 (.take 25 (.take 26 (.take 27 (.take 28 (.take 29 (.take 30 (.take 31 (.take 32 (.take 33 (.take 34 (.take 35 (.take 36 (.take 37 (.done)))))))))))))))))))))))))))))))))))))))]
theorem shl_bit (b : Nat) : wrK .u8 (1 * 2 ^ (min ((b : Int) % 8).toNat IntKind.u8.bits)) = ((UInt8.ofNat (2 ^ (b % 8))).toNat : Int) := by
 have h : b % 8 < 8 := Nat.mod_lt _ (by decide)
 rw [show ((b : Int) % 8).toNat = b % 8 by omega]
 generalize b % 8 = q at *
 have : q = 0 ∨ q = 1 ∨ q = 2 ∨ q = 3 ∨ q = 4 ∨ q = 5 ∨ q = 6 ∨ q = 7 := by omega
 rcases this with rfl | rfl | rfl | rfl | rfl | rfl | rfl | rfl <;> decide
@[reducible] def flH (L : List Rec) (w : VM) : AH := ⟨3, [(0, .sem (fsV w)), (1, .cells 192 (sgC 0 (segG 7 L L.length))), (2, .rowc 48 2 L.length (locF 7 L))]⟩
set_option maxHeartbeats 4000000 in
theorem flip_law (l : List Rec) (hl : l.length ≤ 9223372036854775807 ∧ ∀ r ∈ l, r.W) (a : Nat) (ha : a ≤ 65535) (b : Nat) (hb : b ≤ 255) : Law Go.Proofs.Tryz.prog 9 [recsA l, AV.int .u16 a, AV.int .u8 b] := by
 have hnum := numbered_ok l hl.1 hl.2
 obtain ⟨hN, hL⟩ := numb_ok (cap := 30) l [] Numd.nil (Nat.zero_le _)
 have hN : Numd (numb 30 l) := hN
 have hL : (numb 30 l).length ≤ 30 := hL
 generalize numb 30 l = L at *
 have hi : IsId 7 := isId 7 (by decide)
 have hLd := laidR_ok 7 hi L hN (by omega)
 have hS := laid_st hi hN (by omega) L.length (Nat.le_refl _)
 unfold laidH at hLd
 rw [List.take_length] at hS hLd
 generalize laidV 7 L = v at *
 have hSy := hS.synced hi (by omega) (by omega) (by omega) 0
 have hSt := hS.sync.2
 have hHas := hS.syncHas
 generalize v.sync (segName 7) = v1 at *
 have hSe := segSeal_ok (segG 7 L L.length) v1
 have hOff := offAt_le hN L.length
 obtain ⟨k, hk⟩ : ∃ k, k = a % offAt L L.length := ⟨_, rfl⟩
 have hkI : (a : Int) % (offAt L L.length : Int) = (k : Int) := by rw [hk]; omega
 have hsh := shl_bit b
 have hkl : k < offAt L L.length := by rw [hk]; exact Nat.mod_lt _ (by omega)
 have hbl : (segBytes 7 L).length = offAt L L.length := segBytes_len 7 L
 have hb8 : b % 8 < 8 := Nat.mod_lt _ (by decide)
 have hmm := pow_bit hb8
 obtain ⟨w, okw, upw, hasw, hFl⟩ := fsFlip hSt.ok (by omega) hSt.up hHas k (by omega) (UInt8.ofNat (2 ^ (b % 8)))
 obtain ⟨j, hj1, hj2, hRd⟩ := flip_reads hN hkl hb8 hmm upw.off hasw L.length
 obtain ⟨hs1, hs2⟩ := flip_scan hi hN (by omega) hkl hb8 hmm
 have hLo : AFn Go.Proofs.Tryz.prog 51 [.ptr 0 0, AV.int .u32 (7 : Nat)] (fone w) (fun _ : Unit => .tup [scA 7 (scanB 7 (flip (segBytes 7 L) k (UInt8.ofNat (2 ^ (b % 8))))), AV.int .i64 0]) (fun _ => fone w) := by
  have e : (w.file (segName 7)).now = flip (segBytes 7 L) k (UInt8.ofNat (2 ^ (b % 8))) := by rw [hasw.file]
  have := segLoad_ok okw (by omega) 7 hi (hasw.opens upw.off) (by rw [e, flip_len, hbl]; omega)
  rw [e] at this
  exact this
 have hRead : ∀ i, i < L.length → AFn Go.Proofs.Tryz.prog 58 [.ptr 1 0, locA 7 (offAt L i)] (sgH (segG 7 L L.length) w) (fun _ : Unit => .tup [recA (if i = j then default else L.getD i default), AV.int .i64 (if i = j then 36 else 0)]) (fun _ => sgH (segG 7 L L.length) w) := fun i h => by
  have := segRead_ok okw (by omega) (segG 7 L L.length) 7 (offAt L i) (by decide) (show offAt L L.length ≤ 4294967295 by omega)
  rw [hRd i h] at this
  by_cases e : i = j
  ·simp only [if_pos e] at this ⊢
   exact this
  ·simp only [if_neg e] at this ⊢
   exact this
 have hcnt := scanB_cnt 7 (flip (segBytes 7 L) k (UInt8.ofNat (2 ^ (b % 8))))
 rw [flip_len, hbl] at hcnt
 clear hRd hasw hHas hSt hS
 generalize scanB 7 (flip (segBytes 7 L) k (UInt8.ofNat (2 ^ (b % 8)))) = S at *
 have hname := segName_ok 7 (by decide)
 generalize UInt8.ofNat (2 ^ (b % 8)) = m at *
 generalize segName 7 = nm at *
 refine ACall.fin ?_
 refine ACall.walk (C := cfgFl 165 0) (cfgFlOk _ _) sch9 (fn := Go.Proofs.Tryz.f9) (by kernel_rfl) (by kernel_rfl) rfl (by kernel_rfl) (by kernel_rfl) rfl rfl ?_
 refine goA ?_
 refine AFn.useA [] (hnum) fun _ => ?_
 refine goA ?_
 refine AFn.useA [] (new_fs 1073741824 (by decide)) fun _ => ?_
 refine goA ?_
 refine AFn.useA [] (wakes_ok) fun _ => ?_
 refine goA ?_
 refine AFn.useA [0] (hLd) fun _ => ?_
 refine goA ?_
 refine AFn.useA [0, 1] (hSy) fun _ => ?_
 refine goA ?_
 have hsz : (segG 7 L L.length).s.size = offAt L L.length := rfl
 refine AFn.useA [0, 1] (hSe) fun _ => ?_
 refine goA ?_
 rw [hsz, hkI]
 refine goA ?_
 refine AFn.useA [] (hname) fun _ => ?_
 refine goA ?_
 rw [hsh]
 refine AFn.useA [0] (hFl) fun _ => ?_
 refine goA ?_
 refine AWP.loop (X := { i : Nat // i ≤ L.length }) (fun x => [(0, recsA L), (7, .ptr 0 0), (9, .ptr 1 0), (10, .row 2 2 0 L.length), (11, AV.int .i64 k), (12, AV.int .i64 ((min (x.1 - j) 1 : Nat) : Int)), (61, recsA L), (62, AV.int .i64 L.length), (63, AV.int .i64 x.1)]) (fun x => flH L w) (fun x => L.length - x.1) (⟨0, Nat.zero_le _⟩) ?_ fun x => AWP.go (S := sch9) (cfgFlOk _ _) (.of_eq (by kernel_rfl)) ?_
 ·exact Ent.mkA [some 0, some 1, some 2]
 ·obtain ⟨i, hle⟩ := x
  dsimp only
  refine goA ?_
  refine ifdA (fun h => ?_) (fun h => ?_) <;> (try dsimp only at h)
  ·have hlt : i < L.length := by omega
   have hR := hRead i hlt
   have hg : L.getD ((i : Nat) : Int).toNat default = L.getD i default := rfl
   have hz : 0 + ((i : Nat) : Int).toNat = i := Nat.zero_add i
   have hsm := recSame_ok (L.getD i default) (L.getD i default) (May.B (hN.getMay hlt)) (May.B (hN.getMay hlt))
   rw [decide_eq_true rfl] at hsm
   generalize hr : L.getD i default = r at *
   refine goA ?_
   rw [hz, hg]
   by_cases e : i = j
   ·simp only [if_pos e] at hR
    refine AFn.useA [0, 1] (hR) fun _ => ?_
    refine goA ?_
    refine ⟨⟨i + 1, by omega⟩, Ent.mkA [some 0, some 1, some 2], ?_⟩
    show L.length - (i + 1) < L.length - i
    omega
   ·simp only [if_neg e] at hR
    refine AFn.useA [0, 1] (hR) fun _ => ?_
    refine goA ?_
    refine AFn.useA [] (hsm) fun _ => ?_
    refine goA ?_
    refine ⟨⟨i + 1, by omega⟩, Ent.mkA [some 0, some 1, some 2], ?_⟩
    show L.length - (i + 1) < L.length - i
    omega
  ·have : i = L.length := by omega
   subst this
   refine goA ?_
   refine AFn.useA [0] (hLo) fun _ => ?_
   have hpick : (16 ≤ k ∧ min (L.length - j) 1 = 1) ∨ (k < 16 ∧ min (L.length - j) 1 = 0 ∧ S.why = 23) := by
    by_cases h16 : 16 ≤ k
    ·have := hj2 h16
     exact .inl ⟨h16, by omega⟩
    ·have := hj1 (by omega)
     exact .inr ⟨by omega, by omega, hs1 (by omega)⟩
   generalize min (L.length - j) 1 = bad at *
   apply AWP.ahead (C := cfgFl 165 0) ([(0, recsA L), (10, .row 0 2 0 L.length), (120, .iv (.sl 9 S.found.length (fndF 7 S.found))), (121, AV.int .i64 S.found.length), (122, AV.int .i64 0)]) (⟨1, [(0, .rowc 48 2 L.length (locF 7 L))]⟩)
   ·intro key
    rcases hpick with ⟨p1, p2⟩ | ⟨p1, p2, p3⟩
    ·have hdd : decide (decide (((1 : Nat) : Int) = 1) ≠ decide ((k : Int) ≥ 16)) = false := by
      rw [decide_eq_true (show (k : Int) ≥ 16 by omega)]
      rfl
     rw [p2]
     refine goA ?_
     rw [hdd]
     refine goA ?_
     repeat' (refine ifdA (fun q => ?_) (fun q => ?_) <;> (try dsimp only at q) <;> first | (exfalso; omega) | (refine goA ?_))
     all_goals
      refine AWP.of_ent ?_ key
      exact Ent.mkA [some 2]
    ·have hdd : decide (decide (((0 : Nat) : Int) = 1) ≠ decide ((k : Int) ≥ 16)) = false := by
      rw [decide_eq_false (show ¬ (k : Int) ≥ 16 by omega)]
      rfl
     rw [p2]
     refine goA ?_
     rw [hdd]
     refine goA ?_
     repeat' (refine ifdA (fun q => ?_) (fun q => ?_) <;> (try dsimp only at q) <;> first | (exfalso; omega) | (refine goA ?_))
     all_goals
      refine AWP.of_ent ?_ key
      exact Ent.mkA [some 2]
   refine AWP.loop (X := { i : Nat // i ≤ S.found.length }) (fun x => [(0, recsA L), (10, .row 0 2 0 L.length), (120, .iv (.sl 9 S.found.length (fndF 7 S.found))), (121, AV.int .i64 S.found.length), (122, AV.int .i64 x.1)]) (fun x => ⟨1, [(0, .rowc 48 2 L.length (locF 7 L))]⟩) (fun x => S.found.length - x.1) (⟨0, Nat.zero_le _⟩) ?_ fun x => AWP.go (S := sch9) (cfgFlOk _ _) (.of_eq (by kernel_rfl)) ?_
   ·exact Ent.mkA [some 0]
   ·obtain ⟨i, hle⟩ := x
    dsimp only
    refine goA ?_
    refine ifdA (fun h2 => ?_) (fun h2 => ?_) <;> (try dsimp only at h2)
    ·have hlt : i < S.found.length := by omega
     have hg : S.found.getD ((i : Nat) : Int).toNat default = S.found.getD i default := rfl
     obtain ⟨q, hq, hy⟩ := hs2 (S.found.getD i default) (by simp [List.getD, hlt])
     have hsq := hN.seq q hq
     have hsm := recSame_ok (L.getD q default) (L.getD q default) (May.B (hN.getMay hq)) (May.B (hN.getMay hq))
     rw [decide_eq_true rfl] at hsm
     have hd : ∀ x : Int, decide (x = x) = true := fun x => decide_eq_true rfl
     refine goA ?_
     rw [hg]
     generalize S.found.getD i default = y at *
     have e1 : y.off = offAt L q := by rw [hy]
     have e2 : y.r = L.getD q default := by rw [hy]
     have e3 : y.r.seq = q + 1 := by rw [e2]; exact hsq
     clear hy
     refine goA ?_
     refine ifdA (fun q1 => ?_) (fun q1 => ?_) <;> (try dsimp only at q1)
     ·exfalso; omega
     refine goA ?_
     refine ifdA (fun q2 => ?_) (fun q2 => ?_) <;> (try dsimp only at q2)
     ·exfalso; omega
     have hz : 0 + ((y.r.seq : Int) - 1).toNat = q := by omega
     have hz2 : ((y.r.seq : Int) - 1).toNat = q := by omega
     refine goA ?_
     rw [hz, e1, hd, hd]
     refine goA ?_
     rw [hz2, e2]
     refine AFn.useA [] (hsm) fun _ => ?_
     refine goA ?_
     refine ⟨⟨i + 1, by omega⟩, Ent.mkA [some 0], ?_⟩
     show S.found.length - (i + 1) < S.found.length - i
     omega
    ·refine goA ?_
     refine ⟨_, _, Ent.mk' (e' := [(0, AV.bool true)]) (H' := ⟨0, []⟩) [] (by kernel_rfl) ?_ ?_, (), rfl, rfl⟩
     ·exact ⟨AVE.refl _, trivial⟩
     ·trivial
end Go.Proofs.YtgfkepebfaiepaaGreatDoor.Ax

namespace Go.Proofs.YtgfkepebfaiepaaGreatDoor.Ax
open Go.RowKit Go.ChangeShapes
theorem laid_mem {P : Program} {W : World} : ∀ {l : List (String × DataW Unit)} {ps : List MemPlace}, DataW.LaidVars P W l ps → ∀ {n d}, (n, d) ∈ l →
 ∃ g t cs fuel p, P.globalNamed n = some g ∧ (P.globals[g]?).map (·.type) = some t ∧ W.var? P n = some cs ∧ DataW.trod (fun _ => ()) P W 0 (fun _ => true) false fuel t cs.toList = some (d, p) ∧ ∀ q ∈ MemPlace.row ⟨g, 0, none⟩ cs.size ++ p, q ∈ ps
 | [], _, _, _, _, h => by cases h
 | (n', d') :: r, ps, h, n, d, hm => by
  obtain ⟨g, t, cs, fuel, p, q, h1, h2, h3, h4, h5, rfl⟩ := h
  rcases List.mem_cons.1 hm with hm | hm
  ·obtain ⟨rfl, rfl⟩ := Prod.mk.injEq .. ▸ hm
   exact ⟨g, t, cs, fuel, p, h1, h2, h3, h4, fun x hx => List.mem_append_left _ hx⟩
  ·obtain ⟨g', t', cs', fuel', p', k1, k2, k3, k4, k5⟩ := laid_mem h5 hm
   exact ⟨g', t', cs', fuel', p', k1, k2, k3, k4, fun x hx => List.mem_append_right _ (k5 x hx)⟩
theorem laid_one {P : Program} {W : World} {l : List (String × DataW Unit)} (h : laidMetH P l W) {n : String} {d : DataW Unit} (hm : (n, d) ∈ l) (hn : d.handleName?.isNone = true) :
 ∃ g t cs fuel p, P.globalNamed n = some g ∧ (P.globals[g]?).map (·.type) = some t ∧ W.var? P n = some cs ∧ DataW.trod (fun _ => ()) P W 0 (fun _ => true) false fuel t cs.toList = some (d, p) ∧
   ∀ b off, MemPlace.cell b off ∈ MemPlace.row ⟨g, 0, none⟩ cs.size ++ p → ∀ u v, W.cell? ⟨b, off, none⟩ = some (.iface u v) → Value.okWide P W .any 0 u v := by
 obtain ⟨h1, _⟩ := laidMetH_iff.1 h
 obtain ⟨ps, k1, _, k3⟩ := h1
 obtain ⟨g, t, cs, fuel, p, q1, q2, q3, q4, q5⟩ := laid_mem k1 (n := n) (d := d) (List.mem_filter.2 ⟨hm, hn⟩)
 exact ⟨g, t, cs, fuel, p, q1, q2, q3, q4, fun b off hb => (k3 b off (q5 _ hb)).2⟩
theorem pp_of {ι : Imm} {g : Nat} {l : List IV} {vs : List Value} (h : IV.Rs ι l vs) (hc : ∀ j u, vs[j]? = some u → ι g j = some u) : IV.R ι (.pp l) (.pointer (some ⟨g, 0, none⟩)) := by
 simp only [IV.R]
 exact ⟨⟨g, 0, none⟩, vs, rfl, rfl, h, fun j u hj => by simpa using hc j u hj⟩
theorem ints_Rs (ι : Imm) (k : IntKind) : ∀ ns : List Int, IV.Rs ι (ns.map fun n => .v (.int k n)) (ns.map fun n => Value.int k n)
 | [] => rfl
 | n :: ns => by
   rw [List.map_cons, List.map_cons]
   simp only [IV.Rs]
   exact ⟨_, _, rfl, by simp only [IV.R], ints_Rs ι k ns⟩
theorem ints_laid {P : Program} {W : World} {l : List (String × DataW Unit)} (h : laidMetH P l W) {n : String} {g t e : Nat} {k : IntKind} {ns : List Int} (hm : (n, .agg (ns.map fun x => .lit (.int k x))) ∈ l)
 (hP : P.globalNamed n = some g) (hT : (P.globals[g]?).map (·.type) = some t) (ht : P.underlying t = some (.array ns.length e)) (he : P.underlying e = some (.int k)) (hc : P.cellsOf e = 1) (_hct : P.cellsOf t = ns.length)
 (hn : (DataW.agg (ns.map fun x => .lit (.int k x)) : DataW Unit).handleName?.isNone = true) : IV.R (immOf W) (.pp (ns.map fun n => .v (.int k n))) (.pointer (some ⟨g, 0, none⟩)) := by
 obtain ⟨g', t', cs, fuel, p, h1, h2, h3, h4, _⟩ := laid_one h hm hn
 obtain rfl := Option.some.inj (hP.symm.trans h1)
 obtain rfl := Option.some.inj (hT.symm.trans h2)
 obtain ⟨xs, m, _, h5, h6, h7, h8⟩ := DataW.trod_array ht h4
 injection h5 with h5 _
 injection h5 with h5
 refine pp_of (ints_Rs _ k ns) fun j u hj => ?_
 rw [List.getElem?_map] at hj
 cases hnj : ns[j]? with
 | none => rw [hnj] at hj; cases hj
 | some z =>
   rw [hnj] at hj
   injection hj with hj
   subst hj
   have hlt : j < ns.length := (List.getElem?_eq_some_iff.1 hnj).1
   have hx := h8 j hlt
   have hxj : xs[j]?.map (·.1) = some (.lit (.int k z)) := by
    have := congrArg (fun l => l[j]?) h5
    simp only [List.getElem?_map, hnj, Option.map_some] at this
    rw [← this]
   cases hq : xs[j]? with
   | none => rw [hq] at hxj; cases hxj
   | some x =>
     rw [hq] at hx hxj
     obtain ⟨z', e1, e2, _⟩ := DataW.trod_int he hx
     rw [e2] at hxj
     injection hxj with hxj
     injection hxj with hxj
     injection hxj with _ hxj
     subst hxj
     rw [hc, Nat.mul_one] at e1
     have hcell := World.var?_cell hP h3 j
     have : cs[j]? = some (.int k z') := by
      have hh : (cs.toList.drop j).take 1 = [Value.int k z'] := e1
      have : (cs.toList.drop j)[0]? = some (Value.int k z') := by
       have := congrArg (fun l => l[0]?) hh
       simpa using this
      simpa using this
     exact immOf_mk (by rw [hcell, this]) rfl
end Go.Proofs.YtgfkepebfaiepaaGreatDoor.Ax

namespace Go.Proofs.YtgfkepebfaiepaaGreatDoor.Ax
open Go.ChangeShapes Go.WideShapes Go.ChangeAt Go.RowKit Go.Deep
def flatT (P : Program) (F : List Field) : List (Nat × TypeId) := F.flatMap fun f => match P.underlying f.type with
 | some (.struct G) => G.toList.map fun g => (f.offset + g.offset, g.type)
 | _ => [(f.offset, f.type)]
def flatOk (P : Program) (F : List Field) : Bool := F.all fun f => match P.underlying f.type with
 | some (.struct G) => G.toList.all fun g => decide (g.offset < P.cellsOf f.type)
 | _ => true
def slB (P : Program) (fs : List AT) (t : TypeId) : Bool := match P.underlying t with
 | some (.slice e) => Nat.beq (P.cellsOf e) fs.length && (!(Nat.beq fs.length 0) && (match P.underlying e with
   | some (.struct F) => AT.fitssB P fs (flatT P F.toList) 0 && flatOk P F.toList
   | _ => false))
 | _ => false
section
variable {H : Type} {enc : TypeId × Value → H} {P : Program} {w : World} {base : Nat} {spare : Nat → Bool} {held : Bool}
theorem open_flat {fs : List AT} {t : TypeId} {v : Value} {d : DataW H} {ps : List MemPlace} {r : Reach} {b0 : Nat} (hB : slB P fs t = true) (hval : Value.okWide P w r b0 t v) (hd : DataW.Trod enc P w base spare held t v d ps) : ∃ x, (AT.sl fs).Sh x ∧ IV.R (immOf w) x v := by
 unfold slB at hB
 split at hB
 ·rename_i e ht
  rw [Bool.and_eq_true, Bool.and_eq_true] at hB
  obtain ⟨hc, hz, h3⟩ := hB
  have hc : P.cellsOf e = fs.length := Nat.eq_of_beq_eq_true hc
  have hz : fs.length ≠ 0 := fun h0 => by (rw [h0] at hz; cases hz)
  split at h3
  ·rename_i F hF
   rw [Bool.and_eq_true] at h3
   obtain ⟨hft, hfk⟩ := h3
   have hft := fitss_of fs _ 0 hft
   obtain ⟨fuel, h⟩ := hd
   have hc0 : v.cells.toList = [v] := by
    obtain ⟨a0, l0, c0, rfl⟩ := okWide_slice ht hval
    rfl
   rw [hc0] at h
   have hmx : maxLen = 9223372036854775807 := by decide
   rcases open_slice ht h with ⟨hcs, _⟩ | ⟨a, len, cap, m, n, D, Pl, hcs, _, hl, hm, hmm, _, hi⟩
   ·simp only [List.cons.injEq, and_true] at hcs
    subst hcs
    refine ⟨.sl fs.length 0 fun _ => [], by simp only [AT.Sh]; exact ⟨0, _, rfl, by omega, fun i hi => by omega⟩, ?_⟩
    simp only [IV.R]
    exact ⟨none, 0, rfl, Nat.le_refl _, Nat.zero_le _, fun k hk => by omega⟩
   ·simp only [List.cons.injEq, and_true] at hcs
    subst hcs
    have hlm : len ≤ m := by rw [hmm]; split <;> omega
    have each : ∀ i, i < len → ∃ xs vs, AT.Shs fs xs ∧ IV.Rs (immOf w) xs vs ∧ ∀ j u, vs[j]? = some u → w.cell? ((a.add (i * fs.length)).add j) = some u := fun i hil => by
     obtain ⟨cs', hcell, htr⟩ := hi i (by omega)
     rw [hc] at hcell
     obtain ⟨_, hcl, hat⟩ := World.cells?_some hcell
     have hcell' : ∀ j u, cs'[j]? = some u → w.cell? ((a.add (i * fs.length)).add j) = some u := fun j u hj => by
      have : j < fs.length := by rw [← hcl]; exact (List.getElem?_eq_some_iff.1 hj).1
      rw [hat j this]; exact hj
     obtain ⟨ys, n', _, _, _, hyl, hfd⟩ := DataW.trod_struct hF htr
     obtain ⟨hfl, hfo⟩ := fitss_at hft
     obtain ⟨xs, h1, h2⟩ := open_ats fs _ 0 cs' hft hcl (fun j q hj => by
      obtain ⟨k1, k2⟩ := hfo j q hj
      simp only [Nat.zero_add] at k1
      have hjl : j < fs.length := by rw [← hfl]; exact (List.getElem?_eq_some_iff.1 hj).1
      have hone : (cs'.drop j).take 1 = [cs'[j]'(by omega)] := by
       rw [List.drop_eq_getElem_cons (by omega)]
       rfl
      obtain ⟨g, hg, hq⟩ := List.mem_flatMap.1 (List.mem_of_getElem? hj)
      obtain ⟨gi, hgi⟩ := List.getElem?_of_mem hg
      have h1 := hfd gi g (by simpa using hgi)
      have hgl : gi < ys.length := by rw [hyl]; simpa using (List.getElem?_eq_some_iff.1 hgi).1
      rw [List.getElem?_eq_getElem hgl] at h1
      have hok := List.all_eq_true.1 hfk g hg
      split at hq
      ·rename_i G hG
       obtain ⟨s, hs, rfl⟩ := List.mem_map.1 hq
       rw [hG] at hok
       have hsl := List.all_eq_true.1 hok s hs
       rw [decide_eq_true_eq] at hsl
       obtain ⟨zs, n'', _, _, _, hzl, hsd⟩ := DataW.trod_struct hG h1
       obtain ⟨si, hsi⟩ := List.getElem?_of_mem hs
       have h2 := hsd si s (by simpa using hsi)
       have hzl' : si < zs.length := by rw [hzl]; simpa using (List.getElem?_eq_some_iff.1 hsi).1
       rw [List.getElem?_eq_getElem hzl', k2, List.drop_take, List.drop_drop, List.take_take, Nat.min_eq_left (by omega)] at h2
       simp only at k1
       rw [k1, hone] at h2
       exact ⟨n'', _, _, List.getElem?_eq_getElem (by omega), h2⟩
      ·obtain rfl := List.mem_singleton.1 hq
       simp only at k1 k2
       rw [k1, k2, hone] at h1
       exact ⟨n', _, _, List.getElem?_eq_getElem (by omega), h1⟩)
     exact ⟨xs, cs', h1, h2, hcell'⟩
    let f : Nat → List IV := fun i => if h : i < len then Classical.choose (each i h) else []
    have hfi : ∀ i (h : i < len), f i = Classical.choose (each i h) := fun i h => by simp only [f, dif_pos h]
    refine ⟨.sl fs.length len f, by simp only [AT.Sh]; exact ⟨len, f, rfl, by omega, fun i hil => by rw [hfi i hil]; exact (Classical.choose_spec (each i hil)).choose_spec.1⟩, ?_⟩
    simp only [IV.R]
    refine ⟨some a, cap, rfl, hl, hm, fun k hk => ?_⟩
    obtain ⟨vs, g1, g2, g3⟩ := Classical.choose_spec (each k hk)
    rw [← hfi k hk] at g1 g2
    obtain ⟨g4, g5⟩ := Shs_one fs _ _ g1 g2
    have hs : a.spot = none := by
     obtain ⟨vs0, q1, q2, q3⟩ := Classical.choose_spec (each 0 (by omega))
     obtain ⟨_, q5⟩ := Shs_one fs _ _ q1 q2
     obtain ⟨v0, vr, hvs⟩ : ∃ v0 vr, vs0 = v0 :: vr := by
      cases vs0 with
      | nil => simp at q5; omega
      | cons v0 vr => exact ⟨v0, vr, rfl⟩
     have h0 := q3 0 v0 (by rw [hvs]; rfl)
     rw [Nat.zero_mul, show (a.add 0).add 0 = a by simp [Addr.add]] at h0
     exact cell_spot h0
    refine ⟨a, vs, rfl, hs, g2, g5, fun j u hj => ?_⟩
    have hcl := g3 j u hj
    rw [add_none' hs, add_none] at hcl
    exact immOf_mk hcl (g4 u (List.mem_of_getElem? hj))
  ·cases h3
 ·cases hB
end
end Go.Proofs.YtgfkepebfaiepaaGreatDoor.Ax

namespace Go.Proofs.YtgfkepebfaiepaaGreatDoor.Ax
open Go.ChangeShapes Go.WideShapes Go.RowKit
theorem rows_ofE {α : Type} [Inhabited α] {n : Nat} {f : Nat → List IV} (g : α → List IV) (Q : α → Prop) (h : ∀ i, i < n → ∃ c, IVEs (f i) (g c) ∧ Q c) : ∃ l : List α, l.length = n ∧ (∀ c ∈ l, Q c) ∧ ∀ i, i < n → IVEs (f i) (g (l.getD i default)) := by
 induction n with
 | zero => exact ⟨[], rfl, fun c hc => by (cases hc), fun i hi => by omega⟩
 | succ n ih =>
   obtain ⟨l, h1, h2, h3⟩ := ih fun i hi => h i (by omega)
   obtain ⟨c, e, q⟩ := h n (by omega)
   refine ⟨l ++ [c], by simp [h1], fun x hx => ?_, fun i hi => ?_⟩
   ·rcases List.mem_append.1 hx with hx | hx
    ·exact h2 x hx
    ·simp only [List.mem_singleton] at hx
     subst hx
     exact q
   ·by_cases hi' : i < n
    ·have := h3 i hi'
     rw [List.getD_eq_getElem?_getD] at this ⊢
     rw [List.getElem?_append_left (by omega)]
     exact this
    ·have : i = n := by omega
     subst this
     have e2 : (l ++ [c]).getD i default = c := by simp [List.getD, ← h1]
     rw [e2]
     exact e
theorem R_rowsE {ι : Imm} {sz n : Nat} {f f' : Nat → List IV} {v : Value} (h : IV.R ι (.sl sz n f) v) (hf : ∀ i, i < n → IVEs (f i) (f' i)) : IV.R ι (.sl sz n f') v := by
 have := (AVE.sl hf).run (fun _ => none) ι v (by simpa only [AV.R] using h)
 simpa only [AV.R] using this
theorem sh_recs {ι : Imm} {x : IV} {v : Value} (h : (AT.sl [.int .u64, .int .i64, .bytes, .bytes, .int .u32, .int .u32]).Sh x) (hr : IV.R ι x v) : ∃ l : List Rec, (l.length ≤ 9223372036854775807 ∧ ∀ r ∈ l, r.W) ∧ IV.R ι (.sl 6 l.length (recF l)) v := by
 simp only [AT.Sh] at h
 obtain ⟨n, f, rfl, hn, hf⟩ := h
 obtain ⟨l, h1, h2, h3⟩ := rows_ofE (f := f) (n := n) recI Rec.W (fun i hi => by
  have hfi := hf i hi
  simp only [AT.Shs, AT.Sh] at hfi
  obtain ⟨_, _, e, ⟨a, rfl, ha⟩, _, _, rfl, ⟨b, rfl, _⟩, _, _, rfl, ⟨c, rfl, hc⟩, _, _, rfl, ⟨d, rfl, hd⟩, _, _, rfl, ⟨g, rfl, hg⟩, _, _, rfl, ⟨k, rfl, hk⟩, rfl⟩ := hfi
  have ha := bounds_u64 ha
  have hg := bounds_u32 hg
  have hk := bounds_u32 hk
  refine ⟨⟨a.toNat, b, c, d, g.toNat, k.toNat⟩, ?_, hc, hd⟩
  rw [e]
  show IVEs _ [IV.v (.int .u64 (a.toNat : Int)), IV.v (.int .i64 b), .bs c, .bs d, IV.v (.int .u32 (g.toNat : Int)), IV.v (.int .u32 (k.toNat : Int))]
  rw [Int.toNat_of_nonneg (by omega), Int.toNat_of_nonneg (by omega), Int.toNat_of_nonneg (by omega)]
  exact IVEs.refl _)
 exact ⟨l, ⟨by rw [h1]; exact hn, h2⟩, by rw [h1]; exact R_rowsE hr h3⟩
theorem sh_u16 {ι : Imm} {x : IV} {v : Value} (h : (AT.int .u16).Sh x) (hr : IV.R ι x v) : ∃ n : Nat, n ≤ 65535 ∧ IV.R ι (.v (.int .u16 (n : Int))) v := by
 simp only [AT.Sh] at h
 obtain ⟨z, rfl, hz⟩ := h
 have hz := bounds_u16 hz
 exact ⟨z.toNat, by omega, by rw [Int.toNat_of_nonneg (by omega)]; exact hr⟩
theorem sh_u8 {ι : Imm} {x : IV} {v : Value} (h : (AT.int .u8).Sh x) (hr : IV.R ι x v) : ∃ n : Nat, n ≤ 255 ∧ IV.R ι (.v (.int .u8 (n : Int))) v := by
 simp only [AT.Sh] at h
 obtain ⟨z, rfl, hz⟩ := h
 have hz := bounds_u8 hz
 exact ⟨z.toNat, by omega, by rw [Int.toNat_of_nonneg (by omega)]; exact hr⟩
end Go.Proofs.YtgfkepebfaiepaaGreatDoor.Ax
