/-
  Chapter 11: the law's walk.
-/
import Derived.Test.YtgfkepebfaiepaaGreatDoorQw
import Derived.Test.YtgfkepebfaiepaaGreatDoorQv
import Derived.Test.YtgfkepebfaiepaaGreatDoorQk
import Derived.SizedLaws
import Derived.Test.YtgfkepebfaiepaaGreatDoorQy
import Derived.LaidHandle
import Derived.LaidSub
import Derived.LaidLaws
import Derived.OpenShut
import Derived.FnData
namespace Go.Proofs.YtgfkepebfaiepaaGreatDoor.Ax
open Go.RowKit
set_option maxRecDepth 100000
def recF (l : List Rec) (i : Nat) : List IV := recI (l.getD i default)
def recsA (l : List Rec) : AV := .iv (.sl 6 l.length (recF l))
theorem rec_push {e : Nat} {l : List Rec} {r : Rec} {g : Nat → List IV} (hg : g 0 = recI r) : ChE (.rowc e 6 (l.length + 1) fun j => if j < l.length then recF l j else g (j - l.length)) (.rowc e 6 (l ++ [r]).length (recF (l ++ [r]))) := by
 refine ChE.row (by simp) fun j hj => ?_
 by_cases h : j < l.length
 ·simp only [if_pos h]
  unfold recF
  simp [List.getD, List.getElem?_append_left, h]
 ·have : j = l.length := by simp at hj; omega
  subst this
  simp only [if_neg h, Nat.sub_self]
  rw [hg]
  simp [recF, List.getD]
def Rec.W (r : Rec) : Prop := r.key.length ≤ 9223372036854775807 ∧ r.val.length ≤ 9223372036854775807
theorem lawCut_ok (r : Rec) (h : r.W) : AFn Go.Proofs.Tryz.prog 117 [recA r] ⟨0, []⟩ (fun _ : Unit => recA r.cut) (fun _ => ⟨0, []⟩) := by
 obtain ⟨h1, h2⟩ := h
 have e1 : List.take ((min (r.key.length : Int) 70).toNat - Int.toNat 0) (List.drop (Int.toNat 0) r.key) = r.key.take 70 := by
  rw [show (min (r.key.length : Int) 70).toNat - Int.toNat 0 = min 70 r.key.length by simp; omega, show List.drop (Int.toNat 0) r.key = r.key from rfl, ← List.take_take, List.take_length]
 have e2 : List.take ((min (r.val.length : Int) 1030).toNat - Int.toNat 0) (List.drop (Int.toNat 0) r.val) = r.val.take 1030 := by
  rw [show (min (r.val.length : Int) 1030).toNat - Int.toNat 0 = min 1030 r.val.length by simp; omega, show List.drop (Int.toNat 0) r.val = r.val from rfl, ← List.take_take, List.take_length]
 refine ACall.fin ?_
 refine ACall.walk (C := cfg 20 0) (cfgOk _ _) sch117 (fn := Go.Proofs.Tryz.f117) (by kernel_rfl) (by kernel_rfl) rfl (by kernel_rfl) (by kernel_rfl) rfl rfl ?_
 refine goA ?_
 rw [e1, e2]
 refine goA ?_
 refine ⟨_, _, Ent.mk' (e' := [(0, recA r.cut)]) (H' := ⟨0, []⟩) [] (by kernel_rfl) ?_ ?_, (), rfl, rfl⟩
 ·exact ⟨AVE.refl _, trivial⟩
 ·trivial
theorem cut_B (r : Rec) : r.cut.B := ⟨Nat.le_trans (List.length_take_le ..) (by decide), Nat.le_trans (List.length_take_le ..) (by decide)⟩
def numTo (cap : Nat) (l : List Rec) (i : Nat) : List Rec := (l.take i).foldl (numStep cap) []
theorem numTo_succ {cap : Nat} {l : List Rec} {i : Nat} (h : i < l.length) : numTo cap l (i + 1) = numStep cap (numTo cap l i) (l.getD i default) := by
 unfold numTo
 rw [List.take_succ_eq_append_getElem h, List.foldl_append]
 simp [List.getD, h]
theorem numTo_all (cap : Nat) (l : List Rec) : numTo cap l l.length = numb cap l := by
 unfold numTo numb
 rw [List.take_length]
theorem numTo_ok (cap : Nat) (l : List Rec) (i : Nat) : Numd (numTo cap l i) ∧ (numTo cap l i).length ≤ cap := numb_ok _ _ Numd.nil (Nat.zero_le _)
set_option maxHeartbeats 4000000 in
theorem numbered_ok (l : List Rec) (hl : l.length ≤ 9223372036854775807) (hB : ∀ r ∈ l, r.W) : AFn Go.Proofs.Tryz.prog 54 [recsA l] ⟨0, []⟩ (fun _ : Unit => recsA (numb 30 l)) (fun _ => ⟨0, []⟩) := by
 refine ACall.fin ?_
 refine ACall.walk (C := cfg 32 0) (cfgOk _ _) [] (fn := Go.Proofs.Tryz.f54) (by kernel_rfl) (by kernel_rfl) rfl (by kernel_rfl) (by kernel_rfl) rfl rfl ?_
 refine goA ?_
 refine AWP.loop (X := { i : Nat // i ≤ l.length }) (fun x => [(3, .row 0 6 0 (numTo 30 l x.1).length), (6, recsA l), (7, AV.int .i64 l.length), (8, AV.int .i64 x.1)]) (fun x => ⟨1, [(0, .rowc 50 6 (numTo 30 l x.1).length (recF (numTo 30 l x.1)))]⟩) (fun x => l.length - x.1) (⟨0, Nat.zero_le _⟩) ?_ fun x => AWP.go (S := []) (cfgOk _ _) (.of_eq (by kernel_rfl)) ?_
 ·refine (HEnt.ent (HEnt.addNil 50 6 (recF []))).trans ?_
  exact Ent.mk' [some 0] (by kernel_rfl) ⟨AVE.nil _ _, AVE.refl _, AVE.refl _, AVE.refl _, trivial⟩ subC
 ·obtain ⟨i, hi⟩ := x
  dsimp only
  obtain ⟨_, hle⟩ := numTo_ok 30 l i
  refine goA ?_
  refine ifdA (fun h => ?_) (fun h => ?_) <;> (try dsimp only at h)
  ·have hlt : i < l.length := by omega
   have hs := numTo_succ (cap := 30) hlt
   have hrB : (l.getD i default).W := hB _ (by simp [List.getD, hlt])
   have hg : l.getD ((i : Nat) : Int).toNat default = l.getD i default := rfl
   generalize numTo 30 l i = out at *
   generalize l.getD i default = r at *
   refine goA ?_
   rw [hg]
   refine AFn.useA [] (lawCut_ok r hrB) fun _ => ?_
   refine goA ?_
   refine AFn.useA [] (recMay_ok { r.cut with seq := out.length + 1 } (cut_B r)) fun _ => ?_
   unfold numStep at hs
   by_cases h1 : Rec.May { r.cut with seq := out.length + 1 }
   ·rw [decide_eq_true h1]
    refine goA ?_
    refine ifdA (fun q => ?_) (fun q => ?_) <;> (try dsimp only at q)
    ·rw [if_pos ⟨h1, by omega⟩] at hs
     refine goA ?_
     refine ⟨⟨i + 1, by omega⟩, ?_, by show l.length - (i + 1) < l.length - i; omega⟩
     dsimp only
     rw [hs]
     exact Ent.mk' [some 3] (by kernel_rfl) ⟨AVE.len (by simp), AVE.refl _, AVE.refl _, AVE.int (by simp), trivial⟩ ⟨⟨_, rfl, rec_push rfl⟩, trivial⟩
    ·rw [if_neg (by rintro ⟨_, g⟩; omega)] at hs
     refine goA ?_
     refine ⟨⟨i + 1, by omega⟩, ?_, by show l.length - (i + 1) < l.length - i; omega⟩
     dsimp only
     rw [hs]
     exact Ent.mkA [some 0]
   ·rw [decide_eq_false h1]
    rw [if_neg (fun g => h1 g.1)] at hs
    refine goA ?_
    refine ⟨⟨i + 1, by omega⟩, ?_, by show l.length - (i + 1) < l.length - i; omega⟩
    dsimp only
    rw [hs]
    exact Ent.mkA [some 0]
  ·have : i = l.length := by omega
   subst this
   rw [numTo_all]
   generalize numb 30 l = out
   refine goA ?_
   exact ⟨_, _, (Ent.freeze 0 _ rfl rfl (e' := [(0, recsA out)]) ⟨AVF.sl (Nat.le_refl _), trivial⟩).trans (Ent.mk' (e' := [(0, recsA out)]) (H' := ⟨0, []⟩) [] (by kernel_rfl) ⟨AVE.refl _, trivial⟩ trivial), (), rfl, rfl⟩
end Go.Proofs.YtgfkepebfaiepaaGreatDoor.Ax

namespace Go.Proofs.YtgfkepebfaiepaaGreatDoor.Ax
open Go.RowKit
set_option maxRecDepth 100000
theorem FI.app_now (f : FI) (c : List UInt8) : (f.app c).now = f.now ++ c := by
 unfold FI.app
 split
 ·rename_i e
  rw [e, List.append_nil]
 ·show f.now ++ c.take c.length = _
  rw [List.take_length]
structure SegSt (Q s t id : Nat) (b : Option (List UInt8)) (l : List Rec) (v : VM) : Prop where
 ok : v.Ok (s + l.length) (t + 1113 * l.length) (s + l.length)
 up : v.Up Q
 has : ∃ f, v.Has (segName id) f ∧ (∀ x, b = some x → f.Adds x) ∧ f.now = segBytes id l
def fst (l : List Rec) : Nat := if l = [] then 0 else 1
def segG (id : Nat) (l : List Rec) (sf : Nat) : SG := ⟨⟨id, offAt l l.length, l.length, fst l, l.length⟩, sf⟩
theorem cr_ok {Q : Nat} (h0 : 16 ≤ Q) (hQ : Q ≤ 1073741824) {id : Nat} (hi : IsId id) : (∀ i, i < 4 → (VM.new Q).crE (segName id) (headB 1 id) i = 0) ∧ SegSt Q 16 16 id (some (headB 1 id)) [] ((VM.new Q).cr (segName id) (headB 1 id) 4) := by
 have hN : (VM.new Q).Ok 0 0 0 := .new (by omega) _ _ _
 have hl := headB_len 1 id
 have hUp : (VM.new (Q : Int)).Up Q := ⟨rfl, rfl, rfl⟩
 obtain ⟨h1, h2, h3, h4, h5, h6, _, _⟩ := made_file hN hUp (x := segName id) (segName_may hi) rfl (Nat.succ_pos 255) (b := headB 1 id) (by rw [hl]; omega)
 refine ⟨fun i hi => ?_, ⟨?_, h6, ⟨headB 1 id, headB 1 id, []⟩, h5, (fun x hx => by injection hx with hx; subst hx; exact ⟨rfl, fun d hd => by cases hd⟩), ?_⟩⟩
 ·have : i = 0 ∨ i = 1 ∨ i = 2 ∨ i = 3 := by omega
  rcases this with rfl | rfl | rfl | rfl
  ·exact h1
  ·exact h2
  ·exact h3
  ·exact h4
 ·exact (hN.cr (segName id) (headB 1 id) 4).more (by simp) (by rw [hl]; simp) (by simp)
 ·show headB 1 id = headB 1 id ++ encs []
  simp [encs]
theorem offAt_le {l : List Rec} (h : Numd l) (i : Nat) : 16 ≤ offAt l i ∧ offAt l i ≤ 16 + 1113 * l.length := by
 refine ⟨Nat.le_add_right _ _, ?_⟩
 have h1 := encs_le (l := l.take i) fun r hr => h.may r (List.mem_of_mem_take hr)
 have h2 : (l.take i).length ≤ l.length := by rw [List.length_take]; exact Nat.min_le_right ..
 unfold offAt
 have := Nat.mul_le_mul_left 1113 h2
 omega
theorem Numd.last {l : List Rec} {r : Rec} (h : Numd (l ++ [r])) : r.May ∧ r.seq = l.length + 1 := by
 refine ⟨h.may r (by simp), ?_⟩
 have := h.seq l.length (by simp)
 simpa [List.getD] using this
theorem Numd.init {l : List Rec} {r : Rec} (h : Numd (l ++ [r])) : Numd l := by
 have := h.take l.length
 simpa using this
theorem SegSt.append {Q s t id : Nat} {b : Option (List UInt8)} {l : List Rec} {v : VM} (h : SegSt Q s t id b l v) {r : Rec} (hn : Numd (l ++ [r])) (hl : l.length ≤ 40) (hQ : (s + l.length) * (t + 1113 * l.length) + r.size ≤ Q) (sf : Nat) :
 (segG id l sf).appE v r = 0 ∧ (segG id l sf).appG v r = segG id (l ++ [r]) sf ∧ (segG id l sf).appL v r = locA id (offAt l l.length) ∧ (segG id l sf).appV v r = v.append (segName id) r.enc ∧ SegSt Q s t id b (l ++ [r]) (v.append (segName id) r.enc) := by
 obtain ⟨hm, hs⟩ := hn.last
 have hsz := May.size hm
 have hel := enc_len r
 obtain ⟨f, hf, ha, hnow⟩ := h.has
 have ho := offAt_le hn.init l.length
 have hb : (segG id l sf).badE r = 0 := by
  unfold SG.badE
  rw [if_neg, if_neg]
  ·show ¬ 16777216 - (offAt l l.length : Int) < (r.size : Int)
   omega
  ·rintro (g | g)
   ·exact g hm
   ·have g : r.seq ≤ l.length := g
    omega
 obtain ⟨a1, a2, a3, a4, _⟩ := hf.append h.ok h.up (c := r.enc) (by omega)
 have e0 : (segG id l sf).appE v r = 0 := by
  unfold SG.appE
  rw [if_neg (by rw [hb]; decide)]
  exact a1
 refine ⟨e0, ?_, if_pos e0, ?_, ⟨?_, a3, f.app r.enc, a2, (fun x hx => (ha x hx).app.1), ?_⟩⟩
 ·unfold SG.appG
  rw [if_pos e0]
  unfold SG.more segG
  have q1 : offAt (l ++ [r]) (l ++ [r]).length = offAt l l.length + r.size := by
   rw [List.length_append]
   exact offAt_snoc l r
  have q2 : fst (l ++ [r]) = 1 := if_neg (by simp)
  have q3 : (if l.length = 0 then r.seq else fst l) = 1 := by
   unfold fst
   by_cases e : l = []
   ·subst e
    simpa using hs
   ·rw [if_neg (by simpa using e), if_neg e]
  show SG.mk ⟨id, offAt l l.length + r.size, l.length + 1, if l.length = 0 then r.seq else fst l, r.seq⟩ sf = SG.mk ⟨id, offAt (l ++ [r]) (l ++ [r]).length, (l ++ [r]).length, fst (l ++ [r]), (l ++ [r]).length⟩ sf
  rw [q3, q2, q1, hs, List.length_append]
  rfl
 ·unfold SG.appV
  rw [if_neg (by rw [hb]; decide)]
  rfl
 ·refine (h.ok.append (segName id) r.enc).more ?_ ?_ ?_ <;> simp <;> omega
 ·rw [FI.app_now, hnow]
  unfold segBytes
  rw [encs_append, List.append_assoc]
  simp [encs]
theorem SegSt.appended {Q s t id : Nat} {b : Option (List UInt8)} {l : List Rec} {v : VM} (h : SegSt Q s t id b l v) {r : Rec} (hn : Numd (l ++ [r])) (hl : l.length ≤ 40) (hs : s ≤ 100) (ht : t ≤ 100000) (hi : IsId id) (hr : r.B) (hQ : (s + l.length) * (t + 1113 * l.length) + r.size ≤ Q) (sf : Nat) :
 AFn Go.Proofs.Tryz.prog 62 [.ptr 1 0, recA r] (sgH (segG id l sf) v) (fun _ : Unit => .tup [locA id (offAt l l.length), AV.int .i64 0]) (fun _ => sgH (segG id (l ++ [r]) sf) (v.append (segName id) r.enc)) := by
 obtain ⟨h1, h2, h3, h4, h5⟩ := h.append hn hl hQ sf
 have ho := offAt_le hn.init l.length
 have := segApp_ok h.ok (by omega) (by omega) (by omega) (segG id l sf) r hr (show id < 4294967296 by unfold IsId at hi; omega) (show offAt l l.length ≤ 16777216 by omega) (show l.length < 4294967295 by omega)
 rw [h1, h2, h3, h4] at this
 exact this
theorem May.B {r : Rec} (h : r.May) : r.B := by
 obtain ⟨_, _, h1, h2, _⟩ := h
 exact ⟨by omega, by omega⟩
theorem SegSt.read {Q s t id : Nat} {b : Option (List UInt8)} {l : List Rec} {v : VM} (h : SegSt Q s t id b l v) (hn : Numd l) (sf : Nat) {i : Nat} (hi : i < l.length) : (segG id l sf).read v id (offAt l i) = (l.getD i default, 0) := by
 obtain ⟨f, hf, ha, hnow⟩ := h.has
 have hm := hn.getMay hi
 have hsz := May.size hm
 have h1 := offAt_succ hi
 have h2 := offAt_mono (l := l) (show i + 1 ≤ l.length by omega)
 have h3 : (segBytes id l).length = offAt l l.length := segBytes_len id l
 have h4 := offAt_le hn i
 have hp : 25 ≤ (l.getD i default).size := by unfold Rec.size; omega
 unfold SG.read
 rw [if_neg (by rintro (g | g | g); exact g rfl; omega; have g : offAt l l.length ≤ offAt l i := g; omega)]
 show SG.rd v (segName id) (offAt l i) (min 1113 (offAt l l.length - offAt l i)) = _
 have e1 : v.readE (segName id) (offAt l i : Int) (min 1113 (offAt l l.length - offAt l i) : Nat) = 0 := by
  rw [hf.readE h.up.off]
  unfold FI.readE
  rw [hnow, h3, if_neg (by omega), if_neg (by omega)]
 have e2 : v.read (segName id) (offAt l i : Int) (min 1113 (offAt l l.length - offAt l i) : Nat) = ((segBytes id l).drop (offAt l i)).take (min 1113 (offAt l l.length - offAt l i)) := by
  rw [hf.read h.up.off]
  have e1' : f.readE (offAt l i : Int) (min 1113 (offAt l l.length - offAt l i) : Nat) = 0 := by rw [← hf.readE h.up.off]; exact e1
  unfold FI.read
  rw [if_pos e1', hnow]
  rfl
 unfold SG.rd
 rw [if_pos e1, e2, seg_read hi hm (by omega)]
 rfl
end Go.Proofs.YtgfkepebfaiepaaGreatDoor.Ax

namespace Go.Proofs.YtgfkepebfaiepaaGreatDoor.Ax
open Go.RowKit
set_option maxRecDepth 100000
noncomputable def cfgWk (N b : Nat) : Cfg := { P := Go.Proofs.Tryz.prog, T := tt, wr := false, N := N, pure := [], base := b, frz := fun op => match op with | .convert .. => true | _ => false }
theorem cfgWkOk (N b : Nat) : (cfgWk N b).Ok := ⟨ttOk, ttBytes, by kernel_rfl⟩
theorem isId (n : Nat) (h : 1 ≤ n ∧ n ≤ 16777215) : IsId n := h
def wkR : Rec := ⟨1, 1, [97, 98, 99], [], 0, 0⟩
theorem wkN : Numd ([] ++ [wkR]) := Numd.nil.snoc ⟨.inl rfl, ⟨by decide, by decide⟩, ⟨by decide, by decide⟩, by decide, .inl ⟨rfl, rfl⟩⟩ rfl
theorem wakes_ok : AFn Go.Proofs.Tryz.prog 15 [] ⟨0, []⟩ (fun _ : Unit => AV.bool true) (fun _ => ⟨0, []⟩) := by
 have a1 := segId_some [115, 101, 103, 45, 48, 48, 48, 48, 102, 102] rfl (n := 255) (by decide +kernel)
 have a2 := segId_some [115, 101, 103, 45, 48, 48, 48, 48, 70, 70] rfl (n := 255) (by decide +kernel)
 rw [show idP [115, 101, 103, 45, 48, 48, 48, 48, 102, 102] = (255, true) by decide +kernel] at a1
 rw [show idP [115, 101, 103, 45, 48, 48, 48, 48, 70, 70] = (0, false) by decide +kernel] at a2
 obtain ⟨c1, c2⟩ := cr_ok (Q := 1000) (by decide) (by decide) (id := 1) (isId 1 (by decide))
 have c3 := segCreate_ok (v := VM.new 1000) (.new (by decide) 0 0 0) (by decide) (by decide) (by decide) 1 (isId 1 (by decide)) c1
 have c4 := c2.appended wkN (by decide) (by decide) (by decide) (isId 1 (by decide)) (May.B wkN.last.1) (by decide) 0
 have c5 := segSeal_ok (segG 1 ([] ++ [wkR]) 0) (VM.append (segName 1) wkR.enc ((VM.new 1000).cr (segName 1) (headB 1 1) 4))
 have n1 := segName_ok 1 (by decide)
 have n2 := segName_ok 255 (by decide)
 rw [show segName 1 = [115, 101, 103, 45, 48, 48, 48, 48, 48, 49] by decide +kernel] at n1
 rw [show segName 255 = [115, 101, 103, 45, 48, 48, 48, 48, 102, 102] by decide +kernel] at n2
 rw [show segG 1 [] 0 = ⟨⟨1, 16, 0, 0, 0⟩, 0⟩ by kernel_rfl, show locA 1 (offAt [] ([] : List Rec).length) = locA 1 16 by kernel_rfl, show segG 1 ([] ++ [wkR]) 0 = ⟨⟨1, 44, 1, 1, 1⟩, 0⟩ by kernel_rfl] at c4
 rw [show segG 1 ([] ++ [wkR]) 0 = ⟨⟨1, 44, 1, 1, 1⟩, 0⟩ by kernel_rfl] at c5
 refine ACall.fin ?_
 refine ACall.walk (C := cfgWk 72 0) (cfgWkOk _ _) [] (fn := Go.Proofs.Tryz.f15) (by kernel_rfl) (by kernel_rfl) rfl (by kernel_rfl) (by kernel_rfl) rfl rfl ?_
 refine goA ?_
 refine AFn.useA [] (a1) fun _ => ?_
 refine goA ?_
 refine AFn.useA [] (a2) fun _ => ?_
 refine goA ?_
 refine AFn.useA [] (new_fs 1000 (by decide)) fun _ => ?_
 refine goA ?_
 refine AFn.useA [0] (c3) fun _ => ?_
 refine goA ?_
 refine ACall.argsE [.ptr 1 0, recA wkR] ⟨AVE.refl _, AVE.aggE ⟨AVE.refl _, AVE.refl _, AVE.refl _, AVE.nilBs, AVE.refl _, AVE.refl _, rfl⟩, rfl⟩ ?_
 refine AFn.useA [0, 1] (c4) fun _ => ?_
 refine goA ?_
 refine AFn.useA [] (n1) fun _ => ?_
 refine goA ?_
 refine AFn.useA [] (n2) fun _ => ?_
 refine goA ?_
 refine AFn.useA [0, 1] (c5) fun _ => ?_
 refine goA ?_
 refine ⟨_, _, Ent.mk' (e' := [(0, AV.bool true)]) (H' := ⟨0, []⟩) [] (by kernel_rfl) ?_ ?_, (), rfl, rfl⟩
 ·exact ⟨AVE.refl _, trivial⟩
 ·trivial
def locF (id : Nat) (l : List Rec) (i : Nat) : List IV := [u32I id, u32I (offAt l i)]
theorem loc_push {e id i : Nat} {l : List Rec} {g : Nat → List IV} (hg : g 0 = locF id l i) : ChE (.rowc e 2 (i + 1) fun j => if j < i then locF id l j else g (j - i)) (.rowc e 2 (i + 1) (locF id l)) := by
 refine ChE.row (Nat.le_refl _) fun j hj => ?_
 by_cases h : j < i
 ·simp only [if_pos h]
 ·have : j = i := by omega
  subst this
  simp only [if_neg h, Nat.sub_self]
  exact hg
def laidV (id : Nat) (l : List Rec) : VM := l.foldl (fun v r => v.append (segName id) r.enc) ((VM.new 1073741824).cr (segName id) (headB 1 id) 4)
theorem take_snoc {l : List Rec} {i : Nat} (h : i < l.length) : l.take (i + 1) = l.take i ++ [l.getD i default] := by
 rw [List.take_succ_eq_append_getElem h]
 simp [List.getD, h]
theorem laidV_succ {id : Nat} {l : List Rec} {i : Nat} (h : i < l.length) : laidV id (l.take (i + 1)) = (laidV id (l.take i)).append (segName id) (l.getD i default).enc := by
 unfold laidV
 rw [take_snoc h, List.foldl_append]
 rfl
theorem laid_st {id : Nat} (hi : IsId id) {l : List Rec} (hn : Numd l) (hl : l.length ≤ 40) : ∀ i, i ≤ l.length → SegSt 1073741824 16 16 id (some (headB 1 id)) (l.take i) (laidV id (l.take i))
 | 0, _ => (cr_ok (Q := 1073741824) (by decide) (by decide) hi).2
 | i + 1, h => by
   have ih := laid_st hi hn hl i (by omega)
   have e := take_snoc (l := l) (i := i) (by omega)
   have hn2 := hn.take (i + 1)
   have hlen : (l.take i).length ≤ 40 := by simp; omega
   rw [laidV_succ (by omega)]
   rw [e] at hn2 ⊢
   have hsz := May.size hn2.last.1
   refine (ih.append hn2 hlen ?_ 0).2.2.2.2
   have h1 : (16 + (l.take i).length) * (16 + 1113 * (l.take i).length) ≤ 56 * (16 + 1113 * 40) := Nat.mul_le_mul (by omega) (by omega)
   omega
@[reducible] def laidH (id : Nat) (l : List Rec) (i : Nat) : AH := ⟨3, [(0, .sem (fsV (laidV id (l.take i)))), (1, .cells 192 (sgC 0 (segG id (l.take i) 0))), (2, .rowc 48 2 i (locF id l))]⟩
theorem laidR_ok (id : Nat) (hi : IsId id) (l : List Rec) (hn : Numd l) (hl : l.length ≤ 40) : AFn Go.Proofs.Tryz.prog 55 [.ptr 0 0, AV.int .u32 id, recsA l] (fone (VM.new 1073741824)) (fun _ : Unit => .tup [.ptr 1 0, .row 2 2 0 l.length]) (fun _ => laidH id l l.length) := by
 obtain ⟨c1, c2⟩ := cr_ok (Q := 1073741824) (by decide) (by decide) hi
 have c3 := segCreate_ok (v := VM.new 1073741824) (.new (by decide) 0 0 0) (by decide) (by decide) (by decide) id hi c1
 refine ACall.fin ?_
 refine ACall.walk (C := cfg 44 1) (cfgOk _ _) [] (fn := Go.Proofs.Tryz.f55) (by kernel_rfl) (by kernel_rfl) rfl (by kernel_rfl) (by kernel_rfl) rfl rfl ?_
 refine goA ?_
 refine AFn.useA [0] (c3) fun _ => ?_
 refine goA ?_
 refine AWP.loop (X := { i : Nat // i ≤ l.length }) (fun x => [(8, .ptr 1 0), (10, .row 2 2 0 x.1), (23, recsA l), (24, AV.int .i64 l.length), (25, AV.int .i64 x.1)]) (fun x => laidH id l x.1) (fun x => l.length - x.1) (⟨0, Nat.zero_le _⟩) ?_ fun x => AWP.go (S := []) (cfgOk _ _) (.of_eq (by kernel_rfl)) ?_
 ·refine (HEnt.ent (HEnt.addNil 48 2 (locF id l))).trans ?_
  exact Ent.mk' [some 0, some 1, some 2] (by kernel_rfl) ⟨AVE.refl _, AVE.nil _ _, AVE.refl _, AVE.refl _, AVE.refl _, trivial⟩ subC
 ·obtain ⟨i, hle⟩ := x
  dsimp only
  refine goA ?_
  refine ifdA (fun h => ?_) (fun h => ?_) <;> (try dsimp only at h)
  ·have hlt : i < l.length := by omega
   have e := take_snoc hlt
   have hn2 := hn.take (i + 1)
   rw [e] at hn2
   have hm := hn2.last.1
   have hlen : (l.take i).length = i := by simp; omega
   have hS := laid_st hi hn hl i hle
   have hA := hS.appended hn2 (by omega) (by decide) (by decide) hi (May.B hm) (by have := May.size hm; have h1 : (16 + (l.take i).length) * (16 + 1113 * (l.take i).length) ≤ 56 * (16 + 1113 * 40) := Nat.mul_le_mul (by omega) (by omega); omega) 0
   rw [← e, ← laidV_succ hlt, hlen, offAt_take (Nat.le_refl _)] at hA
   have hg : l.getD ((i : Nat) : Int).toNat default = l.getD i default := rfl
   refine goA ?_
   rw [hg]
   generalize hr : l.getD i default = r at *
   refine AFn.useA [0, 1] (hA) fun _ => ?_
   refine goA ?_
   refine ⟨⟨i + 1, by omega⟩, ?_, by show l.length - (i + 1) < l.length - i; omega⟩
   exact Ent.mk' [some 0, some 1, some 6] (by kernel_rfl) ⟨AVE.refl _, AVE.refl _, AVE.refl _, AVE.refl _, AVE.int (by simp), trivial⟩ ⟨⟨_, rfl, ChE.refl _⟩, ⟨_, rfl, ChE.refl _⟩, ⟨_, rfl, loc_push rfl⟩, trivial⟩
  ·have : i = l.length := by omega
   subst this
   refine goA ?_
   refine ⟨_, _, Ent.mk' (e' := [(0, .tup [.ptr 1 0, .row 2 2 0 l.length])]) (H' := laidH id l l.length) [some 0, some 1, some 2] (by kernel_rfl) ?_ ?_, (), rfl, rfl⟩
   ·exact ⟨AVE.refl _, trivial⟩
   ·exact subC
end Go.Proofs.YtgfkepebfaiepaaGreatDoor.Ax

namespace Go.Proofs.YtgfkepebfaiepaaGreatDoor.Ax
open Go.RowKit
set_option maxRecDepth 100000
def segS (l : List Rec) : SC := ⟨fnds 16 l, [], offAt l l.length, 0⟩
theorem scan_seg {id : Nat} (hi : IsId id) {l : List Rec} (hn : Numd l) (hl : l.length ≤ 40) : scanB id (segBytes id l) = segS l := by
 have h1 := offAt_le hn l.length
 have e : offAt l l.length = 16 + (encs l).length := by unfold offAt; rw [List.take_length]
 have h2 := scanB_encs (n := id) (.inr ⟨rfl, hi⟩) hn.asc (by omega)
 unfold segBytes segS
 rw [h2, e]
theorem segS_seal {id : Nat} {l : List Rec} (hn : Numd l) (sf : Nat) : (segS l).slOf id = (segG id l sf).s := by
 unfold SC.slOf segG
 have h1 : (segS l).first = fst l := by
  unfold SC.first fst
  cases l with
  | nil => rfl
  | cons r t =>
    rw [if_neg (by simp [segS, fnds]), if_neg (by simp)]
    have := @fnds_get 16 (r :: t) 16 0 (by simp)
    show ((fnds 16 (r :: t)).getD 0 default).r.seq = 1
    rw [this]
    exact hn.seq 0 (by simp)
 have h2 : (segS l).last = l.length := by
  unfold SC.last
  have hlen : (segS l).found.length = l.length := fnds_len l 16
  rw [hlen]
  by_cases h : l = []
  ·subst h
   rfl
  ·have hp : 0 < l.length := List.length_pos_iff.2 h
   have := @fnds_get 16 l 16 (l.length - 1) (by omega)
   show ((fnds 16 l).getD (l.length - 1) default).r.seq = l.length
   rw [this]
   have := hn.seq (l.length - 1) (by omega)
   show (l.getD (l.length - 1) default).seq = l.length
   omega
 rw [h1, h2]
 have h3 : (segS l).found.length + (segS l).passed.length = l.length := by
  show (fnds 16 l).length + 0 = l.length
  rw [fnds_len, Nat.add_zero]
 rw [h3]
 rfl
theorem segS_get {l : List Rec} {i : Nat} (h : i < l.length) : (segS l).found.getD i default = ⟨offAt l i, (l.getD i default).size, l.getD i default⟩ := @fnds_get 16 l 16 i h
theorem SegSt.loaded {Q s t id : Nat} {b : Option (List UInt8)} {l : List Rec} {v : VM} (h : SegSt Q s t id b l v) (hi : IsId id) (hn : Numd l) (hl : l.length ≤ 40) (_hs : s ≤ 100) (ht : t ≤ 100000) : AFn Go.Proofs.Tryz.prog 51 [.ptr 0 0, AV.int .u32 id] (fone v) (fun _ : Unit => .tup [scA id (segS l), AV.int .i64 0]) (fun _ => fone v) := by
 obtain ⟨f, hf, _, hnow⟩ := h.has
 have h1 := offAt_le hn l.length
 have e : (v.file (segName id)).now = segBytes id l := by rw [hf.file, hnow]
 have := segLoad_ok h.ok (by omega) id hi (hf.opens h.up.off) (by rw [e, segBytes_len]; omega)
 rw [e, scan_seg hi hn hl] at this
 exact this
def sch8 : List (Nat × Sched) := [(10, .take 0 (.take 1 (.take 2 (.take 3 (.take 4 (.take 5 (.take 6 (.take 7 (.take 8 (.take 9 (.take 10 (.take 11 (.take 12 (.take 13 (.take 14 (.take 15 (.take 16 (.take 17 (.take 18 (.take 19 (.take 20 (.take 21 (.take 22 (.take 23 (.take 24 (.take 25 (.take 26 (.take 28 (.take 27 (.take 29 (.take 30 (.take 31 (.take 32 (.take 33 (.take 34 (.take 35 (.take 36 (.take 37 (.take 38 (.take 39 (.take 40 (.done)))))))))))))))))))))))))))))))))))))))))), (17, .take 0 (.take 1 (.take 2 (.take 3 (.take 4 (.take 5 (.take 6 (.take 7 (.take 8 (.take 9 (.take 10 (.take 11 (.take 12 (.take 13 (.take 14 (.take 15 (.take 16 (.take 17 (.take 18 (.take 19 (.take 20 (.take 21 (.take 22 (.take 23 (.take 24 (.take 25 (.take 26 (.take 27 (.take 28 (.take 29 (.take 30 (.take 31 (.take 32 (.take 33 (.take 34 (.take 35 (.take 36 (.take 37 (.take 38 (.take 39 (.take 40 (.take 41 (.done)))))))))))))))))))))))))))))))))))))))))))]
end Go.Proofs.YtgfkepebfaiepaaGreatDoor.Ax

namespace Go.Proofs.YtgfkepebfaiepaaGreatDoor.Ax
open Go.RowKit
set_option maxRecDepth 100000
theorem ACall.freezeR {P : Program} {F : FuncId} {args : List AV} {H : AH} {K QP : AV → AH → Prop} (h : Nat) {e sz n : Nat} {f : Nat → List IV} (hc : H.get h = some (.rowc e sz n f)) (args0 : List AV) (ha : argsF h (.rowc e sz n f) args args0) (hcall : ACall P F args0 (H.del h) K QP) : ACall P F args H K QP :=
 ⟨hcall.fn, fun ρ ι w cargs hG hS hr => by
  obtain ⟨ι', q1, q2, q3, q4⟩ := hS.lend hc
  refine (hcall.run ρ ι' w cargs (hG.mono q1) q2 (argsF_run q1 q4 ha hr)).mono fun en w' hp => ?_
  cases en with
  | returned v => obtain ⟨r, H', ρ', ι2, k, g1, g2, g3⟩ := hp; exact ⟨r, H', ρ', ι2, k, g1, g2, q3.trans g3⟩
  | panicked ch => obtain ⟨v, e, r, H', ρ', ι2, k, g1, g2, g3⟩ := hp; exact ⟨v, e, r, H', ρ', ι2, k, g1, g2, q3.trans g3⟩
  | outgrown => exact hp⟩
theorem take_encs : ∀ (R : List Rec) (K : Nat), ∃ m k, m ≤ R.length ∧ (encs R).take K = encs (R.take m) ++ (R.getD m default).enc.take k ∧ (k = 0 ∨ (m < R.length ∧ k < (R.getD m default).size))
 | [], K => ⟨0, 0, Nat.le_refl _, by simp [encs], .inl rfl⟩
 | r :: t, K => by
   by_cases h : K < r.size
   ·refine ⟨0, K, Nat.zero_le _, ?_, .inr ⟨by simp, h⟩⟩
    show (r.enc ++ encs t).take K = [] ++ r.enc.take K
    rw [List.take_append_of_le_length (by rw [enc_len]; omega), List.nil_append]
   ·obtain ⟨m, k, h1, h2, h3⟩ := take_encs t (K - r.size)
    refine ⟨m + 1, k, by simpa using h1, ?_, ?_⟩
    ·show (r.enc ++ encs t).take K = r.enc ++ encs (t.take m) ++ (t.getD m default).enc.take k
     rw [List.append_assoc, ← h2, List.take_append, List.take_of_length_le (by rw [enc_len]; omega), enc_len]
    ·rcases h3 with h3 | ⟨h3, h4⟩
     ·exact .inl h3
     ·exact .inr ⟨by simpa using h3, h4⟩
theorem crash_scan {id : Nat} (hi : IsId id) {L : List Rec} (hN : Numd L) (hl : L.length ≤ 40) {n : Nat} (hn : n ≤ L.length) (K : Nat) : ∃ m why, n ≤ m ∧ m ≤ L.length ∧ (why = 0 ∨ why = 22) ∧
 scanB id (segBytes id (L.take n) ++ (encs (L.drop n)).take K) = ⟨fnds 16 (L.take m), [], offAt L m, why⟩ ∧ (segBytes id (L.take n) ++ (encs (L.drop n)).take K).take (offAt L m) = segBytes id (L.take m) ∧ offAt L m ≤ (segBytes id (L.take n) ++ (encs (L.drop n)).take K).length := by
 obtain ⟨j, k, h1, h2, h3⟩ := take_encs (L.drop n) K
 have hj : j ≤ L.length - n := by simpa using h1
 have hsplit : L.take (n + j) = L.take n ++ (L.drop n).take j := by rw [List.take_add]
 have hM := hN.take (n + j)
 have ho : offAt L (n + j) = 16 + (encs (L.take (n + j))).length := rfl
 have hle := (offAt_le hN (n + j)).2
 have hb : segBytes id (L.take n) ++ (encs (L.drop n)).take K = headB 1 id ++ (encs (L.take (n + j)) ++ ((L.drop n).getD j default).enc.take k) := by
  rw [h2, hsplit, encs_append]
  unfold segBytes
  simp only [List.append_assoc]
 have hlen : (headB 1 id).length = 16 := headB_len 1 id
 have htake : (headB 1 id ++ (encs (L.take (n + j)) ++ ((L.drop n).getD j default).enc.take k)).take (offAt L (n + j)) = segBytes id (L.take (n + j)) := by
  rw [← List.append_assoc]
  refine List.take_left' ?_
  rw [List.length_append, hlen]
  exact ho.symm
 have hge : offAt L (n + j) ≤ (headB 1 id ++ (encs (L.take (n + j)) ++ ((L.drop n).getD j default).enc.take k)).length := by
  rw [List.length_append, List.length_append, hlen, ho]
  omega
 rw [hb]
 have hm : HMay 1 id := .inr ⟨rfl, hi⟩
 by_cases hk : k = 0
 ·subst hk
  refine ⟨n + j, 0, by omega, by omega, .inl rfl, ?_, htake, hge⟩
  have := scanB_encs hm hM.asc (by omega)
  rw [List.take_zero, List.append_nil]
  exact this
 ·obtain ⟨g1, g2⟩ : j < (L.drop n).length ∧ k < ((L.drop n).getD j default).size := by
   rcases h3 with h3 | h3
   ·exact absurd h3 hk
   ·exact h3
  have g1' : n + j < L.length := by simp at g1; omega
  have hr : ((L.drop n).getD j default).May := by
   have := hN.getMay g1'
   rwa [show (L.drop n).getD j default = L.getD (n + j) default by simp [List.getD]]
  refine ⟨n + j, 22, by omega, by omega, .inr rfl, ?_, htake, hge⟩
  exact scanB_torn hm hM.asc hr (by omega) g2 (by omega)
theorem SegSt.sync {Q s t id : Nat} {b : Option (List UInt8)} {l : List Rec} {v : VM} (h : SegSt Q s t id b l v) : v.syncE (segName id) = 0 ∧ SegSt Q (s + 1) t id (some (segBytes id l)) l (v.sync (segName id)) := by
 obtain ⟨f, hf, _, hnow⟩ := h.has
 obtain ⟨a1, a2, a3, _, _⟩ := hf.sync h.ok h.up
 refine ⟨a1, ⟨(h.ok.sync (segName id)).more (by omega) (by omega) (by omega), a3, ⟨f.now, f.now, []⟩, a2, fun x hx => ?_, hnow⟩⟩
 injection hx with hx
 rw [← hx, ← hnow]
 exact ⟨rfl, fun d hd => by cases hd⟩
theorem SegSt.synced {Q s t id : Nat} {b : Option (List UInt8)} {l : List Rec} {v : VM} (h : SegSt Q s t id b l v) (hi : IsId id) (hl : l.length ≤ 40) (hs : s ≤ 100) (ht : t ≤ 100000) (sf : Nat) : AFn Go.Proofs.Tryz.prog 59 [.ptr 1 0] (sgH (segG id l sf) v) (fun _ : Unit => AV.int .i64 0) (fun _ => sgH (segG id l l.length) (v.sync (segName id))) := by
 obtain ⟨h1, _⟩ := h.sync
 have := segSync_ok h.ok (by omega) (by omega) (by omega) (segG id l sf) (show id < 4294967296 by unfold IsId at hi; omega)
 rw [show (segG id l sf).s.id = id from rfl, h1, if_pos rfl] at this
 exact this
theorem SegSt.crash {Q s t id n : Nat} {L : List Rec} {v : VM} (h : SegSt Q s t id (some (segBytes id (L.take n))) L v) (hi : IsId id) (hN : Numd L) (hl : L.length ≤ 40) (hn : n ≤ L.length) (P : List Int) : ∃ m why, n ≤ m ∧ m ≤ L.length ∧ (why = 0 ∨ why = 22) ∧ ∃ f, (v.crash P).Has (segName id) f ∧ scanB id f.now = ⟨fnds 16 (L.take m), [], offAt L m, why⟩ ∧ f.now.take (offAt L m) = segBytes id (L.take m) ∧ offAt L m ≤ f.now.length ∧ f.now.length ≤ 90000000 := by
 obtain ⟨f, hf, ha, hnow⟩ := h.has
 obtain ⟨K, hK⟩ := hf.crash P
 have hsp : segBytes id L = segBytes id (L.take n) ++ encs (L.drop n) := by
  unfold segBytes
  rw [List.append_assoc, ← encs_append, List.take_append_drop]
 obtain ⟨_, i, _, hfi⟩ := hf
 have hc := crash_cut (h.ok.file hfi) (ha _ rfl) (hnow.trans hsp) K
 rw [hc] at hK
 obtain ⟨m, why, c1, c2, c3, c4, c5, c6⟩ := crash_scan hi hN hl hn K
 refine ⟨m, why, c1, c2, c3, _, hK, c4, c5, c6, ?_⟩
 have h1 : (segBytes id L).length = offAt L L.length := segBytes_len id L
 have h2 := (offAt_le hN L.length).2
 rw [hsp, List.length_append] at h1
 show (segBytes id (L.take n) ++ (encs (L.drop n)).take K).length ≤ 90000000
 rw [List.length_append, List.length_take]
 omega
theorem cut_seg {n B k Q s t id m : Nat} {L : List Rec} {w : VM} (ok : w.Ok n B k) (up : w.Up Q) {f : FI} (hf : w.Has (segName id) f) (h1 : offAt L m ≤ f.now.length) (h2 : f.now.take (offAt L m) = segBytes id (L.take m)) (hn : n + 1 ≤ s) (hB : B + 1 ≤ t) (hk : k + 1 ≤ s) : w.truncE (segName id) (offAt L m : Nat) = 0 ∧ SegSt Q s t id none (L.take m) (w.trunc (segName id) (offAt L m : Nat)) := by
 obtain ⟨a1, a2, a3, _, _⟩ := hf.trunc ok up (offAt L m : Nat)
 refine ⟨?_, ⟨(ok.trunc (segName id) (offAt L m : Nat)).more (by omega) (by omega) (by omega), a3, _, a2, (fun x hx => by cases hx), ?_⟩⟩
 ·rw [a1]
  unfold FI.cutE
  rw [if_neg (by omega)]
 ·unfold FI.cut
  by_cases h : (offAt L m : Int) < (f.now.length : Int)
  ·rw [if_pos ⟨by omega, h⟩]
   exact h2
  ·rw [if_neg (by omega), ← h2, List.take_of_length_le (by omega)]
end Go.Proofs.YtgfkepebfaiepaaGreatDoor.Ax

namespace Go.Proofs.YtgfkepebfaiepaaGreatDoor.Ax
open Go.RowKit
set_option maxRecDepth 100000
noncomputable def cfgCu (N b : Nat) : Cfg := { P := Go.Proofs.Tryz.prog, T := tt, cuts := [3041], wr := false, N := N, pure := [13, 25, 53, 57, 61], base := b, frz := fun op => match op with | .makeFunc .. => true | .convert .. => true | _ => false }
theorem cfgCuOk (N b : Nat) : (cfgCu N b).Ok := ⟨ttOk, ttBytes, by kernel_rfl⟩
noncomputable def cfgCv (N b : Nat) : Cfg := { P := Go.Proofs.Tryz.prog, T := tt, cuts := [3042], wr := false, N := N, pure := [13, 25, 53, 57, 61], base := b, frz := fun op => match op with | .makeFunc .. => true | .convert .. => true | _ => false }
theorem cfgCvOk (N b : Nat) : (cfgCv N b).Ok := ⟨ttOk, ttBytes, by kernel_rfl⟩
noncomputable def cfgCw (N b : Nat) : Cfg := { P := Go.Proofs.Tryz.prog, T := tt, wr := false, N := N, pure := [13, 25, 53, 57, 61], base := b, frz := fun op => match op with | .makeFunc .. => true | .convert .. => true | _ => false }
theorem cfgCwOk (N b : Nat) : (cfgCw N b).Ok := ⟨ttOk, ttBytes, by kernel_rfl⟩
noncomputable def cfgCt (N b : Nat) : Cfg := { P := Go.Proofs.Tryz.prog, T := tt, wr := false, N := N, pure := [13, 25, 53, 57, 61], base := b, cuts := [3039], frz := fun op => match op with | .makeFunc .. => true | .convert .. => true | _ => false }
theorem cfgCtOk (N b : Nat) : (cfgCt N b).Ok := ⟨ttOk, ttBytes, by kernel_rfl⟩
noncomputable def cfgCs (N b : Nat) : Cfg := { P := Go.Proofs.Tryz.prog, T := tt, wr := false, N := N, pure := [13, 25, 53, 57, 61], base := b, cuts := [3025], frz := fun op => match op with | .makeFunc .. => true | .convert .. => true | _ => false }
theorem cfgCsOk (N b : Nat) : (cfgCs N b).Ok := ⟨ttOk, ttBytes, by kernel_rfl⟩
def sch10 : List (Nat × Sched) := [(31, .take 0 (.take 1 (.take 2 (.take 3 (.take 4 (.take 5 (.take 6 (.take 7 (.take 8 (.take 9 (.take 10 (.take 11 (.take 12 (.take 13 (.take 14 (.take 15 (.take 16 (.done)))))))))))))))))), (34, .take 0 (.take 2 (.take 3 (.take 1 (.take 4 (.take 5 (.done))))))), (37, .take 0 (.take 1 (.take 2 (.take 3 (.take 5 (.take 6 (.take 7 (.take 8 (.take 4 (.take 9 (.take 10 (.done)))))))))))), (42, .take 0 (.take 1 (.take 2 (.take 3 (.take 4 (.take 5 (.take 6 (.take 7 (.take 8 (.take 9 (.take 10 (.take 11 (.take 12 (.take 13 (.take 14 (.take 15 (.take 16 (.take 17 (.take 18 (.take 19 (.take 20 (.take 21 (.take 22 (.take 23 (.take 24 (.take 25 (.take 26 (.take 27 (.take 28 (.take 29 (.take 30 (.take 31 (.take 32 (.take 33 (.take 34 (.take 35 (.take 36 (.take 37 (.take 38 (.take 39 (.take 40 (.take 41 (.take 42 (.take 43 (.take 44 (.take 45 (.done)))))))))))))))))))))))))))))))))))))))))))))))]
theorem take_recs {L : List Rec} {n N : Nat} {f : Nat → List IV} (hn : n ≤ L.length) (hN : N = n) (hf : ∀ i, i < n → f i = recF L i) : AVE (.iv (.sl 6 N f)) (recsA (L.take n)) := by
 subst hN
 have e : N = (L.take N).length := by rw [List.length_take]; omega
 have key : AVE (.iv (.sl 6 N f)) (.iv (.sl 6 N (recF (L.take N)))) := AVE.sl fun i hi => by
  have : recF (L.take N) i = recF L i := by
   unfold recF
   rw [List.getD_eq_getElem?_getD, List.getD_eq_getElem?_getD, List.getElem?_take_of_lt hi]
  rw [hf i hi, this]
  exact IVEs.refl _
 unfold recsA
 rw [← e]
 exact key
def mask (p : Int) : Int := bitK .and .i64 p 1073741823
theorem mask_le (p : Int) : 0 ≤ mask p := by
 have h : (BitVec.ofInt 64 p &&& BitVec.ofInt 64 1073741823).toNat ≤ 1073741823 := by
  rw [BitVec.toNat_and]
  exact Nat.and_le_right
 unfold mask bitK
 show 0 ≤ IntKind.i64.wrap ((BitVec.ofInt 64 p &&& BitVec.ofInt 64 1073741823).toNat : Nat)
 generalize (BitVec.ofInt 64 p &&& BitVec.ofInt 64 1073741823).toNat = x at *
 simp [IntKind.wrap, IntKind.bits, IntKind.signed]
 omega
def mkF (P : List Int) (i j : Nat) : List IV := [.v (.int .i64 (if j < i then mask (P.getD j 0) else 0))]
def maskAll (P : List Int) : List Int := P.map mask
theorem mkF_all (P : List Int) : AVE (.iv (.sl 1 P.length (mkF P P.length))) (.iv (iRow (maskAll P))) := by
 have e : P.length = (maskAll P).length := by simp [maskAll]
 have key : AVE (.iv (.sl 1 P.length (mkF P P.length))) (.iv (.sl 1 P.length (iF (maskAll P)))) := AVE.sl fun i hi => by
  have : mkF P P.length i = iF (maskAll P) i := by
   unfold mkF iF maskAll
   rw [if_pos hi]
   simp [List.getD, hi]
  rw [this]
  exact IVEs.refl _
 unfold iRow
 rw [← e]
 exact key
theorem mk_row {e : Nat} (P : List Int) {y : Nat} (h : y < P.length) : ChE (.rowc e 1 P.length fun j => if j = 0 + ((y : Nat) : Int).toNat then layI (mkF P y (0 + ((y : Nat) : Int).toNat)) 0 [IV.v (.int .i64 (bitK .and .i64 (P.getD ((y : Nat) : Int).toNat 0) 1073741823))] else mkF P y j) (.rowc e 1 P.length (mkF P (y + 1))) := by
 refine ChE.row (Nat.le_refl _) fun j hj => ?_
 rw [show 0 + ((y : Nat) : Int).toNat = y from Nat.zero_add y]
 unfold mkF
 by_cases e1 : j = y
 ·subst e1
  rw [if_pos rfl, if_pos (Nat.lt_succ_self j)]
  rfl
 ·rw [if_neg e1]
  by_cases e2 : j < y
  ·rw [if_pos e2, if_pos (by omega)]
  ·rw [if_neg e2, if_neg (by omega)]
theorem maskAll_ok (P : List Int) : (maskAll P).any (fun p => decide (p < 0)) = false := by
 unfold maskAll
 rw [List.any_map, List.any_eq_false]
 intro q _
 have := mask_le q
 simp only [Function.comp, decide_eq_true_eq]
 omega
def moreR (m : Nat) : Rec := ⟨m + 1, 1, [109, 111, 114, 101], [], 0, 0⟩
theorem moreR_may (m : Nat) (h : m ≤ 1000) : (moreR m).May := ⟨.inl rfl, ⟨by show 1 ≤ m + 1; omega, by show m + 1 ≤ 1099511627776; omega⟩, ⟨by show 1 ≤ 4; decide, by show 4 ≤ 64; decide⟩, by show 0 ≤ 1024; decide, .inl ⟨rfl, rfl⟩⟩
structure CrW (L : List Rec) (n : Nat) where
 i : Nat
 v : VM
 le : n + i ≤ L.length
 st : SegSt 1073741824 17 16 7 (some (segBytes 7 (L.take n))) (L.take (n + i)) v
@[reducible] def crsH (L : List Rec) (n i : Nat) (v : VM) : AH := ⟨3, [(0, .sem (fsV v)), (1, .cells 192 (sgC 0 (segG 7 (L.take (n + i)) n))), (2, .rowc 48 2 (n + i) (locF 7 L))]⟩
def tailC : Nat → Code → Code
 | n + 1, .seq _ b => tailC n b
 | _, c => c
def bodyOf (f : Func) : Code := match f.body with
 | some c => c
 | none => .skip
def LawQ (f : Func) : Post := ⟨finK tt f.results.toList (resF fun r H' => ∃ r2 H2, Ent 1 0 [(0, r)] H' [(0, r2)] H2 ∧ ∃ _ : Unit, r2 = AV.bool true ∧ H2 = ⟨0, []⟩), fun _ _ _ => False, finK tt f.results.toList (resF fun r H' => ∃ r2 H2, Ent 1 0 [(0, r)] H' [(0, r2)] H2 ∧ ∃ _ : Unit, r2 = AV.bool true ∧ H2 = ⟨0, []⟩), fun _ _ => False⟩
@[reducible] def ceH (M : List Rec) (S : SC) (v : VM) : AH := ⟨3, [(0, .sem (fsV v)), (1, .cells 113 (scC 7 S)), (2, .cells 192 (sgC 0 (segG 7 M M.length)))]⟩
@[reducible] def cvH (S : SC) (r : Rec) (o : Nat) (v : VM) : AH := ⟨4, [(0, .sem (fsV v)), (1, .cells 113 (scC 7 S)), (2, .cells 50 (recC r)), (3, .cells 48 [AV.int .u32 (7 : Nat), AV.int .u32 o])]⟩
@[reducible] def cwH (S S2 : SC) (r : Rec) (o : Nat) : AH := ⟨4, [(0, .cells 113 (scC 7 S)), (1, .cells 50 (recC r)), (2, .cells 48 [AV.int .u32 (7 : Nat), AV.int .u32 o]), (3, .cells 113 (scC 7 S2))]⟩
set_option maxHeartbeats 4000000 in
theorem crash_endC {S S2 : SC} {r : Rec} (hr : r.May) {m o : Nat} (hm : m ≤ 30) (hSF : S.found.length = m) (hlen2 : S2.found.length = m + 1) (hget2 : S2.found.getD m default = ⟨o, r.size, r⟩) (hwhy2 : S2.why = 0) :
 AWP (cfgCw 270 0) (tailC 20 (bodyOf Go.Proofs.Tryz.f10)) [(19, .ptr 0 0), (25, .ptr 1 0), (26, .ptr 2 0), (27, AV.int .i64 0), (28, .ptr 3 0), (29, AV.int .i64 0)] (cwH S S2 r o) (LawQ Go.Proofs.Tryz.f10) := by
 have hd : ∀ x : Int, decide (x = x) = true := fun x => decide_eq_true rfl
 have hix : ((S.found.length : Nat) : Int).toNat = m := hSF
 have hsm := recSame_ok r r (May.B hr) (May.B hr)
 rw [decide_eq_true rfl] at hsm
 refine AWP.go (S := sch10) (cfgCwOk _ _) (.of_eq (by kernel_rfl)) ?_
 refine goA ?_
 refine ifdA (fun q => ?_) (fun q => ?_) <;> (try dsimp only at q)
 ·refine goA ?_
  refine ifdA (fun q2 => ?_) (fun q2 => ?_) <;> (try dsimp only at q2)
  ·refine goA ?_
   rw [hix, hget2, hd, hd]
   refine goA ?_
   rw [hix, hget2]
   refine AFn.useA [] (hsm) fun _ => ?_
   refine goA ?_
   refine ⟨_, _, Ent.mk' (e' := [(0, AV.bool true)]) (H' := ⟨0, []⟩) [] (by kernel_rfl) ?_ ?_, (), rfl, rfl⟩
   ·exact ⟨AVE.refl _, trivial⟩
   ·trivial
  ·exfalso; omega
 ·exfalso; omega
set_option maxHeartbeats 4000000 in
theorem crash_endB {S S2 : SC} {r : Rec} (hr : r.May) {m o : Nat} {v : VM} (hm : m ≤ 30) (hSF : S.found.length = m) (hlen2 : S2.found.length = m + 1) (hget2 : S2.found.getD m default = ⟨o, r.size, r⟩) (hwhy2 : S2.why = 0)
 (hLo2 : AFn Go.Proofs.Tryz.prog 51 [.ptr 0 0, AV.int .u32 (7 : Nat)] (fone v) (fun _ : Unit => .tup [scA 7 S2, AV.int .i64 0]) (fun _ => fone v)) :
 AWP (cfgCv 270 0) (tailC 19 (bodyOf Go.Proofs.Tryz.f10)) [(7, .ptr 0 0), (19, .ptr 1 0), (25, .ptr 2 0), (26, .ptr 3 0), (27, AV.int .i64 0)] (cvH S r o v) (LawQ Go.Proofs.Tryz.f10) := by
 refine AWP.go (S := sch10) (cfgCvOk _ _) (.of_eq (by kernel_rfl)) ?_
 refine goA ?_
 refine AFn.useA [0] (hLo2) fun _ => ?_
 refine goA ?_
 exact ⟨(AWP.of_ent (C := cfgCw 270 0) (Ent.mkA [some 1, some 2, some 3, some 4]) (crash_endC hr hm hSF hlen2 hget2 hwhy2)).run⟩
set_option maxHeartbeats 4000000 in
theorem crash_end {M : List Rec} (hM : Numd M) (hMl : M.length ≤ 30) {s t : Nat} (hs : s ≤ 50) (ht : t ≤ 40000) {v3 : VM} (hst3 : SegSt 1073741824 s t 7 none M v3) {S : SC} (hSF : S.found.length = M.length) :
 AWP (cfgCu 270 0) (tailC 17 (bodyOf Go.Proofs.Tryz.f10)) [(7, .ptr 0 0), (19, .ptr 1 0), (23, .ptr 2 0)] (ceH M S v3) (LawQ Go.Proofs.Tryz.f10) := by
 have hi : IsId 7 := isId 7 (by decide)
 have hmore := moreR_may M.length (by omega)
 have hMn : Numd (M ++ [moreR M.length]) := hM.snoc hmore rfl
 have hQ3 : (s + M.length) * (t + 1113 * M.length) + (moreR M.length).size ≤ 1073741824 := by
  have h1 : (s + M.length) * (t + 1113 * M.length) ≤ 80 * (40000 + 1113 * 30) := Nat.mul_le_mul (by omega) (by omega)
  have := May.size hmore
  omega
 have hA := hst3.appended hMn (by omega) (by omega) (by omega) hi (May.B hmore) hQ3 M.length
 have hst4 := (hst3.append hMn (by omega) hQ3 M.length).2.2.2.2
 have hLo2 := hst4.loaded hi hMn (by rw [List.length_append]; show M.length + 1 ≤ 40; omega) (by omega) (by omega)
 generalize hnm : segName 7 = nm at *
 generalize VM.append nm (moreR M.length).enc v3 = v4 at *
 have hlen2 : (segS (M ++ [moreR M.length])).found.length = M.length + 1 := by
  show (fnds 16 (M ++ [moreR M.length])).length = _
  rw [fnds_len, List.length_append]
  rfl
 have hget2 : (segS (M ++ [moreR M.length])).found.getD M.length default = ⟨offAt M M.length, (moreR M.length).size, moreR M.length⟩ := by
  rw [segS_get (by simp), offAt_append _ _ (Nat.le_refl _)]
  simp [List.getD]
 have hwhy2 : (segS (M ++ [moreR M.length])).why = 0 := rfl
 generalize segS (M ++ [moreR M.length]) = S2 at *
 refine AWP.go (S := sch10) (cfgCuOk _ _) (.of_eq (by kernel_rfl)) ?_
 refine goA ?_
 refine ACall.argsE [.ptr 2 0, recA (moreR M.length)] ⟨AVE.refl _, AVE.aggE ⟨AVE.int (by show (S.found.length : Int) + 1 = ((M.length + 1 : Nat) : Int); omega), AVE.refl _, AVE.refl _, AVE.nilBs, AVE.refl _, AVE.refl _, rfl⟩, rfl⟩ ?_
 refine AFn.useA [0, 2] (hA) fun _ => ?_
 refine goA ?_
 exact ⟨(AWP.of_ent (C := cfgCv 270 0) (Ent.mk' (e' := [(7, .ptr 0 0), (19, .ptr 1 0), (25, .ptr 2 0), (26, .ptr 3 0), (27, AV.int .i64 0)]) (H' := cvH S (moreR M.length) (offAt M M.length) v4) [some 0, some 1, some 4, some 5] (by kernel_rfl) ⟨AVE.refl _, AVE.refl _, AVE.refl _, AVE.refl _, AVE.refl _, trivial⟩ ⟨⟨_, rfl, ChE.refl _⟩, ⟨_, rfl, ChE.refl _⟩, ⟨_, rfl, ChE.cells (by exact ⟨AVE.int (by show (S.found.length : Int) + 1 = ((M.length + 1 : Nat) : Int); omega), AVE.refl _, AVE.refl _, AVE.nilBs, AVE.refl _, AVE.refl _, rfl⟩)⟩, ⟨_, rfl, ChE.refl _⟩, trivial⟩) (crash_endB hmore hMl hSF hlen2 hget2 hwhy2 hLo2)).run⟩
@[reducible] def ctH (L : List Rec) (v : VM) : AH := ⟨2, [(0, .sem (fsV v)), (1, .rowc 48 2 L.length (locF 7 L))]⟩
set_option maxHeartbeats 4000000 in
theorem crash_tail {L : List Rec} (hN : Numd L) (hL : L.length ≤ 30) (n : Nat) {v2 : VM} (okc : v2.Ok (17 + L.length) (16 + 1113 * L.length) (17 + L.length)) (upc : v2.Up 1073741824) {m why : Nat} (c1 : n ≤ m) (c2 : m ≤ L.length) (c3 : why = 0 ∨ why = 22) {f : FI} (hf : v2.Has (segName 7) f) (hsc : scanB 7 f.now = ⟨fnds 16 (L.take m), [], offAt L m, why⟩) (htk2 : f.now.take (offAt L m) = segBytes 7 (L.take m)) (hof : offAt L m ≤ f.now.length) (hfl : f.now.length ≤ 90000000) :
 AWP (cfgCt 270 0) (tailC 11 (bodyOf Go.Proofs.Tryz.f10)) [(0, recsA L), (7, .ptr 0 0), (9, AV.int .i64 n), (11, .row 1 2 0 L.length)] (ctH L v2) (LawQ Go.Proofs.Tryz.f10) := by
 have hi : IsId 7 := isId 7 (by decide)
 have hne : ∀ x : Int, decide (x ≠ x) = false := fun x => decide_eq_false fun h => h rfl
 have hLo := segLoad_ok okc (by omega) 7 hi (hf.opens upc.off) (by rw [hf.file]; exact hfl)
 rw [hf.file, hsc] at hLo
 have hcut := fun (h : offAt L m ≤ f.now.length) => cut_seg (s := 18 + L.length) (t := 17 + 1113 * L.length) okc upc hf h htk2 (by omega) (by omega) (by omega)
 obtain ⟨hT0, hst3⟩ := hcut hof
 have hTr := fsTrunc okc (by omega) (by omega) (by omega) (segName 7) (offAt L m : Nat)
 rw [hT0] at hTr
 generalize VM.trunc (segName 7) (offAt L m : Nat) v2 = v3 at *
 have hlenT : (L.take m).length = m := by rw [List.length_take]; omega
 have hoT : offAt (L.take m) (L.take m).length = offAt L m := by rw [hlenT]; exact offAt_take (Nat.le_refl _)
 have hM := hN.take m
 have hFg := fun i (h : i < (L.take m).length) => segS_get h
 have hsl := segS_seal (id := 7) hM (L.take m).length
 obtain ⟨S, hS⟩ : ∃ S : SC, S = ⟨fnds 16 (L.take m), [], offAt L m, why⟩ := ⟨_, rfl⟩
 have hSl : S.slOf 7 = (segG 7 (L.take m) (L.take m).length).s := by
  rw [← hsl, hS]
  unfold segS
  rw [hoT]
  rfl
 have hSF : S.found.length = m := by rw [hS]; show (fnds 16 (L.take m)).length = m; rw [fnds_len, hlenT]
 have hSP : S.passed.length = 0 := by rw [hS]; rfl
 have hSE : S.end_ = offAt L m := by rw [hS]
 have hSW : S.why = 0 ∨ S.why = 22 := by rw [hS]; exact c3
 have hSg : ∀ i, i < m → S.found.getD i default = ⟨offAt L i, (L.getD i default).size, L.getD i default⟩ := fun i h => by
  have h1 := hFg i (by omega)
  rw [show (L.take m).getD i default = L.getD i default by rw [List.getD_eq_getElem?_getD, List.getD_eq_getElem?_getD, List.getElem?_take_of_lt h], offAt_take (Nat.le_of_lt h)] at h1
  rw [hS]
  exact h1
 rw [← hS] at hLo
 have hom := offAt_le hN m
 have hge : 25 * m ≤ offAt L m := by
  have := encs_len_ge (L.take m)
  unfold offAt
  omega
 have hSc := scanSeal_ok 7 S (by omega) (by omega)
 rw [hSl] at hSc
 have hOf := segOf_ok (segG 7 (L.take m) (L.take m).length).s v3 hi (show 16 ≤ offAt (L.take m) (L.take m).length by omega) (show offAt (L.take m) (L.take m).length ≤ 16777216 by omega)
 clear hS hf hsc htk2 hof hFg hsl hcut hT0
 rw [← hlenT] at hSE hSF hSg hom hge hTr
 rw [show offAt L (L.take m).length = offAt (L.take m) (L.take m).length by rw [hoT, hlenT]] at hSE hom hge hTr
 have hMl : (L.take m).length ≤ L.length := by omega
 have hnM : n ≤ (L.take m).length := by omega
 clear hoT hlenT
 generalize L.take m = M at *
 have hname := segName_ok 7 (by decide)
 generalize hnm : segName 7 = nm at *
 refine AWP.go (S := sch10) (cfgCtOk _ _) (.of_eq (by kernel_rfl)) ?_
 refine goA ?_
 refine AFn.useA [0] (hLo) fun _ => ?_
 refine goA ?_
 apply AWP.ahead (C := cfgCt 270 0) ([(0, recsA L), (7, .ptr 0 0), (11, .row 1 2 0 L.length), (19, .ptr 2 0), (157, .iv (.sl 9 S.found.length (fndF 7 S.found))), (158, AV.int .i64 S.found.length), (159, AV.int .i64 0)]) (⟨3, [(0, .sem (fsV v2)), (1, .rowc 48 2 L.length (locF 7 L)), (2, .cells 113 (scC 7 S))]⟩)
 ·intro key
  repeat' (refine ifdA (fun q => ?_) (fun q => ?_) <;> (try dsimp only at q) <;> first | (exfalso; omega) | (refine goA ?_))
  all_goals
   refine AWP.of_ent ?_ key
   exact Ent.mkA [some 0, some 1, some 2]
 refine AWP.loop (X := { i : Nat // i ≤ S.found.length }) (fun z => [(0, recsA L), (7, .ptr 0 0), (11, .row 1 2 0 L.length), (19, .ptr 2 0), (157, .iv (.sl 9 S.found.length (fndF 7 S.found))), (158, AV.int .i64 S.found.length), (159, AV.int .i64 z.1)]) (fun z => ⟨3, [(0, .sem (fsV v2)), (1, .rowc 48 2 L.length (locF 7 L)), (2, .cells 113 (scC 7 S))]⟩) (fun z => S.found.length - z.1) (⟨0, Nat.zero_le _⟩) ?_ fun z => AWP.go (S := sch10) (cfgCtOk _ _) (.of_eq (by kernel_rfl)) ?_
 ·exact Ent.mkA [some 0, some 1, some 2]
 ·obtain ⟨z, hz⟩ := z
  dsimp only
  refine goA ?_
  refine ifdA (fun h3 => ?_) (fun h3 => ?_) <;> (try dsimp only at h3)
  ·have hlt : z < S.found.length := by omega
   have hzL : z < L.length := by omega
   have hg : S.found.getD ((z : Nat) : Int).toNat default = ⟨offAt L z, (L.getD z default).size, L.getD z default⟩ := hSg z (by omega)
   have hz0 : 0 + ((z : Nat) : Int).toNat = z := Nat.zero_add z
   have hzt : ((z : Nat) : Int).toNat = z := rfl
   have hsm := recSame_ok (L.getD z default) (L.getD z default) (May.B (hN.getMay hzL)) (May.B (hN.getMay hzL))
   rw [decide_eq_true rfl] at hsm
   have hd : ∀ x : Int, decide (x = x) = true := fun x => decide_eq_true rfl
   refine goA ?_
   rw [hg, hz0, hd, hd]
   refine goA ?_
   refine AFn.useA [] (hsm) fun _ => ?_
   refine goA ?_
   refine ⟨⟨z + 1, by omega⟩, Ent.mkA [some 0, some 1, some 2], ?_⟩
   show S.found.length - (z + 1) < S.found.length - z
   omega
  ·refine goA ?_
   refine AFn.useA [] (hname) fun _ => ?_
   refine goA ?_
   rw [← hSE] at hTr
   refine AFn.useA [0] (hTr) fun _ => ?_
   refine goA ?_
   refine AFn.useA [] (hSc) fun _ => ?_
   refine goA ?_
   refine AFn.useA [0] (hOf) fun _ => ?_
   refine goA ?_
   have hML : M.length = S.found.length := hSF.symm
   have hsafe : (⟨(segG 7 M M.length).s, (segG 7 M M.length).s.last⟩ : SG) = segG 7 M M.length := rfl
   rw [hsafe]
   refine AFn.useA [0, 3] (segSafe_ok (segG 7 M M.length) v3) fun _ => ?_
   refine goA ?_
   rw [decide_eq_false (show ¬ ((segG 7 M M.length).safe : Int) ≠ (S.found.length : Int) from fun h => h (congrArg (fun n : Nat => (n : Int)) hML))]
   refine goA ?_
   exact ⟨(AWP.of_ent (C := cfgCu 270 0) (Ent.mkA [some 0, some 2, some 3]) (crash_end hM (by omega) (by omega) (by omega) hst3 hSF)).run⟩
end Go.Proofs.YtgfkepebfaiepaaGreatDoor.Ax

namespace Go.Proofs.YtgfkepebfaiepaaGreatDoor.Ax
open Go.RowKit
set_option maxRecDepth 100000
set_option maxHeartbeats 4000000 in
theorem crash_law (l : List Rec) (hl : l.length ≤ 9223372036854775807 ∧ ∀ r ∈ l, r.W) (sy : Nat) (hsy : sy ≤ 255) (P : List Int) (hP : P.length ≤ 17592186044416) : Law Go.Proofs.Tryz.prog 10 [recsA l, AV.int .u8 sy, .iv (iRow P)] := by
 have hnum := numbered_ok l hl.1 hl.2
 obtain ⟨hN, hL⟩ := numb_ok (cap := 30) l [] Numd.nil (Nat.zero_le _)
 have hN : Numd (numb 30 l) := hN
 have hL : (numb 30 l).length ≤ 30 := hL
 generalize numb 30 l = L at *
 have hi : IsId 7 := isId 7 (by decide)
 obtain ⟨n, hn⟩ : ∃ n, n = sy % (L.length + 1) := ⟨_, rfl⟩
 have hnl : n ≤ L.length := by
  have := Nat.mod_lt sy (show 0 < L.length + 1 by omega)
  omega
 have hnI : (sy : Int) % ((L.length : Int) + 1) = (n : Int) := by rw [hn, Int.natCast_emod, Int.natCast_add]; rfl
 have hNn := hN.take n
 have hLn : (L.take n).length = n := by rw [List.length_take]; omega
 have hLd := laidR_ok 7 hi (L.take n) hNn (by omega)
 have hS := laid_st hi hNn (by omega) (L.take n).length (Nat.le_refl _)
 unfold laidH at hLd
 rw [List.take_length] at hS hLd
 generalize laidV 7 (L.take n) = v at *
 have hSy := hS.synced hi (by omega) (by omega) (by omega) 0
 have hSt := hS.sync.2
 rw [hLn] at hSy hLd
 generalize v.sync (segName 7) = v1 at *
 refine ACall.fin ?_
 refine ACall.walk (C := cfgCs 270 0) (cfgCsOk _ _) sch10 (fn := Go.Proofs.Tryz.f10) (by kernel_rfl) (by kernel_rfl) rfl (by kernel_rfl) (by kernel_rfl) rfl rfl ?_
 refine goA ?_
 refine AFn.useA [] (hnum) fun _ => ?_
 refine goA ?_
 refine AFn.useA [] (new_fs 1073741824 (by decide)) fun _ => ?_
 refine goA ?_
 refine AFn.useA [] (wakes_ok) fun _ => ?_
 refine goA ?_
 rw [hnI]
 refine goA ?_
 refine ACall.argsE [.ptr 0 0, AV.int .u32 (7 : Nat), recsA (L.take n)] ⟨AVE.refl _, AVE.refl _, take_recs hnl (by omega) (fun i _ => by show recF L (0 + i) = recF L i; rw [Nat.zero_add]), rfl⟩ ?_
 refine AFn.useA [0] (hLd) fun _ => ?_
 refine goA ?_
 refine AFn.useA [0, 1] (hSy) fun _ => ?_
 refine goA ?_
 refine AFn.useA [0, 1] (segSafe_ok (segG 7 (L.take n) n) v1) fun _ => ?_
 refine goA ?_
 have hne : ∀ x : Int, decide (x ≠ x) = false := fun x => decide_eq_false fun h => h rfl
 have hsf : ∀ l : List Rec, (segG 7 l n).safe = n := fun _ => rfl
 rw [hsf, hne]
 refine goA ?_
 refine AWP.loop (X := CrW L n) (fun x => [(0, recsA L), (2, .iv (iRow P)), (7, .ptr 0 0), (9, AV.int .i64 n), (10, .ptr 1 0), (11, .row 2 2 0 (n + x.i)), (72, .iv (.sl 6 (L.length - n) fun i => recF L (n + i))), (73, AV.int .i64 ((L.length - n : Nat) : Int)), (74, AV.int .i64 x.i)]) (fun x => crsH L n x.i x.v) (fun x => L.length - x.i) (⟨0, v1, hnl, hSt⟩) ?_ fun x => AWP.go (S := sch10) (cfgCsOk _ _) (.of_eq (by kernel_rfl)) ?_
 ·refine Ent.mkC [some 0, some 1, some 2] ⟨⟨_, rfl, ChE.refl _⟩, ⟨_, rfl, ChE.refl _⟩, ⟨_, rfl, ChE.row (Nat.le_refl _) fun j hj => ?_⟩, trivial⟩
  have hj : j < n := hj
  unfold locF
  rw [offAt_take (Nat.le_of_lt hj)]
 ·obtain ⟨i, v, hle, hst⟩ := x
  dsimp only
  refine goA ?_
  refine ifdA (fun h => ?_) (fun h => ?_) <;> (try dsimp only at h)
  ·have hlt : n + i < L.length := by omega
   have e := take_snoc hlt
   have hn2 := hN.take (n + i + 1)
   rw [e] at hn2
   have hm := hn2.last.1
   have hlen : (L.take (n + i)).length = n + i := by rw [List.length_take]; omega
   have hsz := May.size hm
   have hQ : (17 + (L.take (n + i)).length) * (16 + 1113 * (L.take (n + i)).length) + (L.getD (n + i) default).size ≤ 1073741824 := by
    have h1 : (17 + (L.take (n + i)).length) * (16 + 1113 * (L.take (n + i)).length) ≤ 57 * (16 + 1113 * 40) := Nat.mul_le_mul (by omega) (by omega)
    omega
   have hA := hst.appended hn2 (by omega) (by omega) (by omega) hi (May.B hm) hQ n
   have hst' := (hst.append hn2 (by omega) hQ n).2.2.2.2
   rw [← e, hlen, offAt_take (Nat.le_refl _)] at hA
   rw [← e] at hst'
   have hg : L.getD (n + (0 + ((i : Nat) : Int).toNat)) default = L.getD (n + i) default := by rw [Nat.zero_add]; rfl
   have hg2 : L.getD (n + ((i : Nat) : Int).toNat) default = L.getD (n + i) default := rfl
   refine goA ?_
   rw [hg2]
   generalize hr : L.getD (n + i) default = r at *
   refine AFn.useA [0, 1] (hA) fun _ => ?_
   refine goA ?_
   refine AFn.useA [0, 1] (segSafe_ok (segG 7 (L.take (n + i + 1)) n) (v.append (segName 7) r.enc)) fun _ => ?_
   refine goA ?_
   rw [hsf, hne]
   refine goA ?_
   refine ⟨⟨i + 1, v.append (segName 7) r.enc, by omega, hst'⟩, ?_, by show L.length - (i + 1) < L.length - i; omega⟩
   exact Ent.mkC [some 0, some 1, some 6] ⟨⟨_, rfl, ChE.refl _⟩, ⟨_, rfl, ChE.refl _⟩, ⟨_, rfl, loc_push rfl⟩, trivial⟩
  ·have hni : n + i = L.length := by omega
   have htk : L.take (n + i) = L := by rw [hni, List.take_length]
   rw [htk] at hst
   refine goA ?_
   refine AWP.loop (X := { i : Nat // i ≤ P.length }) (fun y => [(0, recsA L), (2, .iv (iRow P)), (7, .ptr 0 0), (9, AV.int .i64 n), (11, .row 1 2 0 L.length), (16, .row 2 1 0 P.length), (101, .iv (iRow P)), (102, AV.int .i64 P.length), (103, AV.int .i64 y.1)]) (fun y => ⟨3, [(0, .sem (fsV v)), (1, .rowc 48 2 L.length (locF 7 L)), (2, .rowc 3 1 P.length (mkF P y.1))]⟩) (fun y => P.length - y.1) (⟨0, Nat.zero_le _⟩) ?_ fun y => AWP.go (S := sch10) (cfgCsOk _ _) (.of_eq (by kernel_rfl)) ?_
   ·refine Ent.mkC [some 0, some 2, some 3] ⟨⟨_, rfl, ChE.refl _⟩, ⟨_, rfl, ChE.row (Nat.le_of_eq hni.symm) fun j hj => rfl⟩, ⟨_, rfl, ChE.row (Nat.le_refl _) fun j hj => ?_⟩, trivial⟩
    unfold mkF
    rw [if_neg (Nat.not_lt_zero j)]
   ·obtain ⟨y, hy⟩ := y
    dsimp only
    refine goA ?_
    refine ifdA (fun h2 => ?_) (fun h2 => ?_) <;> (try dsimp only at h2)
    ·have hyl : y < P.length := by omega
     refine goA ?_
     refine ⟨⟨y + 1, hyl⟩, Ent.mkC [some 0, some 1, some 2] ?_, ?_⟩
     ·exact ⟨⟨_, rfl, ChE.refl _⟩, ⟨_, rfl, ChE.refl _⟩, ⟨_, rfl, mk_row P hyl⟩, trivial⟩
     ·show P.length - (y + 1) < P.length - y
      omega
    ·have : y = P.length := by omega
     subst this
     have hlenM : (maskAll P).length = P.length := by simp [maskAll]
     have okc := hst.ok.crash (maskAll P)
     have upc := hst.up.crash (maskAll P)
     obtain ⟨m, why, c1, c2, c3, f, hf, hsc, htk2, hof, hfl⟩ := hst.crash hi hN (by omega) hnl (maskAll P)
     have hCr := fsCrashGood hst.ok (by omega) (by omega) (P := maskAll P) (by rw [hlenM]; omega) (maskAll_ok P)
     generalize v.crash (maskAll P) = v2 at *
     refine goA ?_
     refine ACall.freezeR 2 rfl [.ptr 0 0, .iv (.sl 1 P.length (mkF P P.length))] ⟨AVF.same .., AVF.sl (Nat.le_refl _), rfl⟩ ?_
     refine ACall.argsE [.ptr 0 0, .iv (iRow (maskAll P))] ⟨AVE.refl _, mkF_all P, rfl⟩ ?_
     refine AFn.useA [0] (hCr) fun _ => ?_
     refine goA ?_
     exact ⟨(AWP.of_ent (C := cfgCt 270 0) (Ent.mkA [some 0, some 1]) (crash_tail hN hL n okc upc c1 c2 c3 hf hsc htk2 hof hfl)).run⟩
end Go.Proofs.YtgfkepebfaiepaaGreatDoor.Ax

namespace Go.Proofs.YtgfkepebfaiepaaGreatDoor.Ax
open Go.ChangeShapes Go.WideShapes Go.RowKit
theorem sh_ints {x : IV} (h : (AT.sl [.int .i64]).Sh x) : ∃ P : List Int, P.length ≤ 9223372036854775807 ∧ IVE x (iRow P) := by
 simp only [AT.Sh, AT.Shs] at h
 obtain ⟨n, f, rfl, hn, hf⟩ := h
 obtain ⟨l, h1, _, h3⟩ := rows_of (f := f) (n := n) (fun z : Int => [IV.v (.int .i64 z)]) (fun _ => True) (fun i hi => by
  obtain ⟨y, ys, e, ⟨z, rfl, _⟩, rfl⟩ := hf i hi
  exact ⟨z, e, trivial⟩)
 refine ⟨l, by omega, ⟨fun ι v hr => ?_⟩⟩
 subst h1
 exact R_rows hr fun i hi => by rw [h3 i hi]; rfl
theorem sh_ints' {ι : Imm} {x : IV} {v : Value} (h : (AT.sl [.int .i64]).Sh x) (hr : IV.R ι x v) : ∃ L : List Int, IV.R ι (iRow L) v := by
 obtain ⟨L, _, hE⟩ := sh_ints h
 exact ⟨L, hE.run _ _ hr⟩
theorem ints_reach {H : Type} {enc : TypeId × Value → H} {P : Program} {w : World} {base : Nat} {spare : Nat → Bool} {held : Bool} {ι : Imm} {t e : TypeId} {v : Value} {d : DataW H} {ps : List MemPlace} {ts : List TypeId} {ds : List (DataW H)} {L : List Int}
 (ht : P.underlying t = some (.slice e)) (hb : P.bytesOf e = 8) (hd : DataW.Trod enc P w base spare held t v d ps) (hz : (DataW.weightsEach P ts ds).all (· ≤ reachBytes) = true) (j : Nat) (hts : ts[j]? = some t) (hds : ds[j]? = some d) (hr : IV.R ι (iRow L) v) : L.length ≤ 17592186044416 := by
 simp only [IV.R] at hr
 obtain ⟨A, c, rfl, _⟩ := hr
 obtain ⟨fuel, h⟩ := hd
 have hc : (Value.slice A L.length c).cells.toList = [.slice A L.length c] := rfl
 rw [hc] at h
 rcases Go.Deep.open_slice ht h with ⟨hcs, _⟩ | ⟨a, len, cap, m, n, D, Pl, hcs, _, _, _, _, hx, _⟩
 ·simp only [List.cons.injEq, Value.slice.injEq, and_true] at hcs
  omega
 ·simp only [List.cons.injEq, Value.slice.injEq, and_true] at hcs
  injection hx with hx _
  subst hx
  have := sized_slice hz hts hds ht
  rw [hb] at this
  simp only [List.length_map, List.length_range, reachBytes] at this
  omega
end Go.Proofs.YtgfkepebfaiepaaGreatDoor.Ax

namespace Go.Proofs.YtgfkepebfaiepaaGreatDoor.Ax
open Go.RowKit Go.ChangeShapes
theorem laid_mem {P : Program} {W : World} : ∀ {l : List (String × DataW Unit)} {ps : List MemPlace}, DataW.LaidVars P W l ps → ∀ {n d}, (n, d) ∈ l →
 ∃ g t cs fuel p, P.globalNamed n = some g ∧ (P.globals[g]?).map (·.type) = some t ∧ W.var? P n = some cs ∧ DataW.trod (fun _ => ()) P W 0 (fun _ => true) false fuel t cs.toList = some (d, p) ∧ ∀ q ∈ MemPlace.row ⟨g, 0, none⟩ cs.size ++ p, q ∈ ps
 | [], _, _, _, _, h => by cases h
 | (n', d') :: r, ps, h, n, d, hm => by
  obtain ⟨g, t, cs, fuel, p, q, h1, h2, h3, h4, h5, rfl⟩ := h
  rcases List.mem_cons.1 hm with hm | hm
  ·obtain ⟨rfl, rfl⟩ := Prod.mk.injEq .. ▸ hm
   exact ⟨g, t, cs, fuel, p, h1, h2, h3, h4, fun x hx => List.mem_append_left _ hx⟩
  ·obtain ⟨g', t', cs', fuel', p', k1, k2, k3, k4, k5⟩ := laid_mem h5 hm
   exact ⟨g', t', cs', fuel', p', k1, k2, k3, k4, fun x hx => List.mem_append_right _ (k5 x hx)⟩
theorem laid_one {P : Program} {W : World} {l : List (String × DataW Unit)} (h : laidMetH P l W) {n : String} {d : DataW Unit} (hm : (n, d) ∈ l) (hn : d.handleName?.isNone = true) :
 ∃ g t cs fuel p, P.globalNamed n = some g ∧ (P.globals[g]?).map (·.type) = some t ∧ W.var? P n = some cs ∧ DataW.trod (fun _ => ()) P W 0 (fun _ => true) false fuel t cs.toList = some (d, p) ∧
   ∀ b off, MemPlace.cell b off ∈ MemPlace.row ⟨g, 0, none⟩ cs.size ++ p → ∀ u v, W.cell? ⟨b, off, none⟩ = some (.iface u v) → Value.okWide P W .any 0 u v := by
 obtain ⟨h1, _⟩ := laidMetH_iff.1 h
 obtain ⟨ps, k1, _, k3⟩ := h1
 obtain ⟨g, t, cs, fuel, p, q1, q2, q3, q4, q5⟩ := laid_mem k1 (n := n) (d := d) (List.mem_filter.2 ⟨hm, hn⟩)
 exact ⟨g, t, cs, fuel, p, q1, q2, q3, q4, fun b off hb => (k3 b off (q5 _ hb)).2⟩
theorem pp_of {ι : Imm} {g : Nat} {l : List IV} {vs : List Value} (h : IV.Rs ι l vs) (hc : ∀ j u, vs[j]? = some u → ι g j = some u) : IV.R ι (.pp l) (.pointer (some ⟨g, 0, none⟩)) := by
 simp only [IV.R]
 exact ⟨⟨g, 0, none⟩, vs, rfl, rfl, h, fun j u hj => by simpa using hc j u hj⟩
theorem ints_Rs (ι : Imm) (k : IntKind) : ∀ ns : List Int, IV.Rs ι (ns.map fun n => .v (.int k n)) (ns.map fun n => Value.int k n)
 | [] => rfl
 | n :: ns => by
   rw [List.map_cons, List.map_cons]
   simp only [IV.Rs]
   exact ⟨_, _, rfl, by simp only [IV.R], ints_Rs ι k ns⟩
theorem ints_laid {P : Program} {W : World} {l : List (String × DataW Unit)} (h : laidMetH P l W) {n : String} {g t e : Nat} {k : IntKind} {ns : List Int} (hm : (n, .agg (ns.map fun x => .lit (.int k x))) ∈ l)
 (hP : P.globalNamed n = some g) (hT : (P.globals[g]?).map (·.type) = some t) (ht : P.underlying t = some (.array ns.length e)) (he : P.underlying e = some (.int k)) (hc : P.cellsOf e = 1) (_hct : P.cellsOf t = ns.length)
 (hn : (DataW.agg (ns.map fun x => .lit (.int k x)) : DataW Unit).handleName?.isNone = true) : IV.R (immOf W) (.pp (ns.map fun n => .v (.int k n))) (.pointer (some ⟨g, 0, none⟩)) := by
 obtain ⟨g', t', cs, fuel, p, h1, h2, h3, h4, _⟩ := laid_one h hm hn
 obtain rfl := Option.some.inj (hP.symm.trans h1)
 obtain rfl := Option.some.inj (hT.symm.trans h2)
 obtain ⟨xs, m, _, h5, h6, h7, h8⟩ := DataW.trod_array ht h4
 injection h5 with h5 _
 injection h5 with h5
 refine pp_of (ints_Rs _ k ns) fun j u hj => ?_
 rw [List.getElem?_map] at hj
 cases hnj : ns[j]? with
 | none => rw [hnj] at hj; cases hj
 | some z =>
   rw [hnj] at hj
   injection hj with hj
   subst hj
   have hlt : j < ns.length := (List.getElem?_eq_some_iff.1 hnj).1
   have hx := h8 j hlt
   have hxj : xs[j]?.map (·.1) = some (.lit (.int k z)) := by
    have := congrArg (fun l => l[j]?) h5
    simp only [List.getElem?_map, hnj, Option.map_some] at this
    rw [← this]
   cases hq : xs[j]? with
   | none => rw [hq] at hxj; cases hxj
   | some x =>
     rw [hq] at hx hxj
     obtain ⟨z', e1, e2, _⟩ := DataW.trod_int he hx
     rw [e2] at hxj
     injection hxj with hxj
     injection hxj with hxj
     injection hxj with _ hxj
     subst hxj
     rw [hc, Nat.mul_one] at e1
     have hcell := World.var?_cell hP h3 j
     have : cs[j]? = some (.int k z') := by
      have hh : (cs.toList.drop j).take 1 = [Value.int k z'] := e1
      have : (cs.toList.drop j)[0]? = some (Value.int k z') := by
       have := congrArg (fun l => l[0]?) hh
       simpa using this
      simpa using this
     exact immOf_mk (by rw [hcell, this]) rfl
end Go.Proofs.YtgfkepebfaiepaaGreatDoor.Ax

namespace Go.Proofs.YtgfkepebfaiepaaGreatDoor.Ax
open Go.ChangeShapes Go.WideShapes Go.ChangeAt Go.RowKit Go.Deep
def flatT (P : Program) (F : List Field) : List (Nat × TypeId) := F.flatMap fun f => match P.underlying f.type with
 | some (.struct G) => G.toList.map fun g => (f.offset + g.offset, g.type)
 | _ => [(f.offset, f.type)]
def flatOk (P : Program) (F : List Field) : Bool := F.all fun f => match P.underlying f.type with
 | some (.struct G) => G.toList.all fun g => decide (g.offset < P.cellsOf f.type)
 | _ => true
def slB (P : Program) (fs : List AT) (t : TypeId) : Bool := match P.underlying t with
 | some (.slice e) => Nat.beq (P.cellsOf e) fs.length && (!(Nat.beq fs.length 0) && (match P.underlying e with
   | some (.struct F) => AT.fitssB P fs (flatT P F.toList) 0 && flatOk P F.toList
   | _ => false))
 | _ => false
section
variable {H : Type} {enc : TypeId × Value → H} {P : Program} {w : World} {base : Nat} {spare : Nat → Bool} {held : Bool}
theorem open_flat {fs : List AT} {t : TypeId} {v : Value} {d : DataW H} {ps : List MemPlace} {r : Reach} {b0 : Nat} (hB : slB P fs t = true) (hval : Value.okWide P w r b0 t v) (hd : DataW.Trod enc P w base spare held t v d ps) : ∃ x, (AT.sl fs).Sh x ∧ IV.R (immOf w) x v := by
 unfold slB at hB
 split at hB
 ·rename_i e ht
  rw [Bool.and_eq_true, Bool.and_eq_true] at hB
  obtain ⟨hc, hz, h3⟩ := hB
  have hc : P.cellsOf e = fs.length := Nat.eq_of_beq_eq_true hc
  have hz : fs.length ≠ 0 := fun h0 => by (rw [h0] at hz; cases hz)
  split at h3
  ·rename_i F hF
   rw [Bool.and_eq_true] at h3
   obtain ⟨hft, hfk⟩ := h3
   have hft := fitss_of fs _ 0 hft
   obtain ⟨fuel, h⟩ := hd
   have hc0 : v.cells.toList = [v] := by
    obtain ⟨a0, l0, c0, rfl⟩ := okWide_slice ht hval
    rfl
   rw [hc0] at h
   have hmx : maxLen = 9223372036854775807 := by decide
   rcases open_slice ht h with ⟨hcs, _⟩ | ⟨a, len, cap, m, n, D, Pl, hcs, _, hl, hm, hmm, _, hi⟩
   ·simp only [List.cons.injEq, and_true] at hcs
    subst hcs
    refine ⟨.sl fs.length 0 fun _ => [], by simp only [AT.Sh]; exact ⟨0, _, rfl, by omega, fun i hi => by omega⟩, ?_⟩
    simp only [IV.R]
    exact ⟨none, 0, rfl, Nat.le_refl _, Nat.zero_le _, fun k hk => by omega⟩
   ·simp only [List.cons.injEq, and_true] at hcs
    subst hcs
    have hlm : len ≤ m := by rw [hmm]; split <;> omega
    have each : ∀ i, i < len → ∃ xs vs, AT.Shs fs xs ∧ IV.Rs (immOf w) xs vs ∧ ∀ j u, vs[j]? = some u → w.cell? ((a.add (i * fs.length)).add j) = some u := fun i hil => by
     obtain ⟨cs', hcell, htr⟩ := hi i (by omega)
     rw [hc] at hcell
     obtain ⟨_, hcl, hat⟩ := World.cells?_some hcell
     have hcell' : ∀ j u, cs'[j]? = some u → w.cell? ((a.add (i * fs.length)).add j) = some u := fun j u hj => by
      have : j < fs.length := by rw [← hcl]; exact (List.getElem?_eq_some_iff.1 hj).1
      rw [hat j this]; exact hj
     obtain ⟨ys, n', _, _, _, hyl, hfd⟩ := DataW.trod_struct hF htr
     obtain ⟨hfl, hfo⟩ := fitss_at hft
     obtain ⟨xs, h1, h2⟩ := open_ats fs _ 0 cs' hft hcl (fun j q hj => by
      obtain ⟨k1, k2⟩ := hfo j q hj
      simp only [Nat.zero_add] at k1
      have hjl : j < fs.length := by rw [← hfl]; exact (List.getElem?_eq_some_iff.1 hj).1
      have hone : (cs'.drop j).take 1 = [cs'[j]'(by omega)] := by
       rw [List.drop_eq_getElem_cons (by omega)]
       rfl
      obtain ⟨g, hg, hq⟩ := List.mem_flatMap.1 (List.mem_of_getElem? hj)
      obtain ⟨gi, hgi⟩ := List.getElem?_of_mem hg
      have h1 := hfd gi g (by simpa using hgi)
      have hgl : gi < ys.length := by rw [hyl]; simpa using (List.getElem?_eq_some_iff.1 hgi).1
      rw [List.getElem?_eq_getElem hgl] at h1
      have hok := List.all_eq_true.1 hfk g hg
      split at hq
      ·rename_i G hG
       obtain ⟨s, hs, rfl⟩ := List.mem_map.1 hq
       rw [hG] at hok
       have hsl := List.all_eq_true.1 hok s hs
       rw [decide_eq_true_eq] at hsl
       obtain ⟨zs, n'', _, _, _, hzl, hsd⟩ := DataW.trod_struct hG h1
       obtain ⟨si, hsi⟩ := List.getElem?_of_mem hs
       have h2 := hsd si s (by simpa using hsi)
       have hzl' : si < zs.length := by rw [hzl]; simpa using (List.getElem?_eq_some_iff.1 hsi).1
       rw [List.getElem?_eq_getElem hzl', k2, List.drop_take, List.drop_drop, List.take_take, Nat.min_eq_left (by omega)] at h2
       simp only at k1
       rw [k1, hone] at h2
       exact ⟨n'', _, _, List.getElem?_eq_getElem (by omega), h2⟩
      ·obtain rfl := List.mem_singleton.1 hq
       simp only at k1 k2
       rw [k1, k2, hone] at h1
       exact ⟨n', _, _, List.getElem?_eq_getElem (by omega), h1⟩)
     exact ⟨xs, cs', h1, h2, hcell'⟩
    let f : Nat → List IV := fun i => if h : i < len then Classical.choose (each i h) else []
    have hfi : ∀ i (h : i < len), f i = Classical.choose (each i h) := fun i h => by simp only [f, dif_pos h]
    refine ⟨.sl fs.length len f, by simp only [AT.Sh]; exact ⟨len, f, rfl, by omega, fun i hil => by rw [hfi i hil]; exact (Classical.choose_spec (each i hil)).choose_spec.1⟩, ?_⟩
    simp only [IV.R]
    refine ⟨some a, cap, rfl, hl, hm, fun k hk => ?_⟩
    obtain ⟨vs, g1, g2, g3⟩ := Classical.choose_spec (each k hk)
    rw [← hfi k hk] at g1 g2
    obtain ⟨g4, g5⟩ := Shs_one fs _ _ g1 g2
    have hs : a.spot = none := by
     obtain ⟨vs0, q1, q2, q3⟩ := Classical.choose_spec (each 0 (by omega))
     obtain ⟨_, q5⟩ := Shs_one fs _ _ q1 q2
     obtain ⟨v0, vr, hvs⟩ : ∃ v0 vr, vs0 = v0 :: vr := by
      cases vs0 with
      | nil => simp at q5; omega
      | cons v0 vr => exact ⟨v0, vr, rfl⟩
     have h0 := q3 0 v0 (by rw [hvs]; rfl)
     rw [Nat.zero_mul, show (a.add 0).add 0 = a by simp [Addr.add]] at h0
     exact cell_spot h0
    refine ⟨a, vs, rfl, hs, g2, g5, fun j u hj => ?_⟩
    have hcl := g3 j u hj
    rw [add_none' hs, add_none] at hcl
    exact immOf_mk hcl (g4 u (List.mem_of_getElem? hj))
  ·cases h3
 ·cases hB
end
end Go.Proofs.YtgfkepebfaiepaaGreatDoor.Ax

namespace Go.Proofs.YtgfkepebfaiepaaGreatDoor.Ax
open Go.ChangeShapes Go.WideShapes Go.RowKit
theorem rows_ofE {α : Type} [Inhabited α] {n : Nat} {f : Nat → List IV} (g : α → List IV) (Q : α → Prop) (h : ∀ i, i < n → ∃ c, IVEs (f i) (g c) ∧ Q c) : ∃ l : List α, l.length = n ∧ (∀ c ∈ l, Q c) ∧ ∀ i, i < n → IVEs (f i) (g (l.getD i default)) := by
 induction n with
 | zero => exact ⟨[], rfl, fun c hc => by (cases hc), fun i hi => by omega⟩
 | succ n ih =>
   obtain ⟨l, h1, h2, h3⟩ := ih fun i hi => h i (by omega)
   obtain ⟨c, e, q⟩ := h n (by omega)
   refine ⟨l ++ [c], by simp [h1], fun x hx => ?_, fun i hi => ?_⟩
   ·rcases List.mem_append.1 hx with hx | hx
    ·exact h2 x hx
    ·simp only [List.mem_singleton] at hx
     subst hx
     exact q
   ·by_cases hi' : i < n
    ·have := h3 i hi'
     rw [List.getD_eq_getElem?_getD] at this ⊢
     rw [List.getElem?_append_left (by omega)]
     exact this
    ·have : i = n := by omega
     subst this
     have e2 : (l ++ [c]).getD i default = c := by simp [List.getD, ← h1]
     rw [e2]
     exact e
theorem R_rowsE {ι : Imm} {sz n : Nat} {f f' : Nat → List IV} {v : Value} (h : IV.R ι (.sl sz n f) v) (hf : ∀ i, i < n → IVEs (f i) (f' i)) : IV.R ι (.sl sz n f') v := by
 have := (AVE.sl hf).run (fun _ => none) ι v (by simpa only [AV.R] using h)
 simpa only [AV.R] using this
theorem sh_recs {ι : Imm} {x : IV} {v : Value} (h : (AT.sl [.int .u64, .int .i64, .bytes, .bytes, .int .u32, .int .u32]).Sh x) (hr : IV.R ι x v) : ∃ l : List Rec, (l.length ≤ 9223372036854775807 ∧ ∀ r ∈ l, r.W) ∧ IV.R ι (.sl 6 l.length (recF l)) v := by
 simp only [AT.Sh] at h
 obtain ⟨n, f, rfl, hn, hf⟩ := h
 obtain ⟨l, h1, h2, h3⟩ := rows_ofE (f := f) (n := n) recI Rec.W (fun i hi => by
  have hfi := hf i hi
  simp only [AT.Shs, AT.Sh] at hfi
  obtain ⟨_, _, e, ⟨a, rfl, ha⟩, _, _, rfl, ⟨b, rfl, _⟩, _, _, rfl, ⟨c, rfl, hc⟩, _, _, rfl, ⟨d, rfl, hd⟩, _, _, rfl, ⟨g, rfl, hg⟩, _, _, rfl, ⟨k, rfl, hk⟩, rfl⟩ := hfi
  have ha := bounds_u64 ha
  have hg := bounds_u32 hg
  have hk := bounds_u32 hk
  refine ⟨⟨a.toNat, b, c, d, g.toNat, k.toNat⟩, ?_, hc, hd⟩
  rw [e]
  show IVEs _ [IV.v (.int .u64 (a.toNat : Int)), IV.v (.int .i64 b), .bs c, .bs d, IV.v (.int .u32 (g.toNat : Int)), IV.v (.int .u32 (k.toNat : Int))]
  rw [Int.toNat_of_nonneg (by omega), Int.toNat_of_nonneg (by omega), Int.toNat_of_nonneg (by omega)]
  exact IVEs.refl _)
 exact ⟨l, ⟨by rw [h1]; exact hn, h2⟩, by rw [h1]; exact R_rowsE hr h3⟩
theorem sh_u8 {ι : Imm} {x : IV} {v : Value} (h : (AT.int .u8).Sh x) (hr : IV.R ι x v) : ∃ n : Nat, n ≤ 255 ∧ IV.R ι (.v (.int .u8 (n : Int))) v := by
 simp only [AT.Sh] at h
 obtain ⟨z, rfl, hz⟩ := h
 have hz := bounds_u8 hz
 exact ⟨z.toNat, by omega, by rw [Int.toNat_of_nonneg (by omega)]; exact hr⟩
end Go.Proofs.YtgfkepebfaiepaaGreatDoor.Ax
