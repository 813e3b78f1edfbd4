/-
  Chapter 11: the law's walk.
-/
import Derived.Test.YtgfkepebfaiepaaGreatDoorQw
import Derived.Test.YtgfkepebfaiepaaGreatDoorQv
import Derived.Test.YtgfkepebfaiepaaGreatDoorQt
import Derived.Test.YtgfkepebfaiepaaGreatDoorQy
import Derived.LaidHandle
import Derived.LaidSub
import Derived.LaidLaws
import Derived.OpenShut
import Derived.FnData
namespace Go.Proofs.YtgfkepebfaiepaaGreatDoor.Ax
open Go.RowKit
set_option maxRecDepth 100000
def Rec.W (r : Rec) : Prop := r.key.length ≤ 9223372036854775807 ∧ r.val.length ≤ 9223372036854775807
end Go.Proofs.YtgfkepebfaiepaaGreatDoor.Ax

namespace Go.Proofs.YtgfkepebfaiepaaGreatDoor.Ax
open Go.RowKit
set_option maxRecDepth 100000
theorem FI.app_now (f : FI) (c : List UInt8) : (f.app c).now = f.now ++ c := by
 unfold FI.app
 split
 ·rename_i e
  rw [e, List.append_nil]
 ·show f.now ++ c.take c.length = _
  rw [List.take_length]
structure SegSt (Q s t id : Nat) (b : Option (List UInt8)) (l : List Rec) (v : VM) : Prop where
 ok : v.Ok (s + l.length) (t + 1113 * l.length) (s + l.length)
 up : v.Up Q
 has : ∃ f, v.Has (segName id) f ∧ (∀ x, b = some x → f.Adds x) ∧ f.now = segBytes id l
def fst (l : List Rec) : Nat := if l = [] then 0 else 1
def segG (id : Nat) (l : List Rec) (sf : Nat) : SG := ⟨⟨id, offAt l l.length, l.length, fst l, l.length⟩, sf⟩
theorem cr_ok {Q : Nat} (h0 : 16 ≤ Q) (hQ : Q ≤ 1073741824) {id : Nat} (hi : IsId id) : (∀ i, i < 4 → (VM.new Q).crE (segName id) (headB 1 id) i = 0) ∧ SegSt Q 16 16 id (some (headB 1 id)) [] ((VM.new Q).cr (segName id) (headB 1 id) 4) := by
 have hN : (VM.new Q).Ok 0 0 0 := .new (by omega) _ _ _
 have hl := headB_len 1 id
 have hUp : (VM.new (Q : Int)).Up Q := ⟨rfl, rfl, rfl⟩
 obtain ⟨h1, h2, h3, h4, h5, h6, _, _⟩ := made_file hN hUp (x := segName id) (segName_may hi) rfl (Nat.succ_pos 255) (b := headB 1 id) (by rw [hl]; omega)
 refine ⟨fun i hi => ?_, ⟨?_, h6, ⟨headB 1 id, headB 1 id, []⟩, h5, (fun x hx => by injection hx with hx; subst hx; exact ⟨rfl, fun d hd => by cases hd⟩), ?_⟩⟩
 ·have : i = 0 ∨ i = 1 ∨ i = 2 ∨ i = 3 := by omega
  rcases this with rfl | rfl | rfl | rfl
  ·exact h1
  ·exact h2
  ·exact h3
  ·exact h4
 ·exact (hN.cr (segName id) (headB 1 id) 4).more (by simp) (by rw [hl]; simp) (by simp)
 ·show headB 1 id = headB 1 id ++ encs []
  simp [encs]
theorem offAt_le {l : List Rec} (h : Numd l) (i : Nat) : 16 ≤ offAt l i ∧ offAt l i ≤ 16 + 1113 * l.length := by
 refine ⟨Nat.le_add_right _ _, ?_⟩
 have h1 := encs_le (l := l.take i) fun r hr => h.may r (List.mem_of_mem_take hr)
 have h2 : (l.take i).length ≤ l.length := by rw [List.length_take]; exact Nat.min_le_right ..
 unfold offAt
 have := Nat.mul_le_mul_left 1113 h2
 omega
theorem Numd.last {l : List Rec} {r : Rec} (h : Numd (l ++ [r])) : r.May ∧ r.seq = l.length + 1 := by
 refine ⟨h.may r (by simp), ?_⟩
 have := h.seq l.length (by simp)
 simpa [List.getD] using this
theorem Numd.init {l : List Rec} {r : Rec} (h : Numd (l ++ [r])) : Numd l := by
 have := h.take l.length
 simpa using this
theorem SegSt.append {Q s t id : Nat} {b : Option (List UInt8)} {l : List Rec} {v : VM} (h : SegSt Q s t id b l v) {r : Rec} (hn : Numd (l ++ [r])) (hl : l.length ≤ 40) (hQ : (s + l.length) * (t + 1113 * l.length) + r.size ≤ Q) (sf : Nat) :
 (segG id l sf).appE v r = 0 ∧ (segG id l sf).appG v r = segG id (l ++ [r]) sf ∧ (segG id l sf).appL v r = locA id (offAt l l.length) ∧ (segG id l sf).appV v r = v.append (segName id) r.enc ∧ SegSt Q s t id b (l ++ [r]) (v.append (segName id) r.enc) := by
 obtain ⟨hm, hs⟩ := hn.last
 have hsz := May.size hm
 have hel := enc_len r
 obtain ⟨f, hf, ha, hnow⟩ := h.has
 have ho := offAt_le hn.init l.length
 have hb : (segG id l sf).badE r = 0 := by
  unfold SG.badE
  rw [if_neg, if_neg]
  ·show ¬ 16777216 - (offAt l l.length : Int) < (r.size : Int)
   omega
  ·rintro (g | g)
   ·exact g hm
   ·have g : r.seq ≤ l.length := g
    omega
 obtain ⟨a1, a2, a3, a4, _⟩ := hf.append h.ok h.up (c := r.enc) (by omega)
 have e0 : (segG id l sf).appE v r = 0 := by
  unfold SG.appE
  rw [if_neg (by rw [hb]; decide)]
  exact a1
 refine ⟨e0, ?_, if_pos e0, ?_, ⟨?_, a3, f.app r.enc, a2, (fun x hx => (ha x hx).app.1), ?_⟩⟩
 ·unfold SG.appG
  rw [if_pos e0]
  unfold SG.more segG
  have q1 : offAt (l ++ [r]) (l ++ [r]).length = offAt l l.length + r.size := by
   rw [List.length_append]
   exact offAt_snoc l r
  have q2 : fst (l ++ [r]) = 1 := if_neg (by simp)
  have q3 : (if l.length = 0 then r.seq else fst l) = 1 := by
   unfold fst
   by_cases e : l = []
   ·subst e
    simpa using hs
   ·rw [if_neg (by simpa using e), if_neg e]
  show SG.mk ⟨id, offAt l l.length + r.size, l.length + 1, if l.length = 0 then r.seq else fst l, r.seq⟩ sf = SG.mk ⟨id, offAt (l ++ [r]) (l ++ [r]).length, (l ++ [r]).length, fst (l ++ [r]), (l ++ [r]).length⟩ sf
  rw [q3, q2, q1, hs, List.length_append]
  rfl
 ·unfold SG.appV
  rw [if_neg (by rw [hb]; decide)]
  rfl
 ·refine (h.ok.append (segName id) r.enc).more ?_ ?_ ?_ <;> simp <;> omega
 ·rw [FI.app_now, hnow]
  unfold segBytes
  rw [encs_append, List.append_assoc]
  simp [encs]
theorem SegSt.appended {Q s t id : Nat} {b : Option (List UInt8)} {l : List Rec} {v : VM} (h : SegSt Q s t id b l v) {r : Rec} (hn : Numd (l ++ [r])) (hl : l.length ≤ 40) (hs : s ≤ 100) (ht : t ≤ 100000) (hi : IsId id) (hr : r.B) (hQ : (s + l.length) * (t + 1113 * l.length) + r.size ≤ Q) (sf : Nat) :
 AFn Go.Proofs.Tryz.prog 62 [.ptr 1 0, recA r] (sgH (segG id l sf) v) (fun _ : Unit => .tup [locA id (offAt l l.length), AV.int .i64 0]) (fun _ => sgH (segG id (l ++ [r]) sf) (v.append (segName id) r.enc)) := by
 obtain ⟨h1, h2, h3, h4, h5⟩ := h.append hn hl hQ sf
 have ho := offAt_le hn.init l.length
 have := segApp_ok h.ok (by omega) (by omega) (by omega) (segG id l sf) r hr (show id < 4294967296 by unfold IsId at hi; omega) (show offAt l l.length ≤ 16777216 by omega) (show l.length < 4294967295 by omega)
 rw [h1, h2, h3, h4] at this
 exact this
theorem May.B {r : Rec} (h : r.May) : r.B := by
 obtain ⟨_, _, h1, h2, _⟩ := h
 exact ⟨by omega, by omega⟩
theorem SegSt.read {Q s t id : Nat} {b : Option (List UInt8)} {l : List Rec} {v : VM} (h : SegSt Q s t id b l v) (hn : Numd l) (sf : Nat) {i : Nat} (hi : i < l.length) : (segG id l sf).read v id (offAt l i) = (l.getD i default, 0) := by
 obtain ⟨f, hf, ha, hnow⟩ := h.has
 have hm := hn.getMay hi
 have hsz := May.size hm
 have h1 := offAt_succ hi
 have h2 := offAt_mono (l := l) (show i + 1 ≤ l.length by omega)
 have h3 : (segBytes id l).length = offAt l l.length := segBytes_len id l
 have h4 := offAt_le hn i
 have hp : 25 ≤ (l.getD i default).size := by unfold Rec.size; omega
 unfold SG.read
 rw [if_neg (by rintro (g | g | g); exact g rfl; omega; have g : offAt l l.length ≤ offAt l i := g; omega)]
 show SG.rd v (segName id) (offAt l i) (min 1113 (offAt l l.length - offAt l i)) = _
 have e1 : v.readE (segName id) (offAt l i : Int) (min 1113 (offAt l l.length - offAt l i) : Nat) = 0 := by
  rw [hf.readE h.up.off]
  unfold FI.readE
  rw [hnow, h3, if_neg (by omega), if_neg (by omega)]
 have e2 : v.read (segName id) (offAt l i : Int) (min 1113 (offAt l l.length - offAt l i) : Nat) = ((segBytes id l).drop (offAt l i)).take (min 1113 (offAt l l.length - offAt l i)) := by
  rw [hf.read h.up.off]
  have e1' : f.readE (offAt l i : Int) (min 1113 (offAt l l.length - offAt l i) : Nat) = 0 := by rw [← hf.readE h.up.off]; exact e1
  unfold FI.read
  rw [if_pos e1', hnow]
  rfl
 unfold SG.rd
 rw [if_pos e1, e2, seg_read hi hm (by omega)]
 rfl
end Go.Proofs.YtgfkepebfaiepaaGreatDoor.Ax

namespace Go.Proofs.YtgfkepebfaiepaaGreatDoor.Ax
open Go.RowKit
set_option maxRecDepth 100000
noncomputable def cfgWk (N b : Nat) : Cfg := { P := Go.Proofs.Tryz.prog, T := tt, wr := false, N := N, pure := [], base := b, frz := fun op => match op with | .convert .. => true | _ => false }
theorem cfgWkOk (N b : Nat) : (cfgWk N b).Ok := ⟨ttOk, ttBytes, by kernel_rfl⟩
theorem isId (n : Nat) (h : 1 ≤ n ∧ n ≤ 16777215) : IsId n := h
def wkR : Rec := ⟨1, 1, [97, 98, 99], [], 0, 0⟩
theorem wkN : Numd ([] ++ [wkR]) := Numd.nil.snoc ⟨.inl rfl, ⟨by decide, by decide⟩, ⟨by decide, by decide⟩, by decide, .inl ⟨rfl, rfl⟩⟩ rfl
theorem wakes_ok : AFn Go.Proofs.Tryz.prog 15 [] ⟨0, []⟩ (fun _ : Unit => AV.bool true) (fun _ => ⟨0, []⟩) := by
 have a1 := segId_some [115, 101, 103, 45, 48, 48, 48, 48, 102, 102] rfl (n := 255) (by decide +kernel)
 have a2 := segId_some [115, 101, 103, 45, 48, 48, 48, 48, 70, 70] rfl (n := 255) (by decide +kernel)
 rw [show idP [115, 101, 103, 45, 48, 48, 48, 48, 102, 102] = (255, true) by decide +kernel] at a1
 rw [show idP [115, 101, 103, 45, 48, 48, 48, 48, 70, 70] = (0, false) by decide +kernel] at a2
 obtain ⟨c1, c2⟩ := cr_ok (Q := 1000) (by decide) (by decide) (id := 1) (isId 1 (by decide))
 have c3 := segCreate_ok (v := VM.new 1000) (.new (by decide) 0 0 0) (by decide) (by decide) (by decide) 1 (isId 1 (by decide)) c1
 have c4 := c2.appended wkN (by decide) (by decide) (by decide) (isId 1 (by decide)) (May.B wkN.last.1) (by decide) 0
 have c5 := segSeal_ok (segG 1 ([] ++ [wkR]) 0) (VM.append (segName 1) wkR.enc ((VM.new 1000).cr (segName 1) (headB 1 1) 4))
 have n1 := segName_ok 1 (by decide)
 have n2 := segName_ok 255 (by decide)
 rw [show segName 1 = [115, 101, 103, 45, 48, 48, 48, 48, 48, 49] by decide +kernel] at n1
 rw [show segName 255 = [115, 101, 103, 45, 48, 48, 48, 48, 102, 102] by decide +kernel] at n2
 rw [show segG 1 [] 0 = ⟨⟨1, 16, 0, 0, 0⟩, 0⟩ by kernel_rfl, show locA 1 (offAt [] ([] : List Rec).length) = locA 1 16 by kernel_rfl, show segG 1 ([] ++ [wkR]) 0 = ⟨⟨1, 44, 1, 1, 1⟩, 0⟩ by kernel_rfl] at c4
 rw [show segG 1 ([] ++ [wkR]) 0 = ⟨⟨1, 44, 1, 1, 1⟩, 0⟩ by kernel_rfl] at c5
 refine ACall.fin ?_
 refine ACall.walk (C := cfgWk 72 0) (cfgWkOk _ _) [] (fn := Go.Proofs.Tryz.f15) (by kernel_rfl) (by kernel_rfl) rfl (by kernel_rfl) (by kernel_rfl) rfl rfl ?_
 refine goA ?_
 refine AFn.useA [] (a1) fun _ => ?_
 refine goA ?_
 refine AFn.useA [] (a2) fun _ => ?_
 refine goA ?_
 refine AFn.useA [] (new_fs 1000 (by decide)) fun _ => ?_
 refine goA ?_
 refine AFn.useA [0] (c3) fun _ => ?_
 refine goA ?_
 refine ACall.argsE [.ptr 1 0, recA wkR] ⟨AVE.refl _, AVE.aggE ⟨AVE.refl _, AVE.refl _, AVE.refl _, AVE.nilBs, AVE.refl _, AVE.refl _, rfl⟩, rfl⟩ ?_
 refine AFn.useA [0, 1] (c4) fun _ => ?_
 refine goA ?_
 refine AFn.useA [] (n1) fun _ => ?_
 refine goA ?_
 refine AFn.useA [] (n2) fun _ => ?_
 refine goA ?_
 refine AFn.useA [0, 1] (c5) fun _ => ?_
 refine goA ?_
 refine ⟨_, _, Ent.mk' (e' := [(0, AV.bool true)]) (H' := ⟨0, []⟩) [] (by kernel_rfl) ?_ ?_, (), rfl, rfl⟩
 ·exact ⟨AVE.refl _, trivial⟩
 ·trivial
end Go.Proofs.YtgfkepebfaiepaaGreatDoor.Ax

namespace Go.Proofs.YtgfkepebfaiepaaGreatDoor.Ax
open Go.RowKit
set_option maxRecDepth 100000
def idM : Option Nat → Nat × Bool
 | none => (0, false)
 | some n => (n, decide (0 < n))
theorem idR_m {x : List UInt8} (hl : x.length = 10) (hp : x.take 4 = segB) : idR x = idM (parse lowV (x.drop 4) 0) := by
 unfold idR
 rw [if_neg (by rintro (h | h); exact h hl; exact h hp)]
 cases parse lowV (x.drop 4) 0 <;> rfl
set_option maxHeartbeats 4000000 in
theorem refId_ok (x : List UInt8) (_hx : x.length ≤ 9223372036854775807) : AFn Go.Proofs.Tryz.prog 12 [.str x] ⟨0, []⟩ (fun _ : Unit => .tup [AV.int .u32 (idR x).1, AV.bool (idR x).2]) (fun _ => ⟨0, []⟩) := by
 refine ACall.fin ?_
 refine ACall.walk (C := cfg 50 0) (cfgOk _ _) [] (fn := Go.Proofs.Tryz.f12) (by kernel_rfl) (by kernel_rfl) rfl (by kernel_rfl) (by kernel_rfl) rfl rfl ?_
 refine goA ?_
 refine ifdA (fun q => ?_) (fun q => ?_) <;> (try dsimp only at q)
 ·have e : idR x = (0, false) := by
   unfold idR
   rw [if_pos (.inl (by omega))]
  rw [e]
  refine goA ?_
  refine ⟨_, _, Ent.mk' (e' := [(0, .tup [AV.int .u32 0, AV.bool false])]) (H' := ⟨0, []⟩) [] (by kernel_rfl) ?_ ?_, (), rfl, rfl⟩
  ·exact ⟨AVE.refl _, trivial⟩
  ·trivial
 ·have hl : x.length = 10 := by omega
  refine goA ?_
  have ht : List.take ((4 : Int).toNat - Int.toNat 0) (List.drop (Int.toNat 0) x) = x.take 4 := rfl
  rw [ht]
  by_cases hp : x.take 4 = segB
  ·rw [decide_eq_false (show ¬ x.take 4 ≠ (⟨#[115, 101, 103, 45]⟩ : ByteArray).data.toList from fun h => h hp)]
   have e := idR_m hl hp
   refine goA ?_
   refine AWP.loop (X := { p : Nat × Nat // p.1 ≤ 6 ∧ parse lowV ((x.drop 4).take p.1) 0 = some p.2 ∧ p.2 < 16 ^ p.1 }) (fun y => [(0, .str x), (4, AV.int .u32 y.1.2), (5, AV.int .i64 (y.1.1 + 4 : Nat))]) (fun y => ⟨0, []⟩) (fun y => 6 - y.1.1) (⟨(0, 0), Nat.zero_le _, rfl, by decide⟩) ?_ fun y => AWP.go (S := []) (cfgOk _ _) (.of_eq (by kernel_rfl)) ?_
   ·exact Ent.mk' [] (by kernel_rfl) ⟨AVE.refl _, AVE.refl _, AVE.refl _, trivial⟩ trivial
   ·obtain ⟨⟨i, m⟩, hi, hpr, hm⟩ := y
    dsimp only at hi hpr hm ⊢
    refine goA ?_
    refine ifdA (fun h => ?_) (fun h => ?_) <;> (try dsimp only at h)
    ·have hlt : i < (x.drop 4).length := by rw [List.length_drop]; omega
     have hsp : (x.drop 4).take (i + 1) = (x.drop 4).take i ++ [x.getD (i + 4) 0] := by
      rw [List.take_succ_eq_append_getElem hlt]
      congr 2
      rw [List.getElem_drop]
      simp [List.getD, show i + 4 < x.length by omega, Nat.add_comm]
     have hpn := parse_snoc lowV ((x.drop 4).take i) (x.getD (i + 4) 0) 0
     rw [← hsp, hpr, Option.bind_some] at hpn
     have hall := parse_app lowV ((x.drop 4).take (i + 1)) ((x.drop 4).drop (i + 1)) 0
     rw [List.take_append_drop, hpn] at hall
     have hm5 : 16 ^ i ≤ 16 ^ 5 := Nat.pow_le_pow_right (by decide) (by omega)
     have hm6 : 16 ^ (i + 1) = 16 ^ i * 16 := Nat.pow_succ ..
     have h55 : (16 : Nat) ^ 5 = 1048576 := by decide
     have hg : x.getD (((i + 4 : Nat) : Int)).toNat 0 = x.getD (i + 4) 0 := rfl
     have hc := (x.getD (i + 4) 0).toNat_lt
     have hV : lowV (x.getD (i + 4) 0) = if 48 ≤ (x.getD (i + 4) 0).toNat ∧ (x.getD (i + 4) 0).toNat ≤ 57 then some ((x.getD (i + 4) 0).toNat - 48) else if 97 ≤ (x.getD (i + 4) 0).toNat ∧ (x.getD (i + 4) 0).toNat ≤ 102 then some ((x.getD (i + 4) 0).toNat - 87) else none := rfl
     refine goA ?_
     rw [hg]
     generalize x.getD (i + 4) 0 = c at *
     generalize c.toNat = cn at *
     have hk : (48 ≤ cn ∧ cn ≤ 57) ∨ ((cn < 48 ∨ 57 < cn) ∧ (97 ≤ cn ∧ cn ≤ 102)) ∨ ((cn < 48 ∨ 57 < cn) ∧ (cn < 97 ∨ 102 < cn)) := by omega
     rcases hk with hk | hk | hk
     ·have hn : lowV c = some (cn - 48) := by
       rw [hV]
       rw [if_pos (by omega)]
      rw [hn] at hpn
      have hw : wrK IntKind.u32 ((cn : Int) - 48) = (cn : Int) - 48 := by
       show ((cn : Int) - 48) % 4294967296 = _
       omega
      repeat' (refine ifdA (fun q1 => ?_) (fun q1 => ?_) <;> (try dsimp only at q1) <;> first | (exfalso; omega) | (refine goA ?_))
      all_goals
       rw [hw]
       refine goA ?_
       refine ⟨⟨(i + 1, 16 * m + (cn - 48)), by omega, hpn, by show 16 * m + (cn - 48) < 16 ^ (i + 1); omega⟩, Ent.mkA [], ?_⟩
       show 6 - (i + 1) < 6 - i
       omega
     ·have hn : lowV c = some (cn - 87) := by
       rw [hV]
       rw [if_neg (by omega), if_pos (by omega)]
      rw [hn] at hpn
      have hw : wrK IntKind.u32 ((cn : Int) - 97) = (cn : Int) - 97 := by
       show ((cn : Int) - 97) % 4294967296 = _
       omega
      repeat' (refine ifdA (fun q1 => ?_) (fun q1 => ?_) <;> (try dsimp only at q1) <;> first | (exfalso; omega) | (refine goA ?_))
      all_goals
       rw [hw]
       refine goA ?_
       refine ⟨⟨(i + 1, 16 * m + (cn - 87)), by omega, hpn, by show 16 * m + (cn - 87) < 16 ^ (i + 1); omega⟩, Ent.mkA [], ?_⟩
       show 6 - (i + 1) < 6 - i
       omega
     ·have hn : lowV c = none := by
       rw [hV]
       rw [if_neg (by omega), if_neg (by omega)]
      rw [hn] at hall
      rw [e, show parse lowV (x.drop 4) 0 = none from hall]
      repeat' (refine ifdA (fun q1 => ?_) (fun q1 => ?_) <;> (try dsimp only at q1) <;> first | (exfalso; omega) | (refine goA ?_))
      all_goals
       refine ⟨_, _, Ent.mk' (e' := [(0, .tup [AV.int .u32 0, AV.bool false])]) (H' := ⟨0, []⟩) [] (by kernel_rfl) ?_ ?_, (), rfl, rfl⟩
       ·exact ⟨AVE.refl _, trivial⟩
       ·trivial
    ·have : i = 6 := by omega
     subst this
     rw [List.take_of_length_le (by rw [List.length_drop]; omega)] at hpr
     rw [e, hpr]
     refine goA ?_
     rw [show decide ((m : Int) > 0) = decide (0 < m) from decide_eq_decide.2 (by omega)]
     refine ⟨_, _, Ent.mk' (e' := [(0, .tup [AV.int .u32 (idM (some m)).1, AV.bool (idM (some m)).2])]) (H' := ⟨0, []⟩) [] (by kernel_rfl) ?_ ?_, (), rfl, rfl⟩
     ·exact ⟨AVE.refl _, trivial⟩
     ·trivial
  ·rw [decide_eq_true (show x.take 4 ≠ (⟨#[115, 101, 103, 45]⟩ : ByteArray).data.toList from hp)]
   have e : idR x = (0, false) := by
    unfold idR
    rw [if_pos (.inr hp)]
   rw [e]
   refine goA ?_
   refine ⟨_, _, Ent.mk' (e' := [(0, .tup [AV.int .u32 0, AV.bool false])]) (H' := ⟨0, []⟩) [] (by kernel_rfl) ?_ ?_, (), rfl, rfl⟩
   ·exact ⟨AVE.refl _, trivial⟩
   ·trivial
theorem hex_step (id j : Nat) (hj : j < 6) : (hex6 id).drop (6 - (j + 1)) = hexD (id / 16 ^ j % 16) :: (hex6 id).drop (6 - j) := by
 have : j = 0 ∨ j = 1 ∨ j = 2 ∨ j = 3 ∨ j = 4 ∨ j = 5 := by omega
 rcases this with rfl | rfl | rfl | rfl | rfl | rfl
 ·simp [hex6]
 ·rfl
 ·rfl
 ·rfl
 ·rfl
 ·rfl
set_option maxHeartbeats 4000000 in
theorem refName_ok (id : Nat) (hid : id < 4294967296) : AFn Go.Proofs.Tryz.prog 14 [AV.int .u32 id] ⟨0, []⟩ (fun _ : Unit => .str (segName id)) (fun _ => ⟨0, []⟩) := by
 refine ACall.fin ?_
 refine ACall.walk (C := cfg 28 0) (cfgOk _ _) [] (fn := Go.Proofs.Tryz.f14) (by kernel_rfl) (by kernel_rfl) rfl (by kernel_rfl) (by kernel_rfl) rfl rfl ?_
 refine goA ?_
 by_cases hi : IsId id
 ·have hn : segName id = segB ++ hex6 id := if_pos hi
  rw [hn]
  obtain ⟨h1, h2⟩ := hi
  repeat' (refine ifdA (fun q => ?_) (fun q => ?_) <;> (try dsimp only at q) <;> first | (exfalso; omega) | (refine goA ?_))
  refine AWP.loop (X := { j : Nat // j ≤ 6 }) (fun j => [(3, .str ((hex6 id).drop (6 - j.1))), (4, AV.int .u32 (id / 16 ^ j.1 : Nat)), (5, AV.int .i64 j.1)]) (fun j => ⟨0, []⟩) (fun j => 6 - j.1) (⟨0, Nat.zero_le _⟩) ?_ fun j => AWP.go (S := []) (cfgOk _ _) (.of_eq (by kernel_rfl)) ?_
  ·exact Ent.mk' [] (by kernel_rfl) ⟨AVE.refl _, AVE.int (by simp), AVE.refl _, trivial⟩ trivial
  ·obtain ⟨j, hj⟩ := j
   dsimp only
   refine goA ?_
   refine ifdA (fun h => ?_) (fun h => ?_) <;> (try dsimp only at h)
   ·have hst := hex_step id j (by omega)
    have hdiv : id / 16 ^ (j + 1) = id / 16 ^ j / 16 := by rw [Nat.pow_succ, Nat.div_div_eq_div_mul]
    have hlt : id / 16 ^ j ≤ 16777215 := Nat.le_trans (Nat.div_le_self _ _) h2
    have hlen : ((hex6 id).drop (6 - j)).length ≤ 6 := by
     rw [List.length_drop]
     exact Nat.sub_le _ _
    generalize (hex6 id).drop (6 - j) = ds at *
    generalize id / 16 ^ j = n at *
    have hix : (⟨#[48, 49, 50, 51, 52, 53, 54, 55, 56, 57, 97, 98, 99, 100, 101, 102]⟩ : ByteArray).data.toList.getD ((n : Int) % 16).toNat 0 = hexD (n % 16) := by
     rw [show ((n : Int) % 16).toNat = n % 16 by omega]
     exact (by decide : ∀ d, d < 16 → (⟨#[48, 49, 50, 51, 52, 53, 54, 55, 56, 57, 97, 98, 99, 100, 101, 102]⟩ : ByteArray).data.toList.getD d 0 = hexD d) (n % 16) (Nat.mod_lt _ (by decide))
    have hc := (hexD (n % 16)).toNat_lt
    refine goA ?_
    rw [hix]
    refine goA ?_
    have hch : UInt8.ofNat (((hexD (n % 16)).toNat : Nat) : Int).toNat = hexD (n % 16) := by
     show UInt8.ofNat (hexD (n % 16)).toNat = _
     exact UInt8.ofNat_toNat
    refine ⟨⟨j + 1, by omega⟩, Ent.mk' [] (by kernel_rfl) ⟨AVE.of_eq ?_, AVE.int ?_, AVE.int (by show (j : Int) + 1 = ((j + 1 : Nat) : Int); omega), trivial⟩ trivial, by show 6 - (j + 1) < 6 - j; omega⟩
    ·dsimp only
     rw [hst]
     show AV.iv (IV.str (UInt8.ofNat (((hexD (n % 16)).toNat : Nat) : Int).toNat :: ds)) = _
     rw [hch]
     rfl
    ·dsimp only
     rw [hdiv]
     show (n : Int) / 16 = ((n / 16 : Nat) : Int)
     omega
   ·have : j = 6 := by omega
    subst this
    have hlen : (hex6 id).length = 6 := rfl
    rw [show (hex6 id).drop (6 - 6) = hex6 id from rfl]
    generalize hex6 id = ds at *
    refine goA ?_
    refine ⟨_, _, Ent.mk' (e' := [(0, .str (segB ++ ds))]) (H' := ⟨0, []⟩) [] (by kernel_rfl) ?_ ?_, (), rfl, rfl⟩
    ·exact ⟨AVE.refl _, trivial⟩
    ·trivial
 ·have hn : segName id = [] := if_neg hi
  rw [hn]
  unfold IsId at hi
  repeat' (refine ifdA (fun q => ?_) (fun q => ?_) <;> (try dsimp only at q) <;> first | (exfalso; omega) | (refine goA ?_))
  all_goals
   refine ⟨_, _, Ent.mk' (e' := [(0, .str [])]) (H' := ⟨0, []⟩) [] (by kernel_rfl) ?_ ?_, (), rfl, rfl⟩
   ·exact ⟨AVE.refl _, trivial⟩
   ·trivial
end Go.Proofs.YtgfkepebfaiepaaGreatDoor.Ax

namespace Go.Proofs.YtgfkepebfaiepaaGreatDoor.Ax
open Go.RowKit
set_option maxRecDepth 100000
theorem AFn.libF {X : Type} {P : Program} {f : FuncId} {args : List IV} {r : X → Value} (hfn : ∃ fn, P.funcs[f]? = some fn ∧ (fn.name == "runtime.NumGoroutine") = false ∧ fn.body.isNone = false) (h : ∀ ι w vs, GOk (immOf w) → IV.Rs ι args vs → Calls P f vs.toArray w fun e w' => (∃ x, e = .returned (r x)) ∧ Below w.heap.size w w') :
 AFn P f (args.map AV.iv) ⟨0, []⟩ (fun x : X => .iv (.v (r x))) (fun _ => ⟨0, []⟩) :=
 ⟨hfn, fun ρ ι w cargs hG hS hr => by
  refine (h ι w cargs (hG.now hS) ((Rs_iv _ _).1 hr)).mono fun e w' ⟨⟨x, he⟩, hb⟩ => ?_
  subst he
  have ht : Touch (fun _ => False) w w' := ⟨hb.os, hb.tape, hb.output, hb.size, fun k hk _ => hb.block k hk⟩
  obtain ⟨_, q2, q3⟩ := hS.addImm ht w.heap.size (Nat.le_refl _) (fun _ => none) (fun o v h => by cases h)
  exact ⟨.iv (.v (r x)), _, ρ, _, ⟨x, rfl, rfl⟩, by simp only [AV.R, IV.R], q2, q3⟩⟩
theorem toErr_ok (fn s : List UInt8) (hs : s.length ≤ 1000) : AFn Go.Proofs.Tryz.prog 129 [.str fn, .str s, AV.int .i64 16, AV.int .i64 32, .iv (.ifc 270 (.v (.int .i64 2)))] ⟨0, []⟩ (fun n : Nat => .iv (.v (.iface 273 (.pointer (some ⟨n, 0, none⟩))))) (fun _ => ⟨0, []⟩) := by
 refine AFn.libF (args := [.str fn, .str s, .v (.int .i64 16), .v (.int .i64 32), .ifc 270 (.v (.int .i64 2))]) ⟨_, Tryz.func129, by kernel_rfl, by kernel_rfl⟩ fun ι w vs hG hr => ?_
 simp only [IV.Rs, IV.R] at hr
 obtain ⟨u0, us0, rfl, rfl, u1, us1, rfl, rfl, u2, us2, rfl, rfl, u3, us3, rfl, rfl, u4, us4, rfl, ⟨u5, rfl, rfl⟩, rfl⟩ := hr
 have hg := hG (1, [syntaxI]) (by simp [globs])
 simp only [IV.R, IV.Rs] at hg
 obtain ⟨ad, vs, e1, _, ⟨y, ys, rfl, hy, rfl⟩, hc⟩ := hg
 injection e1 with e1
 injection e1 with e1
 subst e1
 have hcell := (immOf_cell (hc 0 y rfl)).1
 have hev : y = .nilIface ∨ ∃ te pe, y = .iface te pe := by
  unfold syntaxI at hy
  simp only [IV.R] at hy
  obtain ⟨z, rfl, _⟩ := hy
  exact .inr ⟨_, _, rfl⟩
 refine (Any.strconv_toError_syntax Tryz.toerr ⟨fn.toArray⟩ ⟨s.toArray⟩ 16 32 y w (by show s.toArray.size ≤ _; rw [List.size_toArray]; omega) hcell hev).mono fun e w' ⟨N, he, _, _, hb⟩ => ⟨⟨N, he⟩, hb⟩
theorem parseS_no (s : List UInt8) (h6 : s.length = 6) (h : parse anyV s 0 = none) : AFn Go.Proofs.Tryz.prog 64 [.str s, AV.int .i64 16, AV.int .i64 32] ⟨0, []⟩ (fun n : Nat => .tup [AV.int .u64 0, .iv (.v (.iface 273 (.pointer (some ⟨n, 0, none⟩))))]) (fun _ => ⟨0, []⟩) := by
 have hp := parseI_ok s h6
 rw [h] at hp
 have hp : AFn Go.Proofs.Tryz.prog 128 [.str s, AV.int .i64 16, AV.int .i64 32] ⟨0, []⟩ (fun _ : Unit => .tup [AV.int .u64 0, .iv (.ifc 270 (.v (.int .i64 2)))]) (fun _ => ⟨0, []⟩) := hp
 refine ACall.fin ?_
 refine ACall.walk (C := cfg 26 0) (cfgOk _ _) [] (fn := Go.Proofs.Tryz.f64) (by kernel_rfl) (by kernel_rfl) rfl (by kernel_rfl) (by kernel_rfl) rfl rfl ?_
 refine goA ?_
 refine AFn.useA [] (hp) fun _ => ?_
 refine goA ?_
 refine AFn.useA [] (toErr_ok [80, 97, 114, 115, 101, 85, 105, 110, 116] s (by omega)) fun n => ?_
 refine goA ?_
 refine ⟨_, _, Ent.mk' (e' := [(0, .tup [AV.int .u64 0, .iv (.v (.iface 273 (.pointer (some ⟨n, 0, none⟩))))])]) (H' := ⟨0, []⟩) [] (by kernel_rfl) ?_ ?_, n, rfl, rfl⟩
 ·exact ⟨AVE.refl _, trivial⟩
 ·trivial
theorem segId_ok (x : List UInt8) (_hx : x.length ≤ 1000) : AFn Go.Proofs.Tryz.prog 11 [.str x] ⟨0, []⟩ (fun _ : Unit => .tup [AV.int .u32 (idP x).1, AV.bool (idP x).2]) (fun _ => ⟨0, []⟩) := by
 by_cases hl : x.length = 10
 ·cases h : parse anyV (x.drop 4) 0 with
  | some n => exact segId_some x hl h
  | none =>
    have e : idP x = (0, false) := by
     unfold idP
     rw [if_neg (not_not_intro hl), h]
    have h6 : (x.drop 4).length = 6 := by rw [List.length_drop, hl]
    have hpo := parseS_no _ h6 h
    rw [e]
    refine ACall.fin ?_
    refine ACall.walk (C := cfg 26 0) (cfgOk _ _) [] (fn := Go.Proofs.Tryz.f11) (by kernel_rfl) (by kernel_rfl) rfl (by kernel_rfl) (by kernel_rfl) rfl rfl ?_
    refine goA ?_
    rw [decide_eq_false (show ¬ (x.length : Int) ≠ 10 by omega)]
    refine goA ?_
    rw [show List.take ((x.length : Int).toNat - Int.toNat 4) (List.drop (Int.toNat 4) x) = x.drop 4 from dropI x 4]
    refine AFn.useA [] (hpo) fun n => ?_
    refine goA ?_
    refine ⟨_, _, Ent.mk' (e' := [(0, .tup [AV.int .u32 0, AV.bool false])]) (H' := ⟨0, []⟩) [] (by kernel_rfl) ?_ ?_, (), rfl, rfl⟩
    ·exact ⟨AVE.refl _, trivial⟩
    ·trivial
 ·have e : idP x = (0, false) := by
   unfold idP
   rw [if_pos hl]
  rw [e]
  refine ACall.fin ?_
  refine ACall.walk (C := cfg 26 0) (cfgOk _ _) [] (fn := Go.Proofs.Tryz.f11) (by kernel_rfl) (by kernel_rfl) rfl (by kernel_rfl) (by kernel_rfl) rfl rfl ?_
  refine goA ?_
  rw [decide_eq_true (show (x.length : Int) ≠ 10 by omega)]
  refine goA ?_
  refine ⟨_, _, Ent.mk' (e' := [(0, .tup [AV.int .u32 0, AV.bool false])]) (H' := ⟨0, []⟩) [] (by kernel_rfl) ?_ ?_, (), rfl, rfl⟩
  ·exact ⟨AVE.refl _, trivial⟩
  ·trivial
end Go.Proofs.YtgfkepebfaiepaaGreatDoor.Ax

namespace Go.Proofs.YtgfkepebfaiepaaGreatDoor.Ax
open Go.RowKit
set_option maxRecDepth 100000
theorem sh_str {ι : Imm} {x : IV} {v : Value} (h : AT.str.Sh x) (hr : IV.R ι x v) : ∃ s : List UInt8, s.length ≤ 9223372036854775807 ∧ IV.R ι (.str s) v := by
 simp only [AT.Sh] at h
 obtain ⟨l, rfl, hl⟩ := h
 exact ⟨l, hl, hr⟩
set_option maxHeartbeats 4000000 in
theorem segNames_law (id : Nat) (hid : id ≤ 4294967295) (s : List UInt8) (hs : s.length ≤ 9223372036854775807) : Law Go.Proofs.Tryz.prog 3 [AV.int .u32 id, .str s] := by
 have ht : List.take ((min (s.length : Int) 12).toNat - Int.toNat 0) (List.drop (Int.toNat 0) s) = s.take 12 := by
  rw [show (min (s.length : Int) 12).toNat - Int.toNat 0 = min 12 s.length by simp; omega, show List.drop (Int.toNat 0) s = s from rfl, ← List.take_take, List.take_length]
 have hx : (s.take 12).length ≤ 12 := by rw [List.length_take]; omega
 have h1 := segId_ok (s.take 12) (by omega)
 have h2 := refId_ok (s.take 12) (by omega)
 rw [idP_eq] at h1
 generalize s.take 12 = x at *
 generalize idR x = p at *
 obtain ⟨n, b⟩ := p
 dsimp only at h1 h2
 refine ACall.fin ?_
 cases b <;> (
 refine ACall.walk (C := cfg 42 0) (cfgOk _ _) [] (fn := Go.Proofs.Tryz.f3) (by kernel_rfl) (by kernel_rfl) rfl (by kernel_rfl) (by kernel_rfl) rfl rfl ?_
 refine goA ?_
 rw [ht]
 refine AFn.useA [] (h1) fun _ => ?_
 refine goA ?_
 refine AFn.useA [] (h2) fun _ => ?_
 refine goA ?_
 refine AFn.useA [] (segName_ok id (by omega)) fun _ => ?_
 refine goA ?_
 refine AFn.useA [] (refName_ok id (by omega)) fun _ => ?_
 refine goA ?_
 rw [decide_eq_true (show segName id = segName id from rfl)]
 refine goA ?_
 rw [decide_eq_true (show ((n : Nat) : Int) = (n : Int) from rfl)]
 refine goA ?_
 refine AFn.useA [] (wakes_ok) fun _ => ?_
 refine goA ?_
 refine ⟨_, _, Ent.mk' (e' := [(0, AV.bool true)]) (H' := ⟨0, []⟩) [] (by kernel_rfl) ?_ ?_, (), rfl, rfl⟩
 ·exact ⟨AVE.refl _, trivial⟩
 ·trivial)
end Go.Proofs.YtgfkepebfaiepaaGreatDoor.Ax

namespace Go.Proofs.YtgfkepebfaiepaaGreatDoor.Ax
open Go.RowKit Go.ChangeShapes
theorem laid_mem {P : Program} {W : World} : ∀ {l : List (String × DataW Unit)} {ps : List MemPlace}, DataW.LaidVars P W l ps → ∀ {n d}, (n, d) ∈ l →
 ∃ g t cs fuel p, P.globalNamed n = some g ∧ (P.globals[g]?).map (·.type) = some t ∧ W.var? P n = some cs ∧ DataW.trod (fun _ => ()) P W 0 (fun _ => true) false fuel t cs.toList = some (d, p) ∧ ∀ q ∈ MemPlace.row ⟨g, 0, none⟩ cs.size ++ p, q ∈ ps
 | [], _, _, _, _, h => by cases h
 | (n', d') :: r, ps, h, n, d, hm => by
  obtain ⟨g, t, cs, fuel, p, q, h1, h2, h3, h4, h5, rfl⟩ := h
  rcases List.mem_cons.1 hm with hm | hm
  ·obtain ⟨rfl, rfl⟩ := Prod.mk.injEq .. ▸ hm
   exact ⟨g, t, cs, fuel, p, h1, h2, h3, h4, fun x hx => List.mem_append_left _ hx⟩
  ·obtain ⟨g', t', cs', fuel', p', k1, k2, k3, k4, k5⟩ := laid_mem h5 hm
   exact ⟨g', t', cs', fuel', p', k1, k2, k3, k4, fun x hx => List.mem_append_right _ (k5 x hx)⟩
theorem laid_one {P : Program} {W : World} {l : List (String × DataW Unit)} (h : laidMetH P l W) {n : String} {d : DataW Unit} (hm : (n, d) ∈ l) (hn : d.handleName?.isNone = true) :
 ∃ g t cs fuel p, P.globalNamed n = some g ∧ (P.globals[g]?).map (·.type) = some t ∧ W.var? P n = some cs ∧ DataW.trod (fun _ => ()) P W 0 (fun _ => true) false fuel t cs.toList = some (d, p) ∧
   ∀ b off, MemPlace.cell b off ∈ MemPlace.row ⟨g, 0, none⟩ cs.size ++ p → ∀ u v, W.cell? ⟨b, off, none⟩ = some (.iface u v) → Value.okWide P W .any 0 u v := by
 obtain ⟨h1, _⟩ := laidMetH_iff.1 h
 obtain ⟨ps, k1, _, k3⟩ := h1
 obtain ⟨g, t, cs, fuel, p, q1, q2, q3, q4, q5⟩ := laid_mem k1 (n := n) (d := d) (List.mem_filter.2 ⟨hm, hn⟩)
 exact ⟨g, t, cs, fuel, p, q1, q2, q3, q4, fun b off hb => (k3 b off (q5 _ hb)).2⟩
theorem pp_of {ι : Imm} {g : Nat} {l : List IV} {vs : List Value} (h : IV.Rs ι l vs) (hc : ∀ j u, vs[j]? = some u → ι g j = some u) : IV.R ι (.pp l) (.pointer (some ⟨g, 0, none⟩)) := by
 simp only [IV.R]
 exact ⟨⟨g, 0, none⟩, vs, rfl, rfl, h, fun j u hj => by simpa using hc j u hj⟩
theorem ints_Rs (ι : Imm) (k : IntKind) : ∀ ns : List Int, IV.Rs ι (ns.map fun n => .v (.int k n)) (ns.map fun n => Value.int k n)
 | [] => rfl
 | n :: ns => by
   rw [List.map_cons, List.map_cons]
   simp only [IV.Rs]
   exact ⟨_, _, rfl, by simp only [IV.R], ints_Rs ι k ns⟩
theorem ints_laid {P : Program} {W : World} {l : List (String × DataW Unit)} (h : laidMetH P l W) {n : String} {g t e : Nat} {k : IntKind} {ns : List Int} (hm : (n, .agg (ns.map fun x => .lit (.int k x))) ∈ l)
 (hP : P.globalNamed n = some g) (hT : (P.globals[g]?).map (·.type) = some t) (ht : P.underlying t = some (.array ns.length e)) (he : P.underlying e = some (.int k)) (hc : P.cellsOf e = 1) (_hct : P.cellsOf t = ns.length)
 (hn : (DataW.agg (ns.map fun x => .lit (.int k x)) : DataW Unit).handleName?.isNone = true) : IV.R (immOf W) (.pp (ns.map fun n => .v (.int k n))) (.pointer (some ⟨g, 0, none⟩)) := by
 obtain ⟨g', t', cs, fuel, p, h1, h2, h3, h4, _⟩ := laid_one h hm hn
 obtain rfl := Option.some.inj (hP.symm.trans h1)
 obtain rfl := Option.some.inj (hT.symm.trans h2)
 obtain ⟨xs, m, _, h5, h6, h7, h8⟩ := DataW.trod_array ht h4
 injection h5 with h5 _
 injection h5 with h5
 refine pp_of (ints_Rs _ k ns) fun j u hj => ?_
 rw [List.getElem?_map] at hj
 cases hnj : ns[j]? with
 | none => rw [hnj] at hj; cases hj
 | some z =>
   rw [hnj] at hj
   injection hj with hj
   subst hj
   have hlt : j < ns.length := (List.getElem?_eq_some_iff.1 hnj).1
   have hx := h8 j hlt
   have hxj : xs[j]?.map (·.1) = some (.lit (.int k z)) := by
    have := congrArg (fun l => l[j]?) h5
    simp only [List.getElem?_map, hnj, Option.map_some] at this
    rw [← this]
   cases hq : xs[j]? with
   | none => rw [hq] at hxj; cases hxj
   | some x =>
     rw [hq] at hx hxj
     obtain ⟨z', e1, e2, _⟩ := DataW.trod_int he hx
     rw [e2] at hxj
     injection hxj with hxj
     injection hxj with hxj
     injection hxj with _ hxj
     subst hxj
     rw [hc, Nat.mul_one] at e1
     have hcell := World.var?_cell hP h3 j
     have : cs[j]? = some (.int k z') := by
      have hh : (cs.toList.drop j).take 1 = [Value.int k z'] := e1
      have : (cs.toList.drop j)[0]? = some (Value.int k z') := by
       have := congrArg (fun l => l[0]?) hh
       simpa using this
      simpa using this
     exact immOf_mk (by rw [hcell, this]) rfl
theorem text_laid {P : Program} {W : World} {l : List (String × DataW Unit)} (h : laidMetH P l W) {n nm : String} {g ti tp te ts : Nat} {ms : Array (String × TypeId)} {f : Field} {text : List UInt8} (hm : (n, .iface nm (.ptr (.agg [.lit (.string text)]))) ∈ l)
 (hP : P.globalNamed n = some g) (hT : (P.globals[g]?).map (·.type) = some ti) (hi : P.underlying ti = some (.interface ms)) (hrow : ∀ u, P.typeName? 3 u = some nm → u = tp)
 (hp : P.underlying tp = some (.pointer te)) (he : P.underlying te = some (.struct #[f])) (hft : f.type = ts) (hfo : f.offset = 0) (hs : P.underlying ts = some .string) (hc : P.cellsOf te = 1) (hcs : P.cellsOf ts = 1)
 (hn : (DataW.iface nm (.ptr (.agg [.lit (.string text)])) : DataW Unit).handleName?.isNone = true) : IV.R (immOf W) (.pp [.ifc tp (.pp [.str text])]) (.pointer (some ⟨g, 0, none⟩)) := by
 obtain ⟨g', t', cs, fuel, p, h1, h2, h3, h4, hok⟩ := laid_one h hm hn
 obtain rfl := Option.some.inj (hP.symm.trans h1)
 obtain rfl := Option.some.inj (hT.symm.trans h2)
 have hcell := World.var?_cell hP h3 0
 obtain ⟨a, s, k1, k2, k3, k4, k5⟩ := errorString_of_trod hi hrow hp he hft hfo hs hc hcs h4 fun u v hv => by
  have hcs1 := Array.eq_one_of_toList hv
  refine hok g 0 ?_ u v ?_
  ·rw [hcs1]
   simp [MemPlace.row]
  ·rw [hcell, hcs1]
   rfl
 rw [Array.eq_one_of_toList k1] at hcell
 have ha : a.spot = none := cell_spot k2
 obtain ⟨ab, ao, _⟩ := a
 subst ha
 refine pp_of (vs := [.iface tp (.pointer (some ⟨ab, ao, none⟩))]) ?_ fun j u hj => ?_
 ·simp only [IV.Rs, IV.R]
  refine ⟨_, _, rfl, ⟨_, rfl, ⟨ab, ao, none⟩, [.string s], rfl, rfl, ⟨_, _, rfl, by rw [← k3], rfl⟩, fun j u hj => ?_⟩, rfl⟩
  cases j with
  | zero => injection hj with hj; subst hj; exact immOf_mk k2 rfl
  | succ j => cases hj
 ·cases j with
  | zero => injection hj with hj; subst hj; exact immOf_mk (by simpa using hcell) rfl
  | succ j => cases hj
end Go.Proofs.YtgfkepebfaiepaaGreatDoor.Ax

namespace Go.Proofs.YtgfkepebfaiepaaGreatDoor.Ax
open Go.ChangeShapes Go.WideShapes Go.ChangeAt Go.RowKit Go.Deep
section
variable {H : Type} {enc : TypeId × Value → H} {P : Program} {w : World} {base : Nat} {spare : Nat → Bool} {held : Bool}
end
end Go.Proofs.YtgfkepebfaiepaaGreatDoor.Ax

namespace Go.Proofs.YtgfkepebfaiepaaGreatDoor.Ax
open Go.ChangeShapes Go.WideShapes Go.RowKit
theorem sh_u32 {ι : Imm} {x : IV} {v : Value} (h : (AT.int .u32).Sh x) (hr : IV.R ι x v) : ∃ n : Nat, n ≤ 4294967295 ∧ IV.R ι (.v (.int .u32 (n : Int))) v := by
 simp only [AT.Sh] at h
 obtain ⟨z, rfl, hz⟩ := h
 have hz := bounds_u32 hz
 exact ⟨z.toNat, by omega, by rw [Int.toNat_of_nonneg (by omega)]; exact hr⟩
end Go.Proofs.YtgfkepebfaiepaaGreatDoor.Ax
