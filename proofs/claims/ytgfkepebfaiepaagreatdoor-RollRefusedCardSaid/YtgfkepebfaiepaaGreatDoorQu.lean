/-
  Chapter 13: segments side by side.
-/
import Derived.Test.YtgfkepebfaiepaaGreatDoorQw
import Derived.Test.YtgfkepebfaiepaaGreatDoorQv
import Derived.Test.YtgfkepebfaiepaaGreatDoorQk
import Derived.Test.YtgfkepebfaiepaaGreatDoorQz
namespace Go.Proofs.YtgfkepebfaiepaaGreatDoor.Ax
open Go.RowKit
set_option maxRecDepth 100000
def recF (l : List Rec) (i : Nat) : List IV := recI (l.getD i default)
def recsA (l : List Rec) : AV := .iv (.sl 6 l.length (recF l))
theorem rec_push {e : Nat} {l : List Rec} {r : Rec} {g : Nat → List IV} (hg : g 0 = recI r) : ChE (.rowc e 6 (l.length + 1) fun j => if j < l.length then recF l j else g (j - l.length)) (.rowc e 6 (l ++ [r]).length (recF (l ++ [r]))) := by
 refine ChE.row (by simp) fun j hj => ?_
 by_cases h : j < l.length
 ·simp only [if_pos h]
  unfold recF
  simp [List.getD, List.getElem?_append_left, h]
 ·have : j = l.length := by simp at hj; omega
  subst this
  simp only [if_neg h, Nat.sub_self]
  rw [hg]
  simp [recF, List.getD]
def Rec.W (r : Rec) : Prop := r.key.length ≤ 9223372036854775807 ∧ r.val.length ≤ 9223372036854775807
theorem cut_B (r : Rec) : r.cut.B := ⟨Nat.le_trans (List.length_take_le ..) (by decide), Nat.le_trans (List.length_take_le ..) (by decide)⟩
def numTo (cap : Nat) (l : List Rec) (i : Nat) : List Rec := (l.take i).foldl (numStep cap) []
theorem numTo_succ {cap : Nat} {l : List Rec} {i : Nat} (h : i < l.length) : numTo cap l (i + 1) = numStep cap (numTo cap l i) (l.getD i default) := by
 unfold numTo
 rw [List.take_succ_eq_append_getElem h, List.foldl_append]
 simp [List.getD, h]
theorem numTo_all (cap : Nat) (l : List Rec) : numTo cap l l.length = numb cap l := by
 unfold numTo numb
 rw [List.take_length]
theorem numTo_ok (cap : Nat) (l : List Rec) (i : Nat) : Numd (numTo cap l i) ∧ (numTo cap l i).length ≤ cap := numb_ok _ _ Numd.nil (Nat.zero_le _)
end Go.Proofs.YtgfkepebfaiepaaGreatDoor.Ax

namespace Go.Proofs.YtgfkepebfaiepaaGreatDoor.Ax
open Go.RowKit
set_option maxRecDepth 100000
theorem FI.app_now (f : FI) (c : List UInt8) : (f.app c).now = f.now ++ c := by
 unfold FI.app
 split
 ·rename_i e
  rw [e, List.append_nil]
 ·show f.now ++ c.take c.length = _
  rw [List.take_length]
structure SegSt (Q s t id : Nat) (b : Option (List UInt8)) (l : List Rec) (v : VM) : Prop where
 ok : v.Ok (s + l.length) (t + 1113 * l.length) (s + l.length)
 up : v.Up Q
 has : ∃ f, v.Has (segName id) f ∧ (∀ x, b = some x → f.Adds x) ∧ f.now = segBytes id l
def fst (l : List Rec) : Nat := if l = [] then 0 else 1
def segG (id : Nat) (l : List Rec) (sf : Nat) : SG := ⟨⟨id, offAt l l.length, l.length, fst l, l.length⟩, sf⟩
theorem May.B {r : Rec} (h : r.May) : r.B := by
 obtain ⟨_, _, h1, h2, _⟩ := h
 exact ⟨by omega, by omega⟩
end Go.Proofs.YtgfkepebfaiepaaGreatDoor.Ax

namespace Go.Proofs.YtgfkepebfaiepaaGreatDoor.Ax
open Go.RowKit
set_option maxRecDepth 100000
theorem isId (n : Nat) (h : 1 ≤ n ∧ n ≤ 16777215) : IsId n := h
end Go.Proofs.YtgfkepebfaiepaaGreatDoor.Ax

namespace Go.Proofs.YtgfkepebfaiepaaGreatDoor.Ax
open Go.RowKit
set_option maxRecDepth 100000
end Go.Proofs.YtgfkepebfaiepaaGreatDoor.Ax

namespace Go.Proofs.YtgfkepebfaiepaaGreatDoor.Ax
open Go.RowKit
set_option maxRecDepth 100000
theorem ACall.freezeR {P : Program} {F : FuncId} {args : List AV} {H : AH} {K QP : AV → AH → Prop} (h : Nat) {e sz n : Nat} {f : Nat → List IV} (hc : H.get h = some (.rowc e sz n f)) (args0 : List AV) (ha : argsF h (.rowc e sz n f) args args0) (hcall : ACall P F args0 (H.del h) K QP) : ACall P F args H K QP :=
 ⟨hcall.fn, fun ρ ι w cargs hG hS hr => by
  obtain ⟨ι', q1, q2, q3, q4⟩ := hS.lend hc
  refine (hcall.run ρ ι' w cargs (hG.mono q1) q2 (argsF_run q1 q4 ha hr)).mono fun en w' hp => ?_
  cases en with
  | returned v => obtain ⟨r, H', ρ', ι2, k, g1, g2, g3⟩ := hp; exact ⟨r, H', ρ', ι2, k, g1, g2, q3.trans g3⟩
  | panicked ch => obtain ⟨v, e, r, H', ρ', ι2, k, g1, g2, g3⟩ := hp; exact ⟨v, e, r, H', ρ', ι2, k, g1, g2, q3.trans g3⟩
  | outgrown => exact hp⟩
end Go.Proofs.YtgfkepebfaiepaaGreatDoor.Ax

namespace Go.Proofs.YtgfkepebfaiepaaGreatDoor.Ax
open Go.RowKit
set_option maxRecDepth 100000
def tailC : Nat → Code → Code
 | n + 1, .seq _ b => tailC n b
 | _, c => c
def bodyOf (f : Func) : Code := match f.body with
 | some c => c
 | none => .skip
def LawQ (f : Func) : Post := ⟨finK tt f.results.toList (resF fun r H' => ∃ r2 H2, Ent 1 0 [(0, r)] H' [(0, r2)] H2 ∧ ∃ _ : Unit, r2 = AV.bool true ∧ H2 = ⟨0, []⟩), fun _ _ _ => False, finK tt f.results.toList (resF fun r H' => ∃ r2 H2, Ent 1 0 [(0, r)] H' [(0, r2)] H2 ∧ ∃ _ : Unit, r2 = AV.bool true ∧ H2 = ⟨0, []⟩), fun _ _ => False⟩
theorem AWP.aheadX {X : Type} {P : Prop} {C : Cfg} {b : Code} {q : Post} (e : X → Env) (H : X → AH) (h : (∀ x, AWP C b (e x) (H x) q) → P) (k : ∀ x, AWP C b (e x) (H x) q) : P := h k
end Go.Proofs.YtgfkepebfaiepaaGreatDoor.Ax

namespace Go.Proofs.YtgfkepebfaiepaaGreatDoor.Ax
open Go.RowKit
set_option maxRecDepth 100000
def FSt (id : Nat) (b : Option (List UInt8)) (l : List Rec) (v : VM) : Prop := ∃ f, v.Has (segName id) f ∧ (∀ x, b = some x → f.Adds x) ∧ f.now = segBytes id l
def lastS (l : List Rec) : Nat := if l = [] then 0 else (l.getD (l.length - 1) default).seq
def firstS (l : List Rec) : Nat := if l = [] then 0 else (l.getD 0 default).seq
def sealS (id : Nat) (l : List Rec) : Sl := ⟨id, offAt l l.length, l.length, firstS l, lastS l⟩
def segA (id : Nat) (l : List Rec) (sf : Nat) : SG := ⟨sealS id l, sf⟩
theorem lastS_snoc (l : List Rec) (r : Rec) : lastS (l ++ [r]) = r.seq := by
 unfold lastS
 rw [if_neg (by simp)]
 simp [List.getD]
theorem firstS_snoc (l : List Rec) (r : Rec) : firstS (l ++ [r]) = if l.length = 0 then r.seq else firstS l := by
 unfold firstS
 rw [if_neg (by simp)]
 cases l with
 | nil => rfl
 | cons a t => rfl
theorem asc_snoc : ∀ {l : List Rec} {s : Nat} {r : Rec}, Asc s l → r.May → (if l = [] then s else lastS l) < r.seq → Asc s (l ++ [r])
 | [], s, r, _, h2, h3 => ⟨h2, h3, trivial⟩
 | a :: t, s, r, h1, h2, h3 => by
   refine ⟨h1.1, h1.2.1, asc_snoc h1.2.2 h2 ?_⟩
   rw [if_neg (by simp)] at h3
   unfold lastS at h3 ⊢
   rw [if_neg (by simp)] at h3
   cases t with
   | nil => exact h3
   | cons b u =>
     rw [if_neg (by simp), if_neg (by simp)]
     exact h3
theorem asc_last : ∀ {l : List Rec} {s : Nat} {r : Rec}, Asc s (l ++ [r]) → r.May ∧ (if l = [] then s else lastS l) < r.seq
 | [], s, r, h => ⟨h.1, h.2.1⟩
 | a :: t, s, r, h => by
   have ih := asc_last (l := t) h.2.2
   refine ⟨ih.1, ?_⟩
   have h3 := ih.2
   rw [if_neg (by simp)]
   unfold lastS at h3 ⊢
   rw [if_neg (by simp)]
   cases t with
   | nil => exact h3
   | cons b u =>
     rw [if_neg (by simp), if_neg (by simp)] at h3
     exact h3
theorem asc_last0 {l : List Rec} {r : Rec} (h : Asc 0 (l ++ [r])) : r.May ∧ lastS l < r.seq := by
 have := asc_last h
 refine ⟨this.1, ?_⟩
 have h2 := this.2
 by_cases e : l = []
 ·rw [if_pos e] at h2
  rw [show lastS l = 0 from if_pos e]
  exact h2
 ·rw [if_neg e] at h2
  exact h2
theorem offM_le {l : List Rec} (h : ∀ r ∈ l, r.May) (i : Nat) : 16 ≤ offAt l i ∧ offAt l i ≤ 16 + 1113 * l.length := by
 refine ⟨Nat.le_add_right _ _, ?_⟩
 have h1 := encs_le (l := l.take i) fun r hr => h r (List.mem_of_mem_take hr)
 have h2 : (l.take i).length ≤ l.length := by rw [List.length_take]; exact Nat.min_le_right ..
 unfold offAt
 have := Nat.mul_le_mul_left 1113 h2
 omega
theorem getMayA {l : List Rec} (h : ∀ r ∈ l, r.May) {i : Nat} (hi : i < l.length) : (l.getD i default).May := h _ (by simp [List.getD, hi])
theorem FSt.other {id id' : Nat} {b : Option (List UInt8)} {l : List Rec} {v w : VM} (hi : IsId id) (hi' : IsId id') (hne : id' ≠ id) (hw : ∀ y g, y ≠ segName id → v.Has y g → w.Has y g) (h : FSt id' b l v) : FSt id' b l w := by
 obtain ⟨f, h1, h2, h3⟩ := h
 exact ⟨f, hw _ _ (fun e => hne (segName_inj hi' hi e)) h1, h2, h3⟩
theorem FSt.append {n B k Q id : Nat} {b : Option (List UInt8)} {l : List Rec} {v : VM} (ok : v.Ok n B k) (up : v.Up Q) (h : FSt id b l v) {r : Rec} (hA : Asc 0 (l ++ [r])) (hs : offAt l l.length + r.size ≤ 16777216) (hQ : n * B + r.size ≤ Q) (sf : Nat) :
 (segA id l sf).appE v r = 0 ∧ (segA id l sf).appG v r = segA id (l ++ [r]) sf ∧ (segA id l sf).appL v r = locA id (offAt l l.length) ∧ (segA id l sf).appV v r = v.append (segName id) r.enc ∧ FSt id b (l ++ [r]) (v.append (segName id) r.enc) ∧ (v.append (segName id) r.enc).Up Q ∧ ∀ y g, y ≠ segName id → v.Has y g → (v.append (segName id) r.enc).Has y g := by
 obtain ⟨hm, hq⟩ := asc_last0 hA
 have hel := enc_len r
 obtain ⟨f, hf, ha, hnow⟩ := h
 have hb : (segA id l sf).badE r = 0 := by
  unfold SG.badE
  rw [if_neg, if_neg]
  ·show ¬ 16777216 - (offAt l l.length : Int) < (r.size : Int)
   omega
  ·rintro (g | g)
   ·exact g hm
   ·have g : r.seq ≤ lastS l := g
    omega
 obtain ⟨a1, a2, a3, _, a5⟩ := hf.append ok up (c := r.enc) (by omega)
 have e0 : (segA id l sf).appE v r = 0 := by
  unfold SG.appE
  rw [if_neg (by rw [hb]; decide)]
  exact a1
 refine ⟨e0, ?_, if_pos e0, ?_, ⟨f.app r.enc, a2, (fun x hx => (ha x hx).app.1), ?_⟩, a3, a5⟩
 ·unfold SG.appG
  rw [if_pos e0]
  unfold SG.more segA sealS
  have q1 : offAt (l ++ [r]) (l ++ [r]).length = offAt l l.length + r.size := by
   rw [List.length_append]
   exact offAt_snoc l r
  rw [q1, firstS_snoc, lastS_snoc, List.length_append]
  rfl
 ·unfold SG.appV
  rw [if_neg (by rw [hb]; decide)]
  rfl
 ·rw [FI.app_now, hnow]
  unfold segBytes
  rw [encs_append, List.append_assoc]
  simp [encs]
theorem FSt.sync {n B k Q id : Nat} {b : Option (List UInt8)} {l : List Rec} {v : VM} (ok : v.Ok n B k) (up : v.Up Q) (h : FSt id b l v) : v.syncE (segName id) = 0 ∧ FSt id (some (segBytes id l)) l (v.sync (segName id)) ∧ (v.sync (segName id)).Up Q ∧ ∀ y g, y ≠ segName id → v.Has y g → (v.sync (segName id)).Has y g := by
 obtain ⟨f, hf, _, hnow⟩ := h
 obtain ⟨a1, a2, a3, _, a5⟩ := hf.sync ok up
 refine ⟨a1, ⟨⟨f.now, f.now, []⟩, a2, fun x hx => ?_, hnow⟩, a3, a5⟩
 injection hx with hx
 rw [← hx, ← hnow]
 exact ⟨rfl, fun d hd => by cases hd⟩
theorem FSt.madeG {n B k Q id : Nat} {v : VM} (ok : v.Ok n B k) (up : v.Up Q) (hi : IsId id) (hno : afind v.fd.now (segName id) = none) (h256 : v.fd.now.length < 256) (ha : VM.appE (headB 1 id) (v.create (segName id)).tick ⟨[], [], []⟩ = 0) :
 (∀ i, i < 4 → v.crE (segName id) (headB 1 id) i = 0) ∧ FSt id (some (headB 1 id)) [] (v.cr (segName id) (headB 1 id) 4) ∧ (v.cr (segName id) (headB 1 id) 4).Up Q ∧ (v.cr (segName id) (headB 1 id) 4).fd.now = aput v.fd.now (segName id) (v.fd.last + 1) ∧ ∀ y g, v.Has y g → (v.cr (segName id) (headB 1 id) 4).Has y g := by
 obtain ⟨h1, h2, h3, h4, h5, h6, h7, h8⟩ := made_fileG ok up (x := segName id) (segName_may hi) hno h256 (b := headB 1 id) ha
 refine ⟨fun i hi => ?_, ⟨⟨headB 1 id, headB 1 id, []⟩, h5, (fun x hx => by injection hx with hx; subst hx; exact ⟨rfl, fun d hd => by cases hd⟩), ?_⟩, h6, h7, h8⟩
 ·have : i = 0 ∨ i = 1 ∨ i = 2 ∨ i = 3 := by omega
  rcases this with rfl | rfl | rfl | rfl
  ·exact h1
  ·exact h2
  ·exact h3
  ·exact h4
 ·show headB 1 id = headB 1 id ++ encs []
  simp [encs]
theorem FSt.read {Q id : Nat} {b : Option (List UInt8)} {l : List Rec} {v : VM} (up : v.Up Q) (h : FSt id b l v) (hM : ∀ r ∈ l, r.May) (sf : Nat) {i : Nat} (hi : i < l.length) : (segA id l sf).read v id (offAt l i) = (l.getD i default, 0) := by
 obtain ⟨f, hf, ha, hnow⟩ := h
 have hm := getMayA hM hi
 have hsz := May.size hm
 have h1 := offAt_succ hi
 have h2 := offAt_mono (l := l) (show i + 1 ≤ l.length by omega)
 have h3 : (segBytes id l).length = offAt l l.length := segBytes_len id l
 have h4 := offM_le hM i
 have hp : 25 ≤ (l.getD i default).size := by unfold Rec.size; omega
 unfold SG.read
 rw [if_neg (by rintro (g | g | g); exact g rfl; omega; have g : offAt l l.length ≤ offAt l i := g; omega)]
 show SG.rd v (segName id) (offAt l i) (min 1113 (offAt l l.length - offAt l i)) = _
 have e1 : v.readE (segName id) (offAt l i : Int) (min 1113 (offAt l l.length - offAt l i) : Nat) = 0 := by
  rw [hf.readE up.off]
  unfold FI.readE
  rw [hnow, h3, if_neg (by omega), if_neg (by omega)]
 have e2 : v.read (segName id) (offAt l i : Int) (min 1113 (offAt l l.length - offAt l i) : Nat) = ((segBytes id l).drop (offAt l i)).take (min 1113 (offAt l l.length - offAt l i)) := by
  rw [hf.read up.off]
  have e1' : f.readE (offAt l i : Int) (min 1113 (offAt l l.length - offAt l i) : Nat) = 0 := by rw [← hf.readE up.off]; exact e1
  unfold FI.read
  rw [if_pos e1', hnow]
  rfl
 unfold SG.rd
 rw [if_pos e1, e2, seg_read hi hm (by omega)]
 rfl
end Go.Proofs.YtgfkepebfaiepaaGreatDoor.Ax

namespace Go.Proofs.YtgfkepebfaiepaaGreatDoor.Ax
open Go.RowKit
set_option maxRecDepth 100000
end Go.Proofs.YtgfkepebfaiepaaGreatDoor.Ax

namespace Go.Proofs.YtgfkepebfaiepaaGreatDoor.Ax
open Go.RowKit
set_option maxRecDepth 100000
structure Sg where
 id : Nat
 l : List Rec
 c : Nat
instance : Inhabited Sg := ⟨⟨0, [], 0⟩⟩
def recsOf (S : List Sg) : List Rec := S.flatMap Sg.l
structure RI (lim Q n B k : Nat) (L : List Rec) (S : List Sg) (next : Nat) (v : VM) : Prop where
 ok : v.Ok n B k
 up : v.Up Q
 recs : recsOf S = L
 asc : Asc 0 L
 ids : ∀ p ∈ S, IsId p.id ∧ p.id < next
 inc : S.Pairwise fun p q => p.id < q.id
 size : ∀ p ∈ S, offAt p.l p.l.length ≤ lim
 safe : ∀ p ∈ S, p.c ≤ p.l.length ∧ FSt p.id (some (segBytes p.id (p.l.take p.c))) p.l v
 names : ∀ p ∈ v.fd.now, ∃ j, IsId j ∧ j < next ∧ p.1 = segName j
 few : v.fd.now.length < next
theorem recsOf_append (S T : List Sg) : recsOf (S ++ T) = recsOf S ++ recsOf T := by simp [recsOf]
theorem recsOf_one (p : Sg) : recsOf [p] = p.l := by simp [recsOf]
theorem asc_left : ∀ {l t : List Rec} {s : Nat}, Asc s (l ++ t) → Asc s l
 | [], _, _, _ => trivial
 | _ :: _, _, _, h => ⟨h.1, h.2.1, asc_left h.2.2⟩
theorem asc_right : ∀ {l t : List Rec} {s : Nat}, Asc s (l ++ t) → Asc s t
 | [], _, _, h => h
 | _ :: _, _, _, h => asc_weak (asc_right h.2.2) (Nat.le_of_lt h.2.1)
theorem asc_of_mem : ∀ {S : List Sg} {s : Nat}, Asc s (recsOf S) → ∀ p ∈ S, Asc s p.l
 | [], _, _, _, h => by cases h
 | q :: S, s, h, p, hp => by
   have h : Asc s (q.l ++ recsOf S) := h
   rcases List.mem_cons.1 hp with rfl | hp
   ·exact asc_left h
   ·exact asc_of_mem (asc_right h) p hp
theorem RI.ascOf {lim Q n B k : Nat} {L : List Rec} {S : List Sg} {next : Nat} {v : VM} (h : RI lim Q n B k L S next v) {p : Sg} (hp : p ∈ S) : Asc 0 p.l := asc_of_mem (by rw [h.recs]; exact h.asc) p hp
theorem lastS_append (l t : List Rec) (ht : t ≠ []) : lastS (l ++ t) = lastS t := by
 have h2 : 0 < t.length := List.length_pos_iff.2 ht
 unfold lastS
 rw [if_neg (by simp [ht]), if_neg ht]
 rw [List.getD_eq_getElem?_getD, List.getD_eq_getElem?_getD, List.getElem?_append_right (by rw [List.length_append]; omega)]
 rw [List.length_append, show l.length + t.length - 1 - l.length = t.length - 1 by omega]
theorem lastS_nil : lastS [] = 0 := rfl
theorem asc_lastS : ∀ {l : List Rec} {s : Nat}, Asc s l → l ≠ [] → s < lastS l
 | [r], s, h, _ => h.2.1
 | r :: a :: t, s, h, _ => by
   have := asc_lastS h.2.2 (by simp)
   rw [show r :: a :: t = [r] ++ (a :: t) from rfl, lastS_append _ _ (by simp)]
   have := h.2.1
   omega
theorem asc_lastS_le {l t : List Rec} {s : Nat} (h : Asc s (l ++ t)) : lastS l ≤ lastS (l ++ t) := by
 by_cases ht : t = []
 ·subst ht; simp
 ·rw [lastS_append _ _ ht]
  have key : ∀ {l : List Rec} {s : Nat}, Asc s (l ++ t) → lastS l < lastS t := by
   intro l
   induction l with
   | nil => intro s h; have := asc_lastS (l := t) h ht; rw [lastS_nil]; omega
   | cons r u ih =>
     intro s h
     have := ih h.2.2
     by_cases hu : u = []
     ·subst hu
      exact asc_lastS (l := t) h.2.2 ht
     ·rw [show r :: u = [r] ++ u from rfl, lastS_append _ _ hu]
      exact this
  exact Nat.le_of_lt (key h)
def lastR (o : Nat) (l : List Sl) : Nat := l.foldl (fun a s => max a s.last) o
def sealsOf (S : List Sg) : List Sl := S.map fun p => sealS p.id p.l
theorem lastR_max : ∀ (l : List Sl) (o : Nat), lastR o l = max o (lastR 0 l)
 | [], o => by simp [lastR]
 | s :: l, o => by
   have h1 := lastR_max l (max o s.last)
   have h2 := lastR_max l (max 0 s.last)
   unfold lastR at *
   rw [List.foldl_cons, List.foldl_cons, h1, h2]
   omega
theorem lastR_recs : ∀ {S : List Sg} {s : Nat}, Asc s (recsOf S) → lastR 0 (sealsOf S) = lastS (recsOf S)
 | [], _, _ => rfl
 | p :: S, s, h => by
   have h : Asc s (p.l ++ recsOf S) := h
   have ih := lastR_recs (asc_right h)
   have e : lastR 0 (sealsOf (p :: S)) = max (lastS p.l) (lastR 0 (sealsOf S)) := by
    show lastR (max 0 (lastS p.l)) (sealsOf S) = _
    rw [lastR_max]
    omega
   have e2 : recsOf (p :: S) = p.l ++ recsOf S := rfl
   rw [e, ih, e2]
   by_cases ht : recsOf S = []
   ·rw [ht, List.append_nil, lastS_nil]
    omega
   ·rw [lastS_append _ _ ht]
    have := asc_lastS_le h
    rw [lastS_append _ _ ht] at this
    omega
theorem RI.last {lim Q n B k : Nat} {L : List Rec} {d : List Sg} {p : Sg} {next : Nat} {v : VM} (h : RI lim Q n B k L (d ++ [p]) next v) : lastR (lastS p.l) (sealsOf d) = lastS L := by
 have h1 := lastR_recs (S := d ++ [p]) (s := 0) (by rw [h.recs]; exact h.asc)
 rw [h.recs] at h1
 rw [← h1, lastR_max]
 unfold sealsOf
 rw [List.map_append]
 unfold lastR
 rw [List.foldl_append]
 show _ = max (List.foldl _ 0 _) (lastS p.l)
 omega
theorem RI.last0 {lim Q n B k : Nat} {L : List Rec} {d : List Sg} {next : Nat} {v : VM} (h : RI lim Q n B k L d next v) : lastR 0 (sealsOf d) = lastS L := by
 have h1 := lastR_recs (S := d) (s := 0) (by rw [h.recs]; exact h.asc)
 rw [h.recs] at h1
 exact h1
section
variable {lim Q n B k : Nat} {L : List Rec} {d S : List Sg} {next : Nat} {v : VM}
theorem RI.more {n' B' k' : Nat} (h : RI lim Q n B k L S next v) (h1 : n ≤ n') (h2 : B ≤ B') (h3 : k ≤ k') : RI lim Q n' B' k' L S next v :=
 ⟨h.ok.more h1 h2 h3, h.up, h.recs, h.asc, h.ids, h.inc, h.size, h.safe, h.names, h.few⟩
theorem RI.idsD {p : Sg} (h : RI lim Q n B k L (d ++ [p]) next v) : ∀ q ∈ d, q.id < p.id := fun q hq => by
 have := h.inc
 rw [List.pairwise_append] at this
 exact this.2.2 q hq p (by simp)
theorem inc_same {id c c' : Nat} {l l' : List Rec} (h : (d ++ [(⟨id, l, c⟩ : Sg)]).Pairwise fun p q : Sg => p.id < q.id) : (d ++ [(⟨id, l', c'⟩ : Sg)]).Pairwise fun p q : Sg => p.id < q.id := by
 rw [List.pairwise_append] at h ⊢
 refine ⟨h.1, List.pairwise_singleton _ _, fun a ha b hb => ?_⟩
 rw [List.mem_singleton.1 hb]
 have := h.2.2 a ha (⟨id, l, c⟩ : Sg) (List.mem_singleton.2 rfl)
 exact this
theorem RI.append {id c : Nat} {l : List Rec} (h : RI lim Q n B k L (d ++ [⟨id, l, c⟩]) next v) (hlim : lim ≤ 16777216) {r : Rec} (hr : r.May) (hq : lastS L < r.seq) (hs : offAt l l.length + r.size ≤ lim) (hQ : n * B + r.size ≤ Q) :
 (∀ sf, (segA id l sf).appE v r = 0 ∧ (segA id l sf).appG v r = segA id (l ++ [r]) sf ∧ (segA id l sf).appL v r = locA id (offAt l l.length) ∧ (segA id l sf).appV v r = v.append (segName id) r.enc) ∧
   RI lim Q (n + 1) (B + r.size) (k + 1) (L ++ [r]) (d ++ [⟨id, l ++ [r], c⟩]) next (v.append (segName id) r.enc) := by
 have hm : (⟨id, l, c⟩ : Sg) ∈ d ++ [⟨id, l, c⟩] := by simp
 have hA : Asc 0 (L ++ [r]) := asc_snoc h.asc hr (by
  by_cases e : L = []
  ·rw [if_pos e]; rw [e, lastS_nil] at hq; exact hq
  ·rw [if_neg e]; exact hq)
 have hrec : L = recsOf d ++ l := by rw [← h.recs, recsOf_append, recsOf_one]
 have hAl : Asc 0 (l ++ [r]) := by
  rw [hrec, List.append_assoc] at hA
  exact asc_right hA
 obtain ⟨_, hi⟩ := h.ids _ hm
 have hid := (h.ids _ hm).1
 obtain ⟨hc, hF⟩ := h.safe _ hm
 obtain ⟨_, _, _, _, a5, a6, a7⟩ := hF.append h.ok h.up hAl (by show offAt l l.length + r.size ≤ 16777216; omega) hQ 0
 have hfd : (v.append (segName id) r.enc).fd = v.fd := by
  obtain ⟨f, hf, _, _⟩ := hF
  exact (hf.append h.ok h.up (c := r.enc) (by rw [enc_len]; exact hQ)).2.2.2.1
 refine ⟨fun sf => ?_, ⟨(h.ok.append (segName id) r.enc).more (Nat.le_refl _) (by rw [enc_len]; exact Nat.le_refl _) (Nat.le_refl _), a6, ?_, hA, fun p hp => ?_, inc_same h.inc, fun p hp => ?_, fun p hp => ?_, fun p hp => ?_, ?_⟩⟩
 ·obtain ⟨a1, a2, a3, a4, _⟩ := hF.append h.ok h.up hAl (by show offAt l l.length + r.size ≤ 16777216; omega) hQ sf
  exact ⟨a1, a2, a3, a4⟩
 ·rw [recsOf_append, recsOf_one, hrec, List.append_assoc]
 ·rcases List.mem_append.1 hp with hp | hp
  ·exact h.ids p (List.mem_append_left _ hp)
  ·rw [List.mem_singleton.1 hp]; exact ⟨hid, hi⟩
 ·rcases List.mem_append.1 hp with hp | hp
  ·exact h.size p (List.mem_append_left _ hp)
  ·rw [List.mem_singleton.1 hp]
   show offAt (l ++ [r]) (l ++ [r]).length ≤ lim
   rw [List.length_append]
   have := offAt_snoc l r
   show offAt (l ++ [r]) (l.length + 1) ≤ lim
   omega
 ·rcases List.mem_append.1 hp with hp | hp
  ·obtain ⟨b1, b2⟩ := h.safe p (List.mem_append_left _ hp)
   have hne := h.idsD p hp
   exact ⟨b1, b2.other hid (h.ids p (List.mem_append_left _ hp)).1 (by show p.id ≠ id; have : p.id < id := hne; omega) a7⟩
  ·rw [List.mem_singleton.1 hp]
   refine ⟨by show c ≤ (l ++ [r]).length; rw [List.length_append]; have : c ≤ l.length := hc; omega, ?_⟩
   show FSt id (some (segBytes id ((l ++ [r]).take c))) (l ++ [r]) _
   rw [List.take_append_of_le_length hc]
   exact a5
 ·rw [hfd] at hp
  exact h.names p hp
 ·rw [hfd]
  exact h.few
theorem RI.sync {id c : Nat} {l : List Rec} (h : RI lim Q n B k L (d ++ [⟨id, l, c⟩]) next v) : v.syncE (segName id) = 0 ∧ RI lim Q n B (k + 1) L (d ++ [⟨id, l, l.length⟩]) next (v.sync (segName id)) := by
 have hm : (⟨id, l, c⟩ : Sg) ∈ d ++ [⟨id, l, c⟩] := by simp
 obtain ⟨hid, hi⟩ := h.ids _ hm
 obtain ⟨hc, hF⟩ := h.safe _ hm
 obtain ⟨a1, a2, a3, a4⟩ := hF.sync h.ok h.up
 have hfd : (v.sync (segName id)).fd = v.fd := by
  obtain ⟨f, hf, _, _⟩ := hF
  exact (hf.sync h.ok h.up).2.2.2.1
 refine ⟨a1, ⟨h.ok.sync (segName id), a3, ?_, h.asc, fun p hp => ?_, inc_same h.inc, fun p hp => ?_, fun p hp => ?_, fun p hp => ?_, ?_⟩⟩
 ·rw [← h.recs, recsOf_append, recsOf_append, recsOf_one, recsOf_one]
 ·rcases List.mem_append.1 hp with hp | hp
  ·exact h.ids p (List.mem_append_left _ hp)
  ·rw [List.mem_singleton.1 hp]; exact ⟨hid, hi⟩
 ·rcases List.mem_append.1 hp with hp | hp
  ·exact h.size p (List.mem_append_left _ hp)
  ·rw [List.mem_singleton.1 hp]; have := h.size (⟨id, l, c⟩ : Sg) hm; exact this
 ·rcases List.mem_append.1 hp with hp | hp
  ·obtain ⟨b1, b2⟩ := h.safe p (List.mem_append_left _ hp)
   have hne := h.idsD p hp
   exact ⟨b1, b2.other hid (h.ids p (List.mem_append_left _ hp)).1 (by show p.id ≠ id; have : p.id < id := hne; omega) a4⟩
  ·rw [List.mem_singleton.1 hp]
   refine ⟨Nat.le_refl _, ?_⟩
   show FSt id (some (segBytes id (l.take l.length))) l _
   rw [List.take_length]
   exact a2
 ·rw [hfd] at hp
  exact h.names p hp
 ·rw [hfd]
  exact h.few
theorem aput_len {β : Type} (l : List (List UInt8 × β)) (s : List UInt8) (n : β) : (aput l s n).length ≤ l.length + 1 := by
 induction l with
 | nil => simp [aput]
 | cons p t ih =>
   unfold aput
   split
   ·simp
   ·simp only [List.length_cons]
    omega
theorem aput_mem {β : Type} {l : List (List UInt8 × β)} {s : List UInt8} {n : β} {p : List UInt8 × β} (h : p ∈ aput l s n) : p ∈ l ∨ p.1 = s := by
 induction l with
 | nil =>
   simp [aput] at h
   exact .inr (by rw [h])
 | cons q t ih =>
   unfold aput at h
   split at h
   ·rename_i e
    rcases List.mem_cons.1 h with h | h
    ·exact .inr (by rw [h])
    ·exact .inl (List.mem_cons_of_mem _ h)
   ·rcases List.mem_cons.1 h with h | h
    ·exact .inl (by rw [h]; exact List.mem_cons_self ..)
    ·rcases ih h with h | h
     ·exact .inl (List.mem_cons_of_mem _ h)
     ·exact .inr h
theorem RI.noName (h : RI lim Q n B k L S next v) (hn : IsId next) : afind v.fd.now (segName next) = none := by
 rw [afind_none]
 intro hm
 obtain ⟨p, hp, e⟩ := List.mem_map.1 hm
 obtain ⟨j, h1, h2, h3⟩ := h.names p hp
 have := segName_inj h1 hn (h3.symm.trans e)
 omega
theorem RI.madeG (h : RI lim Q n B k L S next v) (hlim : 16 ≤ lim) (hn : IsId next) (h256 : next ≤ 256) (ha : VM.appE (headB 1 next) (v.create (segName next)).tick ⟨[], [], []⟩ = 0) :
 (∀ i, i < 4 → v.crE (segName next) (headB 1 next) i = 0) ∧ RI lim Q (n + 3) (B + 16) (k + 4) L (S ++ [⟨next, [], 0⟩]) (next + 1) (v.cr (segName next) (headB 1 next) 4) := by
 have hf := h.few
 obtain ⟨a1, a2, a3, a4, a5⟩ := FSt.madeG h.ok h.up hn (h.noName hn) (by omega) ha
 refine ⟨a1, ⟨(h.ok.cr (segName next) (headB 1 next) 4).more (Nat.le_refl _) (by rw [headB_len]; exact Nat.le_refl _) (Nat.le_refl _), a3, ?_, h.asc, fun p hp => ?_, ?_, fun p hp => ?_, fun p hp => ?_, fun p hp => ?_, ?_⟩⟩
 ·rw [recsOf_append, recsOf_one, h.recs, List.append_nil]
 ·rcases List.mem_append.1 hp with hp | hp
  ·obtain ⟨b1, b2⟩ := h.ids p hp
   exact ⟨b1, by omega⟩
  ·rw [List.mem_singleton.1 hp]; exact ⟨hn, Nat.lt_succ_self _⟩
 ·rw [List.pairwise_append]
  refine ⟨h.inc, List.pairwise_singleton _ _, fun a ha b hb => ?_⟩
  rw [List.mem_singleton.1 hb]
  exact (h.ids a ha).2
 ·rcases List.mem_append.1 hp with hp | hp
  ·exact h.size p hp
  ·rw [List.mem_singleton.1 hp]
   exact hlim
 ·rcases List.mem_append.1 hp with hp | hp
  ·obtain ⟨b1, f, c1, c2⟩ := h.safe p hp
   exact ⟨b1, f, a5 _ _ c1, c2⟩
  ·rw [List.mem_singleton.1 hp]
   refine ⟨Nat.le_refl _, ?_⟩
   show FSt next (some (headB 1 next ++ encs [])) [] _
   rw [show headB 1 next ++ encs [] = headB 1 next by simp [encs]]
   exact a2
 ·rw [a4] at hp
  rcases aput_mem hp with hp | hp
  ·obtain ⟨j, c1, c2, c3⟩ := h.names p hp
   exact ⟨j, c1, by omega, c3⟩
  ·exact ⟨next, hn, Nat.lt_succ_self _, hp⟩
 ·rw [a4]
  have := aput_len v.fd.now (segName next) (v.fd.last + 1)
  omega
theorem RI.made (h : RI lim Q n B k L S next v) (hlim : 16 ≤ lim) (hn : IsId next) (h256 : next ≤ 256) (hQ : (n + 1) * B + 16 ≤ Q) :
 (∀ i, i < 4 → v.crE (segName next) (headB 1 next) i = 0) ∧ RI lim Q (n + 3) (B + 16) (k + 4) L (S ++ [⟨next, [], 0⟩]) (next + 1) (v.cr (segName next) (headB 1 next) 4) := h.madeG hlim hn h256 (appE_room (h.ok.create (segName next)) (h.up.step (h.up.tick.create1 _)) (by rw [headB_len]; exact hQ) _)
end
end Go.Proofs.YtgfkepebfaiepaaGreatDoor.Ax
