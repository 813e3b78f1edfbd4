/-
  Chapter 13: rolls of numbered records.
-/
import Derived.Test.YtgfkepebfaiepaaGreatDoorQx
import Derived.Test.YtgfkepebfaiepaaGreatDoorQu
import Derived.Test.YtgfkepebfaiepaaGreatDoorQt
namespace Go.Proofs.YtgfkepebfaiepaaGreatDoor.Ax
open Go.RowKit
set_option maxRecDepth 100000
theorem mulB {a b c : Nat} (ha : a ≤ 341) (hb : b ≤ 152000) (hc : c ≤ 2000) : a * b + c ≤ 1073741824 := by
 have := Nat.mul_le_mul ha hb
 omega
structure RB (lim i k : Nat) (L : List Rec) (S : List Sg) (next : Nat) (v : VM) : Prop where
 ri : RI lim 1073741824 (5 * i + 4) (2300 * i + 32) k L S next v
 few : S.length ≤ i
section
variable {lim n B k : Nat} {L : List Rec} {d S : List Sg} {next : Nat} {v : VM}
theorem made_fn (h : RI lim 1073741824 n B k L S next v) (hlim : 16 ≤ lim) (hn : IsId next) (h256 : next ≤ 256) (h1 : n ≤ 400) (h2 : B ≤ 160000) (h3 : k ≤ 10000) : MadeOk next v (segA next [] 0) (v.cr (segName next) (headB 1 next) 4) := by
 have hQ : (n + 1) * B + 16 ≤ 1073741824 := by
  have : (n + 1) * B ≤ 401 * 160000 := Nat.mul_le_mul (by omega) h2
  omega
 exact segCreate_ok h.ok (by omega) (by omega) (by omega) next hn (h.made hlim hn h256 hQ).1
theorem app_fn {id c : Nat} {l : List Rec} (h : RI lim 1073741824 n B k L (d ++ [⟨id, l, c⟩]) next v) (hlim : lim ≤ 16777216) {r : Rec} (hr : r.May) (hq : lastS L < r.seq) (hs : offAt l l.length + r.size ≤ lim) (hl : l.length ≤ 1000000) (h1 : n ≤ 400) (h2 : B ≤ 160000) (h3 : k ≤ 10000) (sf : Nat) : AppOk (segA id l sf) v r id (offAt l l.length) 0 (segA id (l ++ [r]) sf) (v.append (segName id) r.enc) := by
 have hQ : n * B + r.size ≤ 1073741824 := by
  have : n * B ≤ 400 * 160000 := Nat.mul_le_mul h1 h2
  have := May.size hr
  omega
 have hid := (h.ids ⟨id, l, c⟩ (by simp)).1
 obtain ⟨a1, a2, a3, a4⟩ := (h.append hlim hr hq hs hQ).1 sf
 have := segApp_ok h.ok (by omega) (by omega) (by omega) (segA id l sf) r (May.B hr) (show id < 4294967296 by have : IsId id := hid; unfold IsId at this; omega) (show offAt l l.length ≤ 16777216 by omega) (show l.length < 4294967295 by omega)
 rw [a1, a2, a3, a4] at this
 exact this
theorem sync_fn {id c : Nat} {l : List Rec} (h : RI lim 1073741824 n B k L (d ++ [⟨id, l, c⟩]) next v) (h1 : n ≤ 400) (h2 : B ≤ 160000) (h3 : k ≤ 10000) (sf : Nat) : SyncOk (segA id l sf) v (segA id l (lastS l)) (v.sync (segName id)) := by
 have hid := (h.ids ⟨id, l, c⟩ (by simp)).1
 have e := h.sync.1
 have := segSync_ok h.ok (by omega) (by omega) (by omega) (segA id l sf) (show id < 4294967296 by have : IsId id := hid; unfold IsId at this; omega)
 rw [show (segA id l sf).s.id = id from rfl, e, if_pos rfl] at this
 exact this
theorem sealsOf_snoc (d : List Sg) (id : Nat) (l : List Rec) (c : Nat) : sealsOf (d ++ [⟨id, l, c⟩]) = sealsOf d ++ [sealS id l] := by simp [sealsOf]
theorem sealsOf_len (d : List Sg) : (sealsOf d).length = d.length := by simp [sealsOf]
end
section
variable {lim i k : Nat} {L : List Rec} {d : List Sg} {v : VM} {next : Nat} (g : RG) (hd : List Ed) (left : Int) {r : Rec}
theorem step_first (h : RB lim i k L d g.next v) (hi : i ≤ 66) (hk : k ≤ 9000) (_hgl : g.lim = lim) (hl1 : 4096 ≤ lim) (hl2 : lim ≤ 16777216) (hgs : g.sealed = sealsOf d) (hn : IsId g.next) (h256 : g.next ≤ 256) (hh : hd.length ≤ 1000) (hl : left ≠ 0) (hlr : -1 ≤ left ∧ left ≤ 9223372036854775807) (hr : r.May) (hq : lastS L < r.seq) :
 ∃ v', RB lim (i + 1) (k + 6) (L ++ [r]) (d ++ [⟨g.next, [r], 0⟩]) (g.next + 1) v' ∧ AFn Go.Proofs.Tryz.prog 23 [.ptr 1 0, earA, recA r] (rlC g hd left v) (fun _ : Unit => .tup [locA g.next 16, AV.int .i64 0]) (fun _ => rlOn { g with next := g.next + 1 } (hd ++ [.add g.next]) (max (left - 1) (-1)) v' (segA g.next [r] 0)) := by
 obtain ⟨h, hf⟩ := h
 have hsz := May.size hr
 have hQ1 : (5 * i + 4 + 1) * (2300 * i + 32) + 16 ≤ 1073741824 := mulB (by omega) (by omega) (by omega)
 obtain ⟨_, hM⟩ := h.made (by omega) hn h256 hQ1
 have hQ2 : (5 * i + 4 + 3) * (2300 * i + 32 + 16) + r.size ≤ 1073741824 := mulB (by omega) (by omega) (by omega)
 have hs : offAt [] ([] : List Rec).length + r.size ≤ lim := by show 16 + 0 + r.size ≤ lim; omega
 obtain ⟨_, hA⟩ := hM.append hl2 hr hq hs hQ2
 have fM := made_fn h (by omega) hn h256 (by omega) (by omega) (by omega)
 have fA := app_fn hM hl2 hr hq hs (by simp) (by omega) (by omega) (by omega) 0
 have hsl : g.sealed.length ≤ 100 := by rw [hgs, sealsOf_len]; omega
 have hnI : g.next ≤ 16777215 := by omega
 have hB := rollBegin_ok g hd left (by omega) hl hlr (by omega) hnI fM
 have hL0 : lastR 0 g.sealed = lastS L := by rw [hgs]; exact h.last0
 refine ⟨_, ⟨hA.more (by omega) (by omega) (by omega), ?_⟩, ?_⟩
 ·rw [List.length_append]
  show d.length + 1 ≤ i + 1
  omega
 ·exact appBegin_ok g hd left (by omega) hr (by rw [hL0]; exact hq) hB fA
theorem step_room {id c sf : Nat} {l : List Rec} (h : RB lim i k L (d ++ [⟨id, l, c⟩]) g.next v) (hi : i ≤ 66) (hk : k ≤ 9000) (hgl : g.lim = lim) (hl2 : lim ≤ 16777216) (hgs : g.sealed = sealsOf d) (hll : l.length ≤ 1000000) (hr : r.May) (hq : lastS L < r.seq) (hs : offAt l l.length + r.size ≤ lim) :
 ∃ v', RB lim (i + 1) (k + 6) (L ++ [r]) (d ++ [⟨id, l ++ [r], c⟩]) g.next v' ∧ AFn Go.Proofs.Tryz.prog 23 [.ptr 1 0, earA, recA r] (rlO g hd left v (segA id l sf)) (fun _ : Unit => .tup [locA id (offAt l l.length), AV.int .i64 0]) (fun _ => rlO g hd left v' (segA id (l ++ [r]) sf)) := by
 obtain ⟨h, hf⟩ := h
 have hsz := May.size hr
 have hQ2 : (5 * i + 4) * (2300 * i + 32) + r.size ≤ 1073741824 := mulB (by omega) (by omega) (by omega)
 obtain ⟨_, hA⟩ := h.append hl2 hr hq hs hQ2
 have fA := app_fn h hl2 hr hq hs hll (by omega) (by omega) (by omega) sf
 rw [List.length_append] at hf
 have hf : d.length + 1 ≤ i := hf
 have hsl : g.sealed.length ≤ 100 := by rw [hgs, sealsOf_len]; omega
 have hL0 : lastR (lastS l) g.sealed = lastS L := by rw [hgs]; exact h.last
 refine ⟨_, ⟨hA.more (by omega) (by omega) (by omega), ?_⟩, ?_⟩
 ·rw [List.length_append]
  show d.length + 1 ≤ i + 1
  omega
 ·exact appRoom_ok g hd left (by omega) hr (by show lastR (lastS l) g.sealed < r.seq; rw [hL0]; exact hq) (by rw [hgl]; exact hs) (by omega) fA
theorem step_full {id c sf : Nat} {l : List Rec} (h : RB lim i k L (d ++ [⟨id, l, c⟩]) g.next v) (hi : i ≤ 66) (hk : k ≤ 9000) (hgl : g.lim = lim) (hl1 : 4096 ≤ lim) (hl2 : lim ≤ 16777216) (hgs : g.sealed = sealsOf d) (hn : IsId g.next) (h256 : g.next ≤ 256) (hh : hd.length ≤ 1000) (hl : left = -1) (hr : r.May) (hq : lastS L < r.seq) (hs : lim < offAt l l.length + r.size) :
 ∃ v', RB lim (i + 1) (k + 6) (L ++ [r]) ((d ++ [⟨id, l, l.length⟩]) ++ [⟨g.next, [r], 0⟩]) (g.next + 1) v' ∧ AFn Go.Proofs.Tryz.prog 23 [.ptr 1 0, earA, recA r] (rlO g hd left v (segA id l sf)) (fun _ : Unit => .tup [locA g.next 16, AV.int .i64 0]) (fun _ => rlOm ⟨g.lim, g.sealed ++ [sealS id l], g.next + 1, lastS L⟩ ((hd ++ [.shut (sealS id l)]) ++ [.add g.next]) (-1) v' (segA g.next [r] 0)) := by
 subst hl
 obtain ⟨h, hf⟩ := h
 have hsz := May.size hr
 have hlt := h.size ⟨id, l, c⟩ (by simp)
 have hlt : offAt l l.length ≤ lim := hlt
 rw [List.length_append] at hf
 have hf : d.length + 1 ≤ i := hf
 obtain ⟨_, hS⟩ := h.sync
 have hQ1 : (5 * i + 4 + 1) * (2300 * i + 32) + 16 ≤ 1073741824 := mulB (by omega) (by omega) (by omega)
 obtain ⟨_, hM⟩ := hS.made (by omega) hn h256 hQ1
 have hQ2 : (5 * i + 4 + 3) * (2300 * i + 32 + 16) + r.size ≤ 1073741824 := mulB (by omega) (by omega) (by omega)
 have hs0 : offAt [] ([] : List Rec).length + r.size ≤ lim := by show 16 + 0 + r.size ≤ lim; omega
 obtain ⟨_, hA⟩ := hM.append hl2 hr hq hs0 hQ2
 have fS := sync_fn h (by omega) (by omega) (by omega) sf
 have fM := made_fn hS (by omega) hn h256 (by omega) (by omega) (by omega)
 have fA := app_fn hM hl2 hr hq hs0 (by simp) (by omega) (by omega) (by omega) 0
 have hsl : g.sealed.length ≤ 100 := by rw [hgs, sealsOf_len]; omega
 have hL0 : lastR (lastS l) g.sealed = lastS L := by rw [hgs]; exact h.last
 have hR := rollRest_ok g hd (-1) (by omega) (by omega) (by decide) (by decide) fS
 have hB := rollBegin_ok ⟨g.lim, g.sealed ++ [sealS id l], g.next, lastS L⟩ (hd ++ [.shut (sealS id l)]) (-1) (by rw [List.length_append]; show hd.length + 1 ≤ 1000000; omega) (by decide) (by decide) (by show (g.sealed ++ [sealS id l]).length < 200; rw [List.length_append]; show g.sealed.length + 1 < 200; omega) (by show g.next ≤ 16777215; omega) fM
 refine ⟨_, ⟨hA.more (by omega) (by omega) (by omega), ?_⟩, ?_⟩
 ·rw [List.length_append, List.length_append]
  show d.length + 1 + 1 ≤ i + 1
  omega
 ·refine appFull_ok g hd (-1) (by omega) hr (by show lastR (lastS l) g.sealed < r.seq; rw [hL0]; exact hq) (by rw [hgl]; exact hs) (by show offAt l l.length ≤ 16777216; omega) ?_ hB fA
  have e : (⟨g.lim, g.sealed ++ [sealS id l], g.next, lastS L⟩ : RG) = { g with sealed := g.sealed ++ [(segA id l (lastS l)).s], safe := lastR (segA id l (lastS l)).s.last g.sealed } := by
   rw [← hL0]
   rfl
  rw [e]
  exact hR
theorem step_sync {id c : Nat} {l : List Rec} (h : RB lim i k L (d ++ [⟨id, l, c⟩]) next v) (hi : i ≤ 66) (hk : k ≤ 9000) (sf : Nat) : SyncOk (segA id l sf) v (segA id l (lastS l)) (v.sync (segName id)) ∧ RB lim i (k + 1) L (d ++ [⟨id, l, l.length⟩]) next (v.sync (segName id)) := by
 obtain ⟨h, hf⟩ := h
 refine ⟨sync_fn h (by omega) (by omega) (by omega) sf, h.sync.2, ?_⟩
 rw [List.length_append] at hf ⊢
 exact hf
end
end Go.Proofs.YtgfkepebfaiepaaGreatDoor.Ax

namespace Go.Proofs.YtgfkepebfaiepaaGreatDoor.Ax
open Go.RowKit
set_option maxRecDepth 100000
def locsA (p : Sg) : List (Nat × Nat) := (List.range p.l.length).map fun i => (p.id, offAt p.l i)
def locsOf (S : List Sg) : List (Nat × Nat) := S.flatMap locsA
theorem locsOf_append (S T : List Sg) : locsOf (S ++ T) = locsOf S ++ locsOf T := by simp [locsOf]
theorem locsOf_one (p : Sg) : locsOf [p] = locsA p := by simp [locsOf]
theorem locsA_len (p : Sg) : (locsA p).length = p.l.length := by simp [locsA]
theorem locsA_get (p : Sg) {i : Nat} (h : i < p.l.length) : (locsA p).getD i default = (p.id, offAt p.l i) := by
 unfold locsA
 simp [List.getD, h]
theorem locsA_snoc (id c c' : Nat) (l : List Rec) (r : Rec) : locsA ⟨id, l ++ [r], c⟩ = locsA ⟨id, l, c'⟩ ++ [(id, offAt l l.length)] := by
 unfold locsA
 show (List.range (l ++ [r]).length).map (fun i => (id, offAt (l ++ [r]) i)) = _
 rw [List.length_append]
 show (List.range (l.length + 1)).map (fun i => (id, offAt (l ++ [r]) i)) = _
 rw [List.range_succ, List.map_append]
 congr 1
 ·refine List.map_congr_left fun i hi => ?_
  rw [offAt_append _ _ (Nat.le_of_lt (List.mem_range.1 hi))]
 ·show [(id, offAt (l ++ [r]) l.length)] = _
  rw [offAt_append _ _ (Nat.le_refl _)]
theorem locsOf_len (S : List Sg) : (locsOf S).length = (recsOf S).length := by
 induction S with
 | nil => rfl
 | cons p S ih =>
   show (locsA p ++ locsOf S).length = (p.l ++ recsOf S).length
   rw [List.length_append, List.length_append, ih, locsA_len]
theorem locs_at : ∀ {S : List Sg} {i : Nat}, i < (recsOf S).length → ∃ k j, k < S.length ∧ j < (S.getD k default).l.length ∧ (locsOf S).getD i default = ((S.getD k default).id, offAt (S.getD k default).l j) ∧ (recsOf S).getD i default = (S.getD k default).l.getD j default
 | [], _, h => by cases h
 | p :: S, i, h => by
   have h : i < (p.l ++ recsOf S).length := h
   rw [List.length_append] at h
   by_cases hi : i < p.l.length
   ·refine ⟨0, i, by simp, hi, ?_, ?_⟩
    ·show (locsA p ++ locsOf S).getD i default = (p.id, offAt p.l i)
     rw [List.getD_eq_getElem?_getD, List.getElem?_append_left (by rw [locsA_len]; exact hi), ← List.getD_eq_getElem?_getD]
     exact locsA_get p hi
    ·show (p.l ++ recsOf S).getD i default = p.l.getD i default
     rw [List.getD_eq_getElem?_getD, List.getElem?_append_left hi, ← List.getD_eq_getElem?_getD]
   ·obtain ⟨k, j, h1, h2, h3, h4⟩ := locs_at (S := S) (i := i - p.l.length) (by omega)
    refine ⟨k + 1, j, by simp; exact h1, h2, ?_, ?_⟩
    ·show (locsA p ++ locsOf S).getD i default = _
     rw [List.getD_eq_getElem?_getD, List.getElem?_append_right (by rw [locsA_len]; omega), locsA_len, ← List.getD_eq_getElem?_getD]
     exact h3
    ·show (p.l ++ recsOf S).getD i default = _
     rw [List.getD_eq_getElem?_getD, List.getElem?_append_right (by omega), ← List.getD_eq_getElem?_getD]
     exact h4
section
variable {lim n B k : Nat} {L : List Rec} {d S : List Sg} {next : Nat} {v : VM}
theorem read_fn (h : RI lim 1073741824 n B k L S next v) (hlim : lim ≤ 16777216) (h2 : B ≤ 160000) {p : Sg} (hp : p ∈ S) {j : Nat} (hj : j < p.l.length) (sf : Nat) : AFn Go.Proofs.Tryz.prog 58 [.ptr 1 0, locA p.id (offAt p.l j)] (sgH (segA p.id p.l sf) v) (fun _ : Unit => .tup [recA (p.l.getD j default), AV.int .i64 0]) (fun _ => sgH (segA p.id p.l sf) v) := by
 have hid := (h.ids p hp).1
 have hs := h.size p hp
 have hR := (h.safe p hp).2.read h.up (Asc.may (s := 0) (h.ascOf hp)) sf hj
 have := segRead_ok h.ok (by omega) (segA p.id p.l sf) p.id (offAt p.l j) (by unfold IsId at hid; omega) (show offAt p.l p.l.length ≤ 4294967295 by omega)
 rw [hR] at this
 exact this
theorem sealsOf_get (d : List Sg) {q : Nat} (h : q < d.length) : (sealsOf d).getD q default = sealS (d.getD q default).id (d.getD q default).l := by
 unfold sealsOf
 simp [List.getD, h]
theorem roll_read (g : RG) (hd : List Ed) (left : Int) {id c sf : Nat} {l : List Rec} (h : RI lim 1073741824 n B k L (d ++ [⟨id, l, c⟩]) next v) (hlim : lim ≤ 16777216) (h2 : B ≤ 160000) (hgs : g.sealed = sealsOf d) (hdl : d.length ≤ 100) {i : Nat} (hi : i < L.length) :
 AFn Go.Proofs.Tryz.prog 24 [.ptr 1 0, locA ((locsOf (d ++ [⟨id, l, c⟩])).getD i default).1 ((locsOf (d ++ [⟨id, l, c⟩])).getD i default).2] (rlO g hd left v (segA id l sf)) (fun _ : Unit => .tup [recA (L.getD i default), AV.int .i64 0]) (fun _ => rlO g hd left v (segA id l sf)) := by
 have hrec := h.recs
 obtain ⟨q, j, h3, h4, h5, h6⟩ := locs_at (S := d ++ [⟨id, l, c⟩]) (i := i) (by rw [hrec]; exact hi)
 rw [hrec] at h6
 rw [h5, h6]
 have hmem : (d ++ [(⟨id, l, c⟩ : Sg)]).getD q default ∈ d ++ [(⟨id, l, c⟩ : Sg)] := by
  rw [List.getD_eq_getElem?_getD, List.getElem?_eq_getElem h3]
  exact List.getElem_mem h3
 rw [List.length_append] at h3
 have h3 : q < d.length + 1 := h3
 by_cases e : q = d.length
 ·have ep : (d ++ [(⟨id, l, c⟩ : Sg)]).getD q default = ⟨id, l, c⟩ := by
   subst e
   simp [List.getD]
  rw [ep] at h4 hmem ⊢
  exact readOpen_ok (s := segA id l sf) (o := offAt l j) g hd left (read_fn h hlim h2 hmem h4 sf)
 ·have hq : q < d.length := by omega
  have ep : (d ++ [(⟨id, l, c⟩ : Sg)]).getD q default = d.getD q default := by
   rw [List.getD_eq_getElem?_getD, List.getElem?_append_left hq, ← List.getD_eq_getElem?_getD]
  rw [ep] at h4 hmem ⊢
  have hsg : g.sealed.getD q default = sealS (d.getD q default).id (d.getD q default).l := by rw [hgs]; exact sealsOf_get d hq
  have hlen : g.sealed.length = d.length := by rw [hgs, sealsOf_len]
  have hinc := h.inc
  rw [List.pairwise_append] at hinc
  obtain ⟨hinc, _, hlast⟩ := hinc
  have hmd : d.getD q default ∈ d := by
   rw [List.getD_eq_getElem?_getD, List.getElem?_eq_getElem hq]
   exact List.getElem_mem hq
  have hne : ∀ x, x < q → (g.sealed.getD x default).id ≠ (d.getD q default).id := fun x hx => by
   have hxd : x < d.length := by omega
   rw [hgs, sealsOf_get d hxd]
   have := List.pairwise_iff_getElem.1 hinc x q hxd hq hx
   rw [List.getD_eq_getElem?_getD, List.getD_eq_getElem?_getD, List.getElem?_eq_getElem hxd, List.getElem?_eq_getElem hq]
   show (d[x]).id ≠ (d[q]).id
   omega
  have hns : id ≠ (d.getD q default).id := by
   have := hlast _ hmd ⟨id, l, c⟩ (by simp)
   have this : (d.getD q default).id < id := this
   omega
  have ho := offM_le (Asc.may (s := 0) (h.ascOf hmem)) (d.getD q default).l.length
  have hsz := h.size _ hmem
  have hF := read_fn h hlim h2 hmem h4 (lastS (d.getD q default).l)
  refine readSealed_ok g hd left (by omega) (by omega) (by rw [hsg]; rfl) hne hns (h.ids _ hmem).1 (by rw [hsg]; exact ho.1) (by rw [hsg]; show offAt _ _ ≤ 16777216; omega) ?_
  rw [hsg]
  exact hF
end
def LocLt (a b : Nat × Nat) : Prop := a.1 < b.1 ∨ a.1 = b.1 ∧ a.2 < b.2
end Go.Proofs.YtgfkepebfaiepaaGreatDoor.Ax

namespace Go.Proofs.YtgfkepebfaiepaaGreatDoor.Ax
open Go.RowKit
set_option maxRecDepth 100000
theorem rollCut_ok (r : Rec) (h : r.W) : AFn Go.Proofs.Tryz.prog 31 [recA r] ⟨0, []⟩ (fun _ : Unit => recA r.cut) (fun _ => ⟨0, []⟩) := by
 obtain ⟨h1, h2⟩ := h
 have e1 : List.take ((min (r.key.length : Int) 70).toNat - Int.toNat 0) (List.drop (Int.toNat 0) r.key) = r.key.take 70 := by
  rw [show (min (r.key.length : Int) 70).toNat - Int.toNat 0 = min 70 r.key.length by simp; omega, show List.drop (Int.toNat 0) r.key = r.key from rfl, ← List.take_take, List.take_length]
 have e2 : List.take ((min (r.val.length : Int) 1030).toNat - Int.toNat 0) (List.drop (Int.toNat 0) r.val) = r.val.take 1030 := by
  rw [show (min (r.val.length : Int) 1030).toNat - Int.toNat 0 = min 1030 r.val.length by simp; omega, show List.drop (Int.toNat 0) r.val = r.val from rfl, ← List.take_take, List.take_length]
 refine ACall.fin ?_
 refine ACall.walk (C := cfg 20 0) (cfgOk _ _) sch31 (fn := Go.Proofs.Tryz.f31) (by kernel_rfl) (by kernel_rfl) rfl (by kernel_rfl) (by kernel_rfl) rfl rfl ?_
 refine goA ?_
 rw [e1, e2]
 refine goA ?_
 refine ⟨_, _, Ent.mk' (e' := [(0, recA r.cut)]) (H' := ⟨0, []⟩) [] (by kernel_rfl) ?_ ?_, (), rfl, rfl⟩
 ·exact ⟨AVE.refl _, trivial⟩
 ·trivial
set_option maxHeartbeats 4000000 in
theorem numbered60_ok (l : List Rec) (hl : l.length ≤ 9223372036854775807) (hB : ∀ r ∈ l, r.W) : AFn Go.Proofs.Tryz.prog 16 [recsA l] ⟨0, []⟩ (fun _ : Unit => recsA (numb 60 l)) (fun _ => ⟨0, []⟩) := by
 refine ACall.fin ?_
 refine ACall.walk (C := cfg 32 0) (cfgOk _ _) [] (fn := Go.Proofs.Tryz.f16) (by kernel_rfl) (by kernel_rfl) rfl (by kernel_rfl) (by kernel_rfl) rfl rfl ?_
 refine goA ?_
 refine AWP.loop (X := { i : Nat // i ≤ l.length }) (fun x => [(3, .row 0 6 0 (numTo 60 l x.1).length), (6, recsA l), (7, AV.int .i64 l.length), (8, AV.int .i64 x.1)]) (fun x => ⟨1, [(0, .rowc 50 6 (numTo 60 l x.1).length (recF (numTo 60 l x.1)))]⟩) (fun x => l.length - x.1) (⟨0, Nat.zero_le _⟩) ?_ fun x => AWP.go (S := []) (cfgOk _ _) (.of_eq (by kernel_rfl)) ?_
 ·refine (HEnt.ent (HEnt.addNil 50 6 (recF []))).trans ?_
  exact Ent.mk' [some 0] (by kernel_rfl) ⟨AVE.nil _ _, AVE.refl _, AVE.refl _, AVE.refl _, trivial⟩ subC
 ·obtain ⟨i, hi⟩ := x
  dsimp only
  obtain ⟨_, hle⟩ := numTo_ok 60 l i
  refine goA ?_
  refine ifdA (fun h => ?_) (fun h => ?_) <;> (try dsimp only at h)
  ·have hlt : i < l.length := by omega
   have hs := numTo_succ (cap := 60) hlt
   have hrB : (l.getD i default).W := hB _ (by simp [List.getD, hlt])
   have hg : l.getD ((i : Nat) : Int).toNat default = l.getD i default := rfl
   generalize numTo 60 l i = out at *
   generalize l.getD i default = r at *
   refine goA ?_
   rw [hg]
   refine AFn.useA [] (rollCut_ok r hrB) fun _ => ?_
   refine goA ?_
   refine AFn.useA [] (recMay_ok { r.cut with seq := out.length + 1 } (cut_B r)) fun _ => ?_
   unfold numStep at hs
   by_cases h1 : Rec.May { r.cut with seq := out.length + 1 }
   ·rw [decide_eq_true h1]
    refine goA ?_
    refine ifdA (fun q => ?_) (fun q => ?_) <;> (try dsimp only at q)
    ·rw [if_pos ⟨h1, by omega⟩] at hs
     refine goA ?_
     refine ⟨⟨i + 1, by omega⟩, ?_, by show l.length - (i + 1) < l.length - i; omega⟩
     dsimp only
     rw [hs]
     exact Ent.mk' [some 3] (by kernel_rfl) ⟨AVE.len (by simp), AVE.refl _, AVE.refl _, AVE.int (by simp), trivial⟩ ⟨⟨_, rfl, rec_push rfl⟩, trivial⟩
    ·rw [if_neg (by rintro ⟨_, g⟩; omega)] at hs
     refine goA ?_
     refine ⟨⟨i + 1, by omega⟩, ?_, by show l.length - (i + 1) < l.length - i; omega⟩
     dsimp only
     rw [hs]
     exact Ent.mkA [some 0]
   ·rw [decide_eq_false h1]
    rw [if_neg (fun g => h1 g.1)] at hs
    refine goA ?_
    refine ⟨⟨i + 1, by omega⟩, ?_, by show l.length - (i + 1) < l.length - i; omega⟩
    dsimp only
    rw [hs]
    exact Ent.mkA [some 0]
  ·have : i = l.length := by omega
   subst this
   rw [numTo_all]
   generalize numb 60 l = out
   refine goA ?_
   exact ⟨_, _, (Ent.freeze 0 _ rfl rfl (e' := [(0, recsA out)]) ⟨AVF.sl (Nat.le_refl _), trivial⟩).trans (Ent.mk' (e' := [(0, recsA out)]) (H' := ⟨0, []⟩) [] (by kernel_rfl) ⟨AVE.refl _, trivial⟩ trivial), (), rfl, rfl⟩
theorem lastS_num {l : List Rec} (h : Numd l) : lastS l = l.length := by
 unfold lastS
 by_cases e : l = []
 ·subst e
  rfl
 ·have hp := List.length_pos_iff.2 e
  rw [if_neg e, h.seq _ (by omega)]
  omega
end Go.Proofs.YtgfkepebfaiepaaGreatDoor.Ax

namespace Go.Proofs.YtgfkepebfaiepaaGreatDoor.Ax
open Go.RowKit
set_option maxRecDepth 100000
section
variable (g : RG) (hd : List Ed) (left : Int) {v v' : VM} {s s' : SG}
theorem rollRestP_ok (hg : g.sealed.length ≤ 1000) (hh : hd.length ≤ 1000000) (hl : left ≠ 0) (hr : -1 ≤ left ∧ left ≤ 9223372036854775807) (h : SyncOk s v s' v') : AFn Go.Proofs.Tryz.prog 26 [.ptr 1 0, earA] (rlO g hd left v s) (fun _ : Unit => AV.int .i64 0) (fun _ => rlCn { g with sealed := g.sealed ++ [s'.s], safe := lastR s'.s.last g.sealed } (hd ++ [.shut s'.s]) (max (left - 1) (-1)) v') := by
 refine ACall.fin ?_
 refine ACall.walk (C := cfg 14 6) (cfgOk _ _) [] (fn := Go.Proofs.Tryz.f26) (by kernel_rfl) (by kernel_rfl) rfl (by kernel_rfl) (by kernel_rfl) rfl rfl ?_
 refine goA ?_
 refine AFn.useA [0, 1, 2, 3, 4, 5] (noneO_ok g hd left v s) fun _ => ?_
 refine goA ?_
 refine AFn.useA [0, 1, 2, 3, 4, 5] (rollRest_ok g hd left hg hh hl hr h) fun _ => ?_
 refine goA ?_
 refine ⟨_, _, Ent.mk' (e' := [(0, AV.int .i64 0)]) (H' := rlCn { g with sealed := g.sealed ++ [s'.s], safe := lastR s'.s.last g.sealed } (hd ++ [.shut s'.s]) (max (left - 1) (-1)) v') [some 0, some 1, some 2, some 3, some 4, some 5, some 6, some 7] (by kernel_rfl) ⟨AVE.refl _, trivial⟩ subC, (), rfl, rfl⟩
end
end Go.Proofs.YtgfkepebfaiepaaGreatDoor.Ax

namespace Go.Proofs.YtgfkepebfaiepaaGreatDoor.Ax
open Go.RowKit
set_option maxRecDepth 100000
def heardOf (d : List Sg) : List Ed := d.flatMap fun p => [.add p.id, .shut (sealS p.id p.l)]
structure RS where
 g : RG
 d : List Sg
 id : Nat
 l : List Rec
 c : Nat
 sf : Nat
 v : VM
 k : Nat
def RS.S (s : RS) : List Sg := s.d ++ [⟨s.id, s.l, s.c⟩]
def RS.hd (s : RS) : List Ed := heardOf s.d ++ [.add s.id]
def RS.sg (s : RS) : SG := segA s.id s.l s.sf
def RS.loc (s : RS) : Nat × Nat := (s.id, offAt s.l (s.l.length - 1))
structure RS.Ok (lim fst : Nat) (L : List Rec) (i : Nat) (s : RS) : Prop where
 rb : RB lim i s.k (L.take i) (s.d ++ [⟨s.id, s.l, s.c⟩]) s.g.next s.v
 gl : s.g.lim = lim
 gs : s.g.sealed = sealsOf s.d
 ids : ∀ k, k ≤ s.d.length → (s.S.getD k default).id = fst + k
 next : s.g.next = fst + s.d.length + 1
 full : ∀ p ∈ s.d, p.c = p.l.length
 safe : s.g.safe ≤ (recsOf s.d).length + s.c
 pos : 0 < s.l.length
section
variable {lim fst i : Nat} {L : List Rec} {s : RS}
theorem take_snocN (hi : i < L.length) : L.take (i + 1) = L.take i ++ [L.getD i default] := by
 rw [List.take_succ_eq_append_getElem hi]
 simp [List.getD, hi]
theorem lastS_take (hN : Numd L) (hi : i ≤ L.length) : lastS (L.take i) = i := by
 rw [lastS_num (hN.take i), List.length_take]
 omega
structure RS.After (lim fst : Nat) (L : List Rec) (i sf0 : Nat) (A : List (Nat × Nat)) (t : RS) : Prop where
 ok : t.Ok lim fst L (i + 1)
 kle : t.k ≤ 8 * i + 6
 safe : sf0 ≤ t.g.safe
 locs : locsOf t.S = A ++ [t.loc]
 rise : A = [] ∨ LocLt (A.getD (i - 1) default) t.loc
def rsH (b : Bool) (t : RS) : AH := match b with
 | false => rlO t.g t.hd (-1) t.v t.sg
 | true => rlOm t.g t.hd (-1) t.v t.sg
def RS.synced (s : RS) : RS := { s with g := { s.g with safe := lastR (lastS s.l) s.g.sealed }, c := s.l.length, sf := lastS s.l, v := s.v.sync (segName s.id), k := s.k + 1 }
end
end Go.Proofs.YtgfkepebfaiepaaGreatDoor.Ax

namespace Go.Proofs.YtgfkepebfaiepaaGreatDoor.Ax
open Go.RowKit
set_option maxRecDepth 100000
def kindE (e : Ed) : Int := 100 * e.kind + ((if 0 < e.seals.length then (e.seals.getD 0 default).id else e.id : Nat) : Int)
def kindsOf (l : List Ed) : List Int := l.map kindE
def Ed.Small (e : Ed) : Prop := (e.kind = 4 ∨ e.kind = 5) ∧ e.id ≤ 16777215 ∧ (e.seals.getD 0 default).id ≤ 16777215
theorem kindsOf_get {l : List Ed} {i : Nat} (h : i < l.length) : iF (kindsOf l) i = [.v (.int .i64 (kindE (l.getD i default)))] := by
 unfold iF kindsOf
 simp [List.getD, h]
theorem kinds_push {e : Nat} {l : List Ed} {i : Nat} {g : Nat → List IV} (hg : iF (kindsOf l) i = g 0) : ChE (.rowc e 1 (i + 1) fun j => if j < i then iF (kindsOf l) j else g (j - i)) (.rowc e 1 (i + 1) (iF (kindsOf l))) := by
 refine ChE.row (Nat.le_refl _) fun j hj => ?_
 by_cases h : j < i
 ·simp only [if_pos h]
 ·have : j = i := by omega
  subst this
  simp only [if_neg h, Nat.sub_self]
  rw [hg]
theorem kinds_ok (hd : List Ed) (hl : hd.length ≤ 1000) (hs : ∀ e ∈ hd, e.Small) : AFn Go.Proofs.Tryz.prog 75 [.row 0 5 0 hd.length] ⟨1, [(0, .rowc 105 5 hd.length (edF hd))]⟩ (fun _ : Unit => .row 1 1 0 hd.length) (fun _ => ⟨2, [(0, .rowc 105 5 hd.length (edF hd)), (1, .rowc 3 1 hd.length (iF (kindsOf hd)))]⟩) := by
 refine ACall.fin ?_
 refine ACall.walk (C := cfg 35 1) (cfgOk _ _) [] (fn := Go.Proofs.Tryz.f75) (by kernel_rfl) (by kernel_rfl) rfl (by kernel_rfl) (by kernel_rfl) rfl rfl ?_
 refine goA ?_
 refine AWP.loop (X := { i : Nat // i ≤ hd.length }) (fun x => [(3, .row 1 1 0 x.1), (7, .row 0 5 0 hd.length), (8, AV.int .i64 hd.length), (9, AV.int .i64 x.1)]) (fun x => ⟨2, [(0, .rowc 105 5 hd.length (edF hd)), (1, .rowc 3 1 x.1 (iF (kindsOf hd)))]⟩) (fun x => hd.length - x.1) (⟨0, Nat.zero_le _⟩) ?_ fun x => AWP.go (S := []) (cfgOk _ _) (.of_eq (by kernel_rfl)) ?_
 ·refine (HEnt.ent (HEnt.addNil 3 1 (iF (kindsOf hd)))).trans ?_
  exact Ent.mk' [some 0, some 1] (by kernel_rfl) ⟨AVE.nil _ _, AVE.refl _, AVE.refl _, AVE.refl _, trivial⟩ subC
 ·obtain ⟨i, hi⟩ := x
  dsimp only
  refine goA ?_
  refine ifdA (fun h => ?_) (fun h => ?_) <;> (try dsimp only at h)
  ·have hlt : i < hd.length := by omega
   have hgi : hd.getD (0 + ((i : Nat) : Int).toNat) default = hd.getD i default := by rw [Nat.zero_add]; rfl
   have hk := kindsOf_get hlt
   obtain ⟨h1, h2, h3⟩ := hs (hd.getD i default) (by simp [List.getD, hlt])
   unfold kindE at hk
   refine goA ?_
   rw [hgi]
   generalize hd.getD i default = e at *
   have h3' : (e.seals.getD (Int.toNat 0) default).id ≤ 16777215 := h3
   refine ifdA (fun q => ?_) (fun q => ?_) <;> (try dsimp only at q)
   ·rw [if_pos (by omega)] at hk
    refine goA ?_
    refine ⟨⟨i + 1, by omega⟩, Ent.mkC [some 0, some 4] ?_, ?_⟩
    ·exact ⟨⟨_, rfl, ChE.refl _⟩, ⟨_, rfl, kinds_push hk⟩, trivial⟩
    ·show hd.length - (i + 1) < hd.length - i
     omega
   ·rw [if_neg (by omega)] at hk
    refine goA ?_
    refine ⟨⟨i + 1, by omega⟩, Ent.mkC [some 0, some 4] ?_, ?_⟩
    ·exact ⟨⟨_, rfl, ChE.refl _⟩, ⟨_, rfl, kinds_push hk⟩, trivial⟩
    ·show hd.length - (i + 1) < hd.length - i
     omega
  ·have : i = hd.length := by omega
   subst this
   refine goA ?_
   refine ⟨_, _, Ent.mk' (e' := [(0, .row 1 1 0 hd.length)]) (H' := ⟨2, [(0, .rowc 105 5 hd.length (edF hd)), (1, .rowc 3 1 hd.length (iF (kindsOf hd)))]⟩) [some 0, some 1] (by kernel_rfl) ?_ ?_, (), rfl, rfl⟩
   ·exact ⟨AVE.refl _, trivial⟩
   ·exact subC
theorem eqInts_ok (ks : List Int) (hl : ks.length ≤ 1000) : AFn Go.Proofs.Tryz.prog 74 [.row 0 1 0 ks.length, .iv (iRow ks)] ⟨1, [(0, .rowc 3 1 ks.length (iF ks))]⟩ (fun _ : Unit => AV.bool true) (fun _ => ⟨1, [(0, .rowc 3 1 ks.length (iF ks))]⟩) := by
 refine ACall.fin ?_
 refine ACall.walk (C := cfg 26 1) (cfgOk _ _) sch74 (fn := Go.Proofs.Tryz.f74) (by kernel_rfl) (by kernel_rfl) rfl (by kernel_rfl) (by kernel_rfl) rfl rfl ?_
 refine goA ?_
 rw [decide_eq_false (show ¬ (ks.length : Int) ≠ (ks.length : Int) from fun h => h rfl)]
 refine goA ?_
 refine AWP.loop (X := { i : Nat // i ≤ ks.length }) (fun x => [(0, .row 0 1 0 ks.length), (1, .iv (iRow ks)), (12, AV.int .i64 ks.length), (13, AV.int .i64 x.1)]) (fun x => ⟨1, [(0, .rowc 3 1 ks.length (iF ks))]⟩) (fun x => ks.length - x.1) (⟨0, Nat.zero_le _⟩) ?_ fun x => AWP.go (S := sch74) (cfgOk _ _) (.of_eq (by kernel_rfl)) ?_
 ·exact Ent.mkA [some 0]
 ·obtain ⟨i, hi⟩ := x
  dsimp only
  refine goA ?_
  refine ifdA (fun h => ?_) (fun h => ?_) <;> (try dsimp only at h)
  ·have hlt : i < ks.length := by omega
   refine goA ?_
   rw [decide_eq_false (show ¬ ks.getD (0 + ((i : Nat) : Int).toNat) 0 ≠ ks.getD ((i : Nat) : Int).toNat 0 from fun h => h (by rw [Nat.zero_add]))]
   refine goA ?_
   refine ⟨⟨i + 1, by omega⟩, Ent.mkA [some 0], ?_⟩
   show ks.length - (i + 1) < ks.length - i
   omega
  ·refine goA ?_
   refine ⟨_, _, Ent.mk' (e' := [(0, AV.bool true)]) (H' := ⟨1, [(0, .rowc 3 1 ks.length (iF ks))]⟩) [some 0] (by kernel_rfl) ?_ ?_, (), rfl, rfl⟩
   ·exact ⟨AVE.refl _, trivial⟩
   ·exact subC
end Go.Proofs.YtgfkepebfaiepaaGreatDoor.Ax

namespace Go.Proofs.YtgfkepebfaiepaaGreatDoor.Ax
open Go.RowKit
set_option maxRecDepth 100000
theorem RB.new {lim fst : Nat} (hf : 1 ≤ fst) : RB lim 0 0 [] [] fst (VM.new 1073741824) :=
 ⟨⟨.new (by decide) _ _ _, ⟨rfl, rfl, rfl⟩, rfl, trivial, fun _ h => (by cases h), List.Pairwise.nil, fun _ h => (by cases h), fun _ h => (by cases h), fun _ h => (by cases h), hf⟩, Nat.le_refl _⟩
def wxR (i : Nat) : Rec := ⟨i + 1, 1, List.replicate 10 0, List.replicate 965 0, 0, 0⟩
def wxD : Rec := ⟨6, 2, [107], [], 0, 0⟩
def wxL (n : Nat) : List Rec := (List.range n).map wxR
theorem wxL_succ (n : Nat) : wxL (n + 1) = wxL n ++ [wxR n] := by simp [wxL, List.range_succ]
theorem wxL_len (n : Nat) : (wxL n).length = n := by simp [wxL]
theorem wxR_may (i : Nat) (h : i ≤ 10) : (wxR i).May := ⟨.inl rfl, ⟨by show 1 ≤ i + 1; omega, by show i + 1 ≤ 1099511627776; omega⟩, ⟨by show 1 ≤ (List.replicate 10 (0 : UInt8)).length; simp, by show (List.replicate 10 (0 : UInt8)).length ≤ 64; simp⟩, by show (List.replicate 965 (0 : UInt8)).length ≤ 1024; simp, .inl ⟨rfl, rfl⟩⟩
theorem wxD_may : wxD.May := ⟨.inr ⟨rfl, rfl⟩, ⟨by decide, by decide⟩, ⟨by decide, by decide⟩, by decide, .inl ⟨rfl, rfl⟩⟩
theorem wxR_size (i : Nat) : (wxR i).size = 1000 := by
 unfold Rec.size wxR
 simp
theorem wk_off (n : Nat) : offAt (wxL n) n = 16 + 1000 * n := by
 induction n with
 | zero => rfl
 | succ n ih =>
   have := offAt_snoc (wxL n) (wxR n)
   rw [wxL_len] at this
   rw [wxL_succ, this, ih, wxR_size]
   omega
theorem wk_last (n : Nat) : lastS (wxL n) = n := by
 cases n with
 | zero => rfl
 | succ n => rw [wxL_succ, lastS_snoc]; rfl
def wkG1 : RG := ⟨4096, [], 2, 0⟩
def wkG2 : RG := ⟨4096, [sealS 1 (wxL 4)], 3, 4⟩
def wkG3 : RG := ⟨4096, [sealS 1 (wxL 4), sealS 2 [wxR 4]], 3, 5⟩
def wkG4 : RG := ⟨4096, [sealS 1 (wxL 4), sealS 2 [wxR 4]], 4, 5⟩
def wkE2 : List Ed := [.add 1, .shut (sealS 1 (wxL 4)), .add 2]
def wkE3 : List Ed := [.add 1, .shut (sealS 1 (wxL 4)), .add 2, .shut (sealS 2 [wxR 4])]
def wkE4 : List Ed := [.add 1, .shut (sealS 1 (wxL 4)), .add 2, .shut (sealS 2 [wxR 4]), .add 3]
theorem wk_room {i k : Nat} {v : VM} (h : RB 4096 i k (wxL i) [⟨1, wxL i, 0⟩] 2 v) (hi : i ≤ 3) (hk : k ≤ 100) : ∃ v', RB 4096 (i + 1) (k + 6) (wxL (i + 1)) [⟨1, wxL (i + 1), 0⟩] 2 v' ∧ AFn Go.Proofs.Tryz.prog 23 [.ptr 1 0, earA, recA (wxR i)] (rlO wkG1 [.add 1] (-1) v (segA 1 (wxL i) 0)) (fun _ : Unit => .tup [locA 1 (16 + 1000 * i), AV.int .i64 0]) (fun _ => rlO wkG1 [.add 1] (-1) v' (segA 1 (wxL (i + 1)) 0)) := by
 obtain ⟨v', h1, h2⟩ := step_room (g := wkG1) (hd := [.add 1]) (left := -1) (d := []) (sf := 0) h (by omega) (by omega) rfl (by decide) rfl (by rw [wxL_len]; omega) (wxR_may i (by omega)) (by rw [wk_last]; exact Nat.lt_succ_self i) (by rw [wxL_len, wk_off, wxR_size]; omega)
 rw [wxL_len, wk_off, ← wxL_succ] at h2
 rw [← wxL_succ] at h1
 exact ⟨v', h1, h2⟩
theorem wk_chain : ∃ vs : Nat → VM,
 AFn Go.Proofs.Tryz.prog 23 [.ptr 1 0, earA, recA (wxR 0)] (rlC ⟨4096, [], 1, 0⟩ [] (-1) (VM.new 1073741824)) (fun _ : Unit => .tup [locA 1 16, AV.int .i64 0]) (fun _ => rlOn wkG1 [.add 1] (-1) (vs 1) (segA 1 (wxL 1) 0)) ∧
 (∀ i, 1 ≤ i → i ≤ 3 → AFn Go.Proofs.Tryz.prog 23 [.ptr 1 0, earA, recA (wxR i)] (rlO wkG1 [.add 1] (-1) (vs i) (segA 1 (wxL i) 0)) (fun _ : Unit => .tup [locA 1 (16 + 1000 * i), AV.int .i64 0]) (fun _ => rlO wkG1 [.add 1] (-1) (vs (i + 1)) (segA 1 (wxL (i + 1)) 0))) ∧
 AFn Go.Proofs.Tryz.prog 23 [.ptr 1 0, earA, recA (wxR 4)] (rlO wkG1 [.add 1] (-1) (vs 4) (segA 1 (wxL 4) 0)) (fun _ : Unit => .tup [locA 2 16, AV.int .i64 0]) (fun _ => rlOm wkG2 wkE2 (-1) (vs 5) (segA 2 [wxR 4] 0)) ∧
 AFn Go.Proofs.Tryz.prog 26 [.ptr 1 0, earA] (rlO wkG2 wkE2 (-1) (vs 5) (segA 2 [wxR 4] 0)) (fun _ : Unit => AV.int .i64 0) (fun _ => rlCn wkG3 wkE3 (-1) (vs 6)) ∧
 AFn Go.Proofs.Tryz.prog 23 [.ptr 1 0, earA, recA wxD] (rlC wkG3 wkE3 (-1) (vs 6)) (fun _ : Unit => .tup [locA 3 16, AV.int .i64 0]) (fun _ => rlOn wkG4 wkE4 (-1) (vs 7) (segA 3 [wxD] 0)) := by
 obtain ⟨v1, a1, b1⟩ := step_first (g := ⟨4096, [], 1, 0⟩) (hd := []) (left := -1) (RB.new (lim := 4096) (Nat.le_refl 1)) (by decide) (by decide) rfl (by decide) (by decide) rfl (isId 1 (by decide)) (by decide) (by decide) (by decide) (by decide) (wxR_may 0 (by decide)) (by rw [lastS_nil]; exact Nat.succ_pos 0)
 obtain ⟨v2, a2, b2⟩ := wk_room (i := 1) a1 (by decide) (by decide)
 obtain ⟨v3, a3, b3⟩ := wk_room a2 (by decide) (by decide)
 obtain ⟨v4, a4, b4⟩ := wk_room a3 (by decide) (by decide)
 obtain ⟨v5, a5, b5⟩ := step_full (g := wkG1) (hd := [.add 1]) (left := -1) (d := []) (sf := 0) a4 (by decide) (by decide) rfl (by decide) (by decide) rfl (isId 2 (by decide)) (by decide) (by decide) rfl (wxR_may 4 (by decide)) (by rw [wk_last]; exact Nat.lt_succ_self 4) (by rw [wxL_len, wk_off, wxR_size]; decide)
 obtain ⟨c5, a6⟩ := step_sync (d := [⟨1, wxL 4, (wxL 4).length⟩]) a5 (by decide) (by decide) 0
 have b6 := rollRestP_ok wkG2 wkE2 (-1) (by decide) (by decide) (by decide) (by decide) c5
 obtain ⟨v7, a7, b7⟩ := step_first (g := wkG3) (hd := wkE3) (left := -1) (d := [⟨1, wxL 4, (wxL 4).length⟩, ⟨2, [wxR 4], 1⟩]) a6 (by decide) (by decide) rfl (by decide) (by decide) rfl (isId 3 (by decide)) (by decide) (by decide) (by decide) (by decide) wxD_may (by rw [← wxL_succ, wk_last]; decide)
 refine ⟨fun i => match i with | 1 => v1 | 2 => v2 | 3 => v3 | 4 => v4 | 5 => v5 | 6 => v5.sync (segName 2) | _ => v7, b1, fun i h1 h2 => ?_, ?_, b6, b7⟩
 ·have : i = 1 ∨ i = 2 ∨ i = 3 := by omega
  rcases this with rfl | rfl | rfl
  ·exact b2
  ·exact b3
  ·exact b4
 ·rw [wk_last] at b5
  exact b5
end Go.Proofs.YtgfkepebfaiepaaGreatDoor.Ax
