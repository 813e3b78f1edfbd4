/-
  Maps that are gone through: range.
-/
import Derived.Test.YtgfkepebfaiepaaGreatDoorBxN
import Derived.Maps.RangeRun
namespace Go.Proofs.YtgfkepebfaiepaaGreatDoor.Ax
open Go.RowKit
def isMp (d : TD) : Bool := match d.k with | .mp .. => true | _ => false
def rangeW (T : TT) (H : AH) (t : TypeId) (x : AV) : WOut :=
 match T.get t, x with
 | some d, .mp h => bif isMp d then
    match H.get h with
    | some (.map kk m) => some ([], .ptr H.next 0, ⟨H.next + 1, (H.set h (.mapit kk m (m.map (·.1)) H.next none)).ch⟩)
    | _ => none
   else none
 | _, _ => none
def blankS : SemP := ⟨fun _ _ _ => True, fun _ _ _ _ _ _ _ _ => trivial⟩
theorem AH.del_add {H : AH} (c : Chunk) (h : ∀ p ∈ H.ch, p.1 ≠ H.next) : ((H.add c).del H.next).ch = H.ch := by
 unfold AH.add AH.del
 simp only
 have key : ∀ l : List (Nat × Chunk), (∀ p ∈ l, p.1 ≠ H.next) → AH.del.go H.next (l ++ [(H.next, c)]) = l := by
  intro l
  induction l with
  | nil => intro _; simp [AH.del.go]
  | cons p ps ih =>
    intro hp
    have h1 : Nat.beq p.1 H.next = false := by rw [Bool.eq_false_iff]; simpa using hp p (List.mem_cons_self ..)
    simp only [List.cons_append, AH.del.go, h1, cond_false]
    rw [ih fun q hq => hp q (List.mem_cons_of_mem _ hq)]
 exact key H.ch h
theorem AH.get_add_old {H : AH} {c d : Chunk} {h : Nat} (hc : H.get h = some c) : (H.add d).get h = some c := by
 unfold AH.get AH.add at *
 simp only
 generalize H.ch = l at hc
 induction l with
 | nil => cases hc
 | cons p ps ih =>
   simp only [List.cons_append, AH.get.go] at hc ⊢
   cases hb : Nat.beq p.1 h with
   | true => rw [hb] at hc; exact hc
   | false => rw [hb] at hc; exact ih hc
theorem AH.get_add_new {H : AH} {d : Chunk} (h : ∀ p ∈ H.ch, p.1 ≠ H.next) : (H.add d).get H.next = some d := by
 unfold AH.get AH.add
 simp only
 generalize H.ch = l at h
 induction l with
 | nil => simp [AH.get.go]
 | cons p ps ih =>
   have h1 : Nat.beq p.1 H.next = false := by rw [Bool.eq_false_iff]; simpa using h p (List.mem_cons_self ..)
   simp only [List.cons_append, AH.get.go, h1, cond_false]
   exact ih fun q hq => h q (List.mem_cons_of_mem _ hq)
section
variable {ρ : Rho} {ι : Imm} {P : Program} {w : World} {T : TT} {H : AH}
theorem SR.key_ne (hS : SR ρ ι H w) : ∀ p ∈ H.ch, p.1 ≠ H.next := fun p hp e => by
 obtain ⟨hv, h1, _⟩ := hS.rel p hp
 rw [e, hS.fresh _ (Nat.le_refl _)] at h1
 cases h1
theorem rangeW_ok (hT : TOk P T) (hS : SR ρ ι H w) (t : TypeId) (x : AV) {v : Value} (hx : x.R ρ ι v) {cs : List Cnd} {r : AV} {H' : AH} (h : rangeW T H t x = some (cs, r, H')) :
 ∃ u w' ρ', (Instr.range t v).run P w = .ok u w' ∧ r.R ρ' ι u ∧ SR ρ' ι H' w' ∧ Went ρ ι H w ρ' ι H' w' := by
 unfold rangeW at h
 split at h
 ·rename_i d h0 hd
  cases hb : isMp d with
  | false => rw [hb] at h; cases h
  | true =>
    rw [hb] at h
    simp only [cond_true] at h
    split at h
    ·rename_i kk m hg
     simp only [Option.some.injEq, Prod.mk.injEq] at h
     obtain ⟨rfl, rfl, rfl⟩ := h
     have hk : ∃ k e, d.k = .mp k e := by
      unfold isMp at hb
      split at hb
      ·exact ⟨_, _, by assumption⟩
      ·cases hb
     obtain ⟨k, e, hk⟩ := hk
     have hu := td_mp hT hd hk
     simp only [AV.R] at hx
     obtain ⟨hv, b, g1, g2, rfl⟩ := hx
     obtain ⟨hv', g3, b', es, clock, g4, g5, g6, g7⟩ := hS.hv hg
     rw [g1] at g3
     injection g3 with g3
     subst g3
     rw [g2] at g4
     injection g4 with g4
     subst g4
     have hobj := run_getObj (P := P) g6 (fun _ _ _ => by simp)
     have hblt : b < w.heap.size := (Array.getElem?_eq_some_iff.1 g6).1
     have hne := hS.key_ne
     have hlt := hS.key_lt g1
     let o : Obj := .mapIter (some b) clock #[] clock
     obtain ⟨s1, s2⟩ := hS.add (w' := w.alloc o) (.sem blankS) (one1 w.heap.size 0) (touch_alloc w o) (fun k hk => by have : k = w.heap.size := hk; subst this; exact ⟨Nat.le_refl _, by simp⟩) trivial
     have c1 := AH.get_add_old (d := .sem blankS) hg
     have c2 := AH.get_add_new (d := .sem blankS) hne
     have r1 : (ρ.upd H.next (one1 w.heap.size 0)) h0 = some hv := Rho.upd_old (hS.fresh _ (Nat.le_refl _)) g1
     have r2 := Rho.upd_same ρ H.next (one1 w.heap.size 0)
     have hnew : (w.alloc o).heap[w.heap.size]? = some o := by
      show (w.heap.push o)[w.heap.size]? = some o
      simp
     have hold : (w.alloc o).heap[b]? = some (.map es clock) := (heap_alloc_old w o hblt).trans g6
     obtain ⟨j1, j2⟩ := s1.join (k := h0) (i := H.next) (c' := .mapit kk m (m.map (·.1)) H.next none) (by omega) c1 c2 r1 r2 (fun ρ' hle => by
      obtain ⟨hi, q1, q2, _⟩ := hle _ _ r2
      refine ⟨b, w.heap.size, hi, es, clock, clock, #[], clock, g2, q1, q2, by omega, fun k => ?_, hold, hnew, g7, ⟨Nat.le_refl _, Nat.le_refl _⟩, fun e he => g7.clock e he, fun e he => ?_, fun p hp => by cases hp⟩
      ·exact or_congr (g5 k) Iff.rfl
      ·refine ⟨fun _ => ?_, fun _ => by simp⟩
       obtain ⟨l, hp, hz⟩ := g7.zip
       obtain ⟨p, hpm, hkey, _⟩ := hz.mem e (hp.mem_iff.2 he)
       exact ⟨p.1, List.mem_map_of_mem hpm, hkey⟩)
     have hH : ((H.add (.sem blankS)).del H.next).set h0 (.mapit kk m (m.map (·.1)) H.next none) = ⟨H.next + 1, (H.set h0 (.mapit kk m (m.map (·.1)) H.next none)).ch⟩ := by
      unfold AH.set
      rw [AH.del_add _ hne]
      rfl
     rw [hH] at j1 j2
     refine ⟨.pointer (some ⟨w.heap.size, 0, none⟩), w.alloc o, _, ?_, ?_, j1, s2.trans j2⟩
     ·simp [Instr.range, run_underlying hu, hobj, o]
     ·simp only [AV.R]
      have hne2 : H.next ≠ h0 := by omega
      exact ⟨one1 w.heap.size 0, w.heap.size, (Rho.refoot_other hne2).trans r2, rfl, rfl⟩
    ·cases h
 ·cases h
def keyAV : MK → AV
 | .s l => .str l
 | .i k n => .int k n
theorem keyAV_R (k : MK) : (keyAV k).R ρ ι k.val := by cases k <;> simp [keyAV, MK.val, AV.R, IV.R]
def iterOf (i : Nat) : List (Nat × Chunk) → Option (Nat × Option IntKind × List (MK × IV) × List MK × Option (MK × IV))
 | [] => none
 | p :: ps => match p.2 with
   | .mapit kk m left j la => bif Nat.beq j i then some (p.1, kk, m, left, la) else iterOf i ps
   | _ => iterOf i ps
theorem iterOf_mem {i : Nat} {h : Nat} {kk : Option IntKind} {m : List (MK × IV)} {left : List MK} {la : Option (MK × IV)} : ∀ {l : List (Nat × Chunk)}, iterOf i l = some (h, kk, m, left, la) → (h, .mapit kk m left i la) ∈ l
 | [], e => by cases e
 | p :: ps, e => by
   unfold iterOf at e
   split at e
   ·rename_i kk' m' left' j la' hp
    cases hb : Nat.beq j i with
    | true =>
      rw [hb] at e
      have := Nat.eq_of_beq_eq_true hb
      subst this
      simp only [cond_true, Option.some.injEq, Prod.mk.injEq] at e
      obtain ⟨rfl, rfl, rfl, rfl, rfl⟩ := e
      rw [← hp]
      exact List.mem_cons_self ..
    | false => rw [hb] at e; exact List.mem_cons_of_mem _ (iterOf_mem e)
   ·exact List.mem_cons_of_mem _ (iterOf_mem e)
theorem zip_inj {X : Type} {R : X → Value → Prop} : ∀ {l : List MapEntry} {m : List (MK × X)}, ZipR R l m → (m.map (·.1)).Nodup → (l.map (·.key)).Nodup
 | [], _, _, _ => List.nodup_nil
 | e :: es, m, h, hn => by
   obtain ⟨p, ps, rfl, h1, h2, h3⟩ := h
   simp only [List.map_cons, List.nodup_cons] at hn ⊢
   refine ⟨fun hm => hn.1 ?_, zip_inj h3 hn.2⟩
   obtain ⟨e', he', e1⟩ := List.mem_map.1 hm
   obtain ⟨q, hq, hqk, _⟩ := h3.mem e' he'
   have : q.1 = p.1 := MK.val_inj (by rw [← hqk, e1, h1])
   exact this ▸ List.mem_map_of_mem hq
theorem nodup_inj {α β : Type} {f : α → β} {l : List α} (h : (l.map f).Nodup) {a b : α} (ha : a ∈ l) (hb : b ∈ l) (e : f a = f b) : a = b := by
 induction l with
 | nil => cases ha
 | cons x xs ih =>
   simp only [List.map_cons, List.nodup_cons] at h
   rcases List.mem_cons.1 ha with ea | ha' <;> rcases List.mem_cons.1 hb with eb | hb'
   ·rw [ea, eb]
   ·refine absurd ?_ h.1
    rw [← ea, e]; exact List.mem_map_of_mem hb'
   ·refine absurd ?_ h.1
    rw [← eb, ← e]; exact List.mem_map_of_mem ha'
   ·exact ih h.2 ha' hb'
theorem MapR.key_inj {X : Type} {R : X → Value → Prop} {kk : Option IntKind} {m : List (MK × X)} {es : Array MapEntry} {clock : Nat} (h : MapR R kk m es clock) {e e' : MapEntry} (he : e ∈ es.toList) (he' : e' ∈ es.toList) (hk : e.key = e'.key) : e = e' := by
 obtain ⟨l, hp, hz⟩ := h.zip
 exact nodup_inj ((hp.map _).nodup_iff.1 (zip_inj hz h.keys)) he he' hk
theorem MapR.born_inj {X : Type} {R : X → Value → Prop} {kk : Option IntKind} {m : List (MK × X)} {es : Array MapEntry} {clock : Nat} (h : MapR R kk m es clock) {e e' : MapEntry} (he : e ∈ es.toList) (he' : e' ∈ es.toList) (hk : e.born = e'.born) : e = e' := nodup_inj h.born he he' hk
theorem next_run {b it since last clock : Nat} {seen : Array Nat} {es : Array MapEntry} (ty : TypeId) (h1 : w.heap[it]? = some (.mapIter (some b) since seen last)) (h2 : w.heap[b]? = some (.map es clock)) (hs : since ≤ last) (h3 : ∀ e ∈ es.toList, e.born < since) :
 (∃ e w1, e ∈ es.toList ∧ e.born ∉ seen.toList ∧ (w1 = w ∨ w1 = w.drew) ∧ (Instr.next (.pointer (some ⟨it, 0, none⟩)) false ty).run P w = .ok (.tuple #[.bool true, e.key, e.val]) (putObj w1 it (.mapIter (some b) since (seen.push e.born) clock))) ∨
 ((∀ e ∈ es.toList, e.born ∈ seen.toList) ∧ (Instr.next (.pointer (some ⟨it, 0, none⟩)) false ty).run P w = .ok (.tuple #[.bool false]) w) := by
 have hl : ∀ e, e ∈ (leftOf es seen).toList ↔ e ∈ es.toList ∧ e.born ∉ seen.toList := by
  intro e
  simp [leftOf]
 rcases run_next_at (P := P) w ty it b since last seen es clock h1 h2 h3 hs with ⟨g1, g2⟩ | ⟨e, g1, w1, g2, g3⟩
 ·refine .inr ⟨fun e he => ?_, g2⟩
  refine Classical.byContradiction fun hn => ?_
  have := (hl e).2 ⟨he, hn⟩
  have h0 : leftOf es seen = #[] := Array.eq_empty_of_size_eq_zero g1
  rw [h0] at this
  simp at this
 ·exact .inl ⟨e, w1, ((hl e).1 g1).1, ((hl e).1 g1).2, g2, g3⟩
theorem AH.get_of_mem {h : Nat} {c : Chunk} (hn : (H.ch.map (·.1)).Nodup) (hm : (h, c) ∈ H.ch) : H.get h = some c := by
 unfold AH.get
 generalize H.ch = l at *
 induction l with
 | nil => cases hm
 | cons p ps ih =>
   simp only [List.map_cons, List.nodup_cons] at hn
   simp only [AH.get.go]
   rcases List.mem_cons.1 hm with e | hm
   ·subst e
    simp
   ·have hne : Nat.beq p.1 h = false := by
     rw [Bool.eq_false_iff]
     intro e
     have := Nat.eq_of_beq_eq_true e
     exact hn.1 (by rw [this]; exact List.mem_map_of_mem (f := fun p : Nat × Chunk => p.1) hm)
    rw [hne]
    exact ih hn.2 hm
def gmOf (n : Nat) : List (Nat × Chunk) → Option Nat
 | [] => none
 | p :: ps => match p.2 with
   | .gmap g _ _ _ _ => bif Nat.beq g n then some p.1 else gmOf n ps
   | _ => gmOf n ps
theorem gmOf_mem {n h : Nat} : ∀ {l : List (Nat × Chunk)}, gmOf n l = some h → ∃ kk m es clock, (h, .gmap n kk m es clock) ∈ l
 | [], e => by cases e
 | p :: ps, e => by
   unfold gmOf at e
   split at e
   ·rename_i g kk m es clock hp
    cases hb : Nat.beq g n with
    | true =>
      rw [hb] at e
      injection e with e
      have := Nat.eq_of_beq_eq_true hb
      subst this
      exact ⟨kk, m, es, clock, by rw [← e, ← hp]; exact List.mem_cons_self ..⟩
    | false =>
      rw [hb] at e
      obtain ⟨kk, m, es, clock, hm⟩ := gmOf_mem e
      exact ⟨kk, m, es, clock, List.mem_cons_of_mem _ hm⟩
   ·obtain ⟨kk, m, es, clock, hm⟩ := gmOf_mem e
    exact ⟨kk, m, es, clock, List.mem_cons_of_mem _ hm⟩
inductive NX where
 | nxt (h : Nat) (kk : Option IntKind) (m : List (MK × IV)) (left : List MK) (i : Nat)
 | ent (k : MK) (x : IV)
 | gl (h : Nat)
def nextOf (T : TT) (g : Operand → AV) (H : AH) : Op → Option NX
 | .load t (.global n0) => match g (.global n0) with
   | .iv (.v (.pointer (some ⟨n, 0, none⟩))) => match gmOf n H.ch, T.get t with
     | some h, some d => bif d.isAgg then none else some (.gl h)
     | _, _ => none
   | _ => none
 | .next it false => match g it with
   | .ptr i 0 => match iterOf i H.ch with
     | some (h, kk, m, left, _) => some (.nxt h kk m left i)
     | none => none
   | _ => none
 | .entry it => match g it with
   | .ptr i 0 => match iterOf i H.ch with
     | some (_, _, _, _, some p) => some (.ent p.1 p.2)
     | _ => none
   | _ => none
 | _ => none
def nextP (H : AH) (x : NX) (K : AV → AH → Prop) : Prop := match x with
 | .nxt h kk m left i => (∀ p ∈ m, p.1 ∈ left → K (.tup [.bool true, keyAV p.1, .iv p.2]) (H.set h (.mapit kk m (left.filter fun k => decide (k ≠ p.1)) i (some p)))) ∧ ((∀ p ∈ m, p.1 ∉ left) → K (.tup [.bool false]) (H.set h (.map kk m)))
 | .ent k x => K (.tup [keyAV k, .iv x]) H
 | .gl h => K (.mp h) H
theorem nextP_mono {H : AH} {x : NX} {K K' : AV → AH → Prop} (hk : ∀ r H', K r H' → K' r H') (h : nextP H x K) : nextP H x K' := by
 cases x with
 | nxt h0 kk m left i => exact ⟨fun p h1 h2 => hk _ _ (h.1 p h1 h2), fun h1 => hk _ _ (h.2 h1)⟩
 | ent k x => exact hk _ _ h
 | gl h0 => exact hk _ _ h
theorem next_ok (hT : TOk P T) (hS : SR ρ ι H w) {g : Operand → AV} {ev : Operand → Value} (hg : ∀ x, (g x).R ρ ι (ev x)) (o : Oper) {x : NX} (h : nextOf T g H o.op = some x) {K : AV → AH → Prop} (hK : nextP H x K) :
 ∃ v w' ρ' r H', (execOp ev o).run P w = .ok (.value v) w' ∧ K r H' ∧ r.R ρ' ι v ∧ SR ρ' ι H' w' ∧ Went ρ ι H w ρ' ι H' w' := by
 obtain ⟨dst, op, type, pos, after, guard⟩ := o
 cases op <;> simp only [nextOf] at h <;> try cases h
 case load t a =>
  cases a <;> try cases h
  rename_i n0
  generalize hga0 : Operand.global n0 = a at *
  simp only [← hga0] at h
  split at h
  ·rename_i n hga
   rw [hga0] at hga
   split at h
   ·rename_i h0 d hgm hd
    cases hag : d.isAgg with
    | true => rw [hag] at h; cases h
    | false =>
      rw [hag] at h
      injection h with h
      subst h
      obtain ⟨kk, m, es, clock, hmem⟩ := gmOf_mem hgm
      have hget := AH.get_of_mem hS.nodup hmem
      obtain ⟨hv, g1, b, g2, g3, g4, g5, g6⟩ := hS.hv hget
      have ha := hg a
      rw [hga] at ha
      simp only [AV.R, IV.R] at ha
      have hr : AV.Rs ρ ι [AV.mp h0] [Value.map (some b)] := by simp only [AV.Rs, AV.R]; exact ⟨_, _, rfl, ⟨hv, b, g1, g2, rfl⟩, rfl⟩
      have hpt : partA T t [AV.mp h0] 0 = some (.mp h0) := by
       unfold partA
       rw [hd]
       simp only [hag, cond_false]
       rfl
      obtain ⟨u, h1, h2⟩ := run_loadVar (P := P) hT hd (ad := ⟨n, 0, none⟩) rfl hr (fun j u hu => by
       cases j with
       | zero =>
         simp at hu
         subst hu
         exact hS.imm _ _ _ g6
       | succ j => simp at hu) hpt
      have h3 : (Instr.loadAt t (ev a)).run P w = .ok u w := by rw [ha]; simp [Instr.loadAt, Instr.sureAddr, h1]
      exact ⟨u, w, ρ, .mp h0, H, run_v h3, hK, h2, hS, Went.refl _ _ _ _⟩
   ·cases h
  ·cases h
 case entry it =>
  split at h
  ·rename_i i hit
   split at h
   ·rename_i h0 kk m left p hio
    injection h with h
    subst h
    have hget := AH.get_of_mem hS.nodup (iterOf_mem hio)
    have hi := hg it
    rw [hit] at hi
    simp only [AV.R] at hi
    obtain ⟨hvi, bi, i1, i2, i3⟩ := hi
    obtain ⟨hv, g1, b, itb, hi', es, clock, since, seen, last, k1, k2, k3, k4, k5, k6, k7, k8, k9, k10, k11, k12⟩ := hS.hv hget
    rw [i1] at k2
    injection k2 with k2
    subst k2
    rw [i2] at k3
    injection k3 with k3
    subst k3
    obtain ⟨e0, e, e1, e2, e3, e4⟩ := k12 p rfl
    have o1 := run_getObj (P := P) k7 (fun _ _ _ => by simp)
    have o2 := run_getObj (P := P) k6 (fun _ _ _ => by simp)
    have o3 : es.find? (fun e' => e'.born == e.born) = some e := by
     cases hf : es.find? (fun e' => e'.born == e.born) with
     | none =>
       have := Array.find?_eq_none.1 hf e (by simpa using e1)
       simp at this
     | some e' =>
       have h1 := Array.find?_some hf
       have h2 := Array.mem_of_find?_eq_some hf
       exact congrArg some (k8.born_inj (by simpa using h2) e1 (by simpa using h1))
    refine ⟨.tuple #[e.key, e.val], w, ρ, _, _, by simp [execOp, i3, Instr.entry, o1, o2, e4, e0, o3], hK, ?_, hS, Went.refl ..⟩
    simp only [AV.R, AV.Rs]
    exact ⟨[e.key, e.val], rfl, _, _, rfl, by rw [e2]; exact keyAV_R p.1, _, _, rfl, e3, rfl⟩
   ·cases h
  ·cases h
 rename_i it isS
 cases isS with
 | true => cases h
 | false =>
 simp only at h
 split at h
 ·rename_i i hit
  split at h
  ·rename_i h0 kk m left la hio
   injection h with h
   subst h
   have hmem := iterOf_mem hio
   have hget := AH.get_of_mem hS.nodup hmem
   have hi := hg it
   rw [hit] at hi
   simp only [AV.R] at hi
   obtain ⟨hvi, bi, i1, i2, i3⟩ := hi
   obtain ⟨hv, g1, b, itb, hi', es, clock, since, seen, last, k1, k2, k3, k4, k5, k6, k7, k8, k9, k10, k11, k12⟩ := hS.hv hget
   rw [i1] at k2
   injection k2 with k2
   subst k2
   rw [i2] at k3
   injection k3 with k3
   subst k3
   obtain ⟨l, hp, hz⟩ := k8.zip
   have exec : (execOp ev ⟨dst, .next it false, type, pos, after, guard⟩).run P w = ((Instr.next (.pointer (some ⟨bi, 0, none⟩)) false type).run P w).andThen fun v w' => .ok (.value v) w' := by
    simp [execOp, i3]
   rcases next_run (P := P) type k7 k6 k9.1 k10 with ⟨e, w1, n1, n2, n3, n4⟩ | ⟨n1, n2⟩
   ·obtain ⟨p, hpm, hkey, hval⟩ := hz.mem e (hp.mem_iff.2 n1)
    obtain ⟨key, hkl, hke⟩ := (k11 e n1).1 n2
    have hkp : key = p.1 := MK.val_inj (by rw [← hke, hkey])
    subst hkp
    have hS1 : SR ρ ι H w1 := by rcases n3 with rfl | rfl; exact hS; exact hS.drew
    have hW1 : Went ρ ι H w ρ ι H w1 := by rcases n3 with rfl | rfl; exact Went.refl ..; exact Went.drew ..
    have hheap : w1.heap = w.heap := by rcases n3 with rfl | rfl <;> rfl
    have hne : bi ≠ b := k4
    have hbi : bi < w1.heap.size := by rw [hheap]; exact (Array.getElem?_eq_some_iff.1 k7).1
    obtain ⟨s1, s2⟩ := hS1.turn (c' := .mapit kk m (left.filter fun k => decide (k ≠ p.1)) i (some p)) (w' := putObj w1 bi (.mapIter (some b) since (seen.push e.born) clock)) hget g1
     (by have := putObj_touch w1 bi (.mapIter (some b) since (seen.push e.born) clock); exact ⟨this.os, this.tape, this.output, this.size, fun k hk hs => this.block k hk fun e' => hs ((k5 k).2 (.inr e'))⟩)
     ⟨b, bi, hvi, es, clock, since, seen.push e.born, clock, k1, i1, i2, hne, k5, by
      rw [show (putObj w1 bi (.mapIter (some b) since (seen.push e.born) clock)).heap[b]? = w1.heap[b]? by simp [putObj, Array.getElem?_setIfInBounds_ne hne], hheap]; exact k6, by
      simp [putObj, hbi], k8, ⟨k9.2, k9.2⟩, k10, fun e' he' => by
      rw [Array.toList_push, List.mem_append, List.mem_singleton, not_or, k11 e' he']
      constructor
      ·rintro ⟨⟨k, hk, hek⟩, hnb⟩
       exact ⟨k, List.mem_filter.2 ⟨hk, decide_eq_true fun e1 => hnb (by rw [k8.key_inj he' n1 (by rw [hek, hkey, e1])])⟩, hek⟩
      ·rintro ⟨k, hk, hek⟩
       have hk' := List.mem_filter.1 hk
       exact ⟨⟨k, hk'.1, hek⟩, fun e1 => (of_decide_eq_true hk'.2) (MK.val_inj (by rw [← hek, ← hkey, k8.born_inj he' n1 e1]))⟩, fun q hq => by
      cases hq
      exact ⟨rfl, e, n1, hkey, hval, by simp⟩⟩
    refine ⟨_, _, ρ, _, _, by rw [exec, n4]; rfl, hK.1 p hpm hkl, ?_, s1, hW1.trans s2⟩
    simp only [AV.R, AV.Rs, IV.R]
    exact ⟨[.bool true, e.key, e.val], rfl, _, _, rfl, rfl, _, _, rfl, by rw [hkey]; exact keyAV_R p.1, _, _, rfl, hval, rfl⟩
   ·have hend : ∀ p ∈ m, p.1 ∉ left := fun p hpm hpl => by
     obtain ⟨e, he, hke, _⟩ := hz.mem' p hpm
     have he := hp.mem_iff.1 he
     exact (k11 e he).2 ⟨p.1, hpl, hke⟩ (n1 e he)
    obtain ⟨s1, s2⟩ := hS.shrink (c' := .map kk m) hget g1 (fun k => k = b) (fun k hk => (k5 k).2 (.inl hk)) (fun ρ' _ => ⟨b, es, clock, k1, fun k => Iff.rfl, k6, k8⟩)
    refine ⟨_, _, _, _, _, by rw [exec, n2]; rfl, hK.2 hend, ?_, s1, s2⟩
    simp only [AV.R, AV.Rs, IV.R]
    exact ⟨[.bool false], rfl, _, _, rfl, rfl, rfl⟩
  ·cases h
 ·cases h
end
end Go.Proofs.YtgfkepebfaiepaaGreatDoor.Ax
