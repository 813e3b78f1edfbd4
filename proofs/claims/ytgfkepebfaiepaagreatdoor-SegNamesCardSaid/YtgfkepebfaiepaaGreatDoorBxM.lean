/-
  Operations that write memory: stores.
-/
import Derived.Test.YtgfkepebfaiepaaGreatDoorBxL
namespace Go.Proofs.YtgfkepebfaiepaaGreatDoor.Ax
open Go.RowKit
section
variable {ρ : Rho} {ι : Imm} {P : Program} {w : World} {T : TT} {H : AH}
def putObj (w : World) (b : Nat) (o : Obj) : World := { w with heap := w.heap.setIfInBounds b o }
theorem putObj_same {b : Nat} {o o' : Obj} (h : w.heap[b]? = some o) : (putObj w b o').heap[b]? = some o' := by
 have hb : b < w.heap.size := (Array.getElem?_eq_some_iff.1 h).1
 simp [putObj, hb]
theorem putObj_put (w : World) (b : Nat) (o o' : Obj) : putObj (putObj w b o) b o' = putObj w b o' := by
 simp [putObj]
theorem putObj_touch (w : World) (b : Nat) (o : Obj) : Touch (fun k => k = b) w (putObj w b o) :=
 ⟨rfl, rfl, rfl, by simp [putObj], fun k _ hs => by simp only [putObj]; rw [Array.getElem?_setIfInBounds_ne (fun e => hs e.symm)]⟩
theorem putObj_id {b : Nat} {o : Obj} (h : w.heap[b]? = some o) : putObj w b o = w := by
 obtain ⟨hb, he⟩ := Array.getElem?_eq_some_iff.1 h
 have : w.heap.setIfInBounds b o = w.heap := by
  apply Array.ext_getElem?
  intro i
  by_cases hi : b = i
  ·subst hi; rw [h]; simp [hb]
  ·rw [Array.getElem?_setIfInBounds_ne hi]
 simp [putObj, this]
theorem setCell_put {b o : Nat} {arr : Array Value} {e : TypeId} {fr : Nat × Nat} (h : w.heap[b]? = some (.cells arr e fr)) (v : Value) : w.setCell ⟨b, o, none⟩ v = putObj w b (.cells (arr.setIfInBounds o v) e fr) := by
 have hb : b < w.heap.size := (Array.getElem?_eq_some_iff.1 h).1
 simp only [World.setCell, putObj]
 congr 1
 apply Array.ext_getElem?
 intro i
 rw [Array.getElem?_modify]
 by_cases hi : b = i
 ·subst hi
  rw [if_pos rfl, h]
  simp [hb]
 ·rw [if_neg hi, Array.getElem?_setIfInBounds_ne hi]
def layArr (arr : Array Value) (o : Nat) : List Value → Array Value
 | [] => arr
 | v :: vs => layArr (arr.setIfInBounds o v) (o + 1) vs
theorem layArr_eq : ∀ (us : List Value) (vs : List Value) (o : Nat), layArr vs.toArray o us = (layV vs o us).toArray
 | [], vs, o => rfl
 | u :: us, vs, o => by
   simp only [layArr, layV]
   rw [← layArr_eq us]
   simp
theorem layArr_size : ∀ (us : List Value) (arr : Array Value) (o : Nat), (layArr arr o us).size = arr.size
 | [], arr, o => rfl
 | u :: us, arr, o => by simp only [layArr]; rw [layArr_size us]; simp
theorem layArr_out : ∀ (us : List Value) (arr : Array Value) (o j : Nat), (j < o ∨ o + us.length ≤ j) → (layArr arr o us)[j]? = arr[j]?
 | [], arr, o, j, _ => rfl
 | u :: us, arr, o, j, h => by
   simp only [List.length_cons] at h
   simp only [layArr]
   rw [layArr_out us _ _ _ (by omega), Array.getElem?_setIfInBounds_ne (by omega)]
theorem layArr_in : ∀ (us : List Value) (arr : Array Value) (o j : Nat), o + us.length ≤ arr.size → j < us.length → (layArr arr o us)[o + j]? = us[j]?
 | [], arr, o, j, _, h => by simp at h
 | u :: us, arr, o, j, hs, h => by
   simp only [List.length_cons] at hs h
   simp only [layArr]
   cases j with
   | zero =>
     rw [layArr_out us _ _ _ (by omega)]
     simp only [Nat.add_zero, List.getElem?_cons_zero]
     rw [Array.getElem?_setIfInBounds_self_of_lt (by omega)]
   | succ j =>
     rw [show o + (j + 1) = (o + 1) + j by omega, layArr_in us _ _ _ (by simp; omega) (by omega), List.getElem?_cons_succ]
theorem run_stores {b : Nat} {e : TypeId} {fr : Nat × Nat} (off : Nat) : ∀ (vs : List Value) (i : Nat) (arr : Array Value) (w : World), w.heap[b]? = some (.cells arr e fr) → FrOk fr arr.size →
 off + i + vs.length ≤ arr.size → (∀ v ∈ vs, v.oneCell' = true) → (storeCells ⟨b, off, none⟩ vs i).run P w = .ok () (putObj w b (.cells (layArr arr (off + i) vs) e fr))
 | [], i, arr, w, h, _, _, _ => by simp [storeCells, layArr, putObj_id h]
 | v :: vs, i, arr, w, h, hf, hl, h1 => by
   simp only [List.length_cons] at hl
   have hv := h1 v (List.mem_cons_self ..)
   have hlt : off + i < arr.size := by omega
   have hcell : w.cell? ⟨b, off + i, none⟩ = some arr[off + i] := by rw [heap_cell h]; simp [hlt]
   have hfz : w.frozen? ⟨b, off + i, none⟩ = false := by simp only [World.frozen?, h]; exact hf.2 _ hlt
   have hst := run_store P w ⟨b, off + i, none⟩ v .plain hv
   rw [hcell] at hst
   simp only [hfz, Bool.false_eq_true, if_false] at hst
   have h2 : (w.setCell ⟨b, off + i, none⟩ v).heap[b]? = some (.cells (arr.setIfInBounds (off + i) v) e fr) := by
    rw [setCell_put h]; exact putObj_same h
   have ih := run_stores off vs (i + 1) (arr.setIfInBounds (off + i) v) _ h2 ⟨hf.1, fun j hj => hf.2 j (by simpa using hj)⟩ (by simp; omega) (fun u hu => h1 u (List.mem_cons_of_mem _ hu))
   simp only [storeCells, Sem.run_bind, add_none, hst, Result.andThen_ok, ih, layArr]
   rw [setCell_put h, putObj_put]
   rfl
theorem layV_one : ∀ (us vs : List Value) (o : Nat), (∀ v ∈ vs, v.oneCell' = true) → (∀ v ∈ us, v.oneCell' = true) → ∀ v ∈ layV vs o us, v.oneCell' = true
 | [], vs, o, h, _ => h
 | u :: us, vs, o, h, h' => by
   simp only [layV]
   refine layV_one us _ _ (fun v hv => ?_) (fun v hv => h' v (List.mem_cons_of_mem _ hv))
   rcases List.mem_or_eq_of_mem_set hv with hv | rfl
   ·exact h v hv
   ·exact h' v (List.mem_cons_self ..)
def layI (cs : List IV) (off : Nat) : List IV → List IV
 | [] => cs
 | x :: xs => layI (cs.set off x) (off + 1) xs
theorem layI_map : ∀ (xs cs : List IV) (off : Nat), (layI cs off xs).map AV.iv = layA (cs.map AV.iv) off (xs.map AV.iv)
 | [], cs, off => rfl
 | x :: xs, cs, off => by simp only [layI, layA, List.map_cons]; rw [layI_map xs, List.map_set]
theorem toIVs_map : ∀ (xs : List AV) (ys : List IV), toIVs xs = some ys → xs = ys.map AV.iv
 | [], ys, h => by simp only [toIVs, Option.some.injEq] at h; subst h; rfl
 | x :: xs, ys, h => by
   unfold toIVs at h
   split at h
   ·rename_i y zs hy hzs
    simp only [Option.some.injEq] at h
    subst h
    cases x <;> simp only [AV.toIV] at hy <;> cases hy
    simp [toIVs_map xs zs hzs]
   ·cases h
theorem layV_len : ∀ (us vs : List Value) (o : Nat), (layV vs o us).length = vs.length
 | [], vs, o => rfl
 | u :: us, vs, o => by simp only [layV]; rw [layV_len us]; simp
abbrev WOut := Option (List Cnd × AV × AH)
def storeW (T : TT) (H : AH) (t : TypeId) (a x : AV) : WOut :=
 match T.get t, x.cells with
 | some d, some xs =>
   bif Nat.beq xs.length d.size && xs.all AV.one then
    match a with
    | .ptr h off => match H.get h with
      | some (.cells e cs) => bif Nat.ble (off + xs.length) cs.length then some ([], .junk, H.set h (.cells e (layA cs off xs))) else none
      | _ => none
    | .el h sz i fo => match H.get h with
      | some (.rowc e sz' n f) => match toIVs xs with
        | some ys => bif Nat.beq sz sz' && Nat.ble (fo + xs.length) sz then some ([.nlt i n], .junk, H.set h (.rowc e sz n (fun j => if j = i then layI (f i) fo ys else f j))) else none
        | none => none
      | some (.brow e l) => match xs with
        | [.iv (.v (.int .u8 n))] => bif Nat.beq sz 1 && Nat.beq fo 0 then some ([.nlt i l.length, .le 0 n, .le n 255], .junk, H.set h (.brow e (l.set i (UInt8.ofNat n.toNat)))) else none
        | _ => none
      | _ => none
    | _ => none
   else none
 | _, _ => none
theorem SR.put (hS : SR ρ ι H w) {h b : Nat} {c c' : Chunk} {hv : HV} (hc : H.get h = some c) (hr : ρ h = some hv) (hf : ∀ k, hv.foot k ↔ k = b) (o : Obj) (hc' : c'.R ρ ι hv (putObj w b o)) :
 SR ρ ι (H.set h c') (putObj w b o) ∧ Went ρ ι H w ρ ι (H.set h c') (putObj w b o) :=
 hS.turn hc hr (by have := putObj_touch w b o; exact ⟨this.os, this.tape, this.output, this.size, fun k hk hs => this.block k hk fun e => hs ((hf k).2 e)⟩) hc'
theorem storeW_ok (hT : TOk P T) (hS : SR ρ ι H w) (t : TypeId) (a x : AV) {u v : Value} (ha : a.R ρ ι u) (hx : x.R ρ ι v) {cs : List Cnd} {r : AV} {H' : AH} (h : storeW T H t a x = some (cs, r, H')) (hc : ands cs True) :
 ∃ w', (Instr.storeAt t u v).run P w = .ok () w' ∧ r = .junk ∧ SR ρ ι H' w' ∧ Went ρ ι H w ρ ι H' w' := by
 unfold storeW at h
 split at h
 ·rename_i d xs hd hxs
  cases hb : (Nat.beq xs.length d.size && xs.all AV.one) with
  | false => rw [hb] at h; cases h
  | true =>
    rw [hb] at h
    simp only [cond_true] at h
    rw [Bool.and_eq_true] at hb
    have hl := Nat.eq_of_beq_eq_true hb.1
    obtain ⟨us, he, hr⟩ := cells_spec hx hxs
    have h1 := all_one hb.2 hr
    have hul := Rs_lenA _ _ hr
    have hsz := run_sizeOf' hT hd w
    have run : ∀ (b off : Nat) (arr : Array Value) (e : TypeId) (fr : Nat × Nat), u = .pointer (some ⟨b, off, none⟩) → w.heap[b]? = some (.cells arr e fr) → FrOk fr arr.size → off + us.length ≤ arr.size →
     (Instr.storeAt t u v).run P w = .ok () (putObj w b (.cells (layArr arr off us) e fr)) := by
     intro b off arr e fr hu hh hf hfit
     have hst := run_stores (P := P) (b := b) (e := e) (fr := fr) off us 0 arr w hh hf (by simpa using hfit) h1
     rw [Nat.add_zero] at hst
     subst hu
     have hne : us.length = d.size := by omega
     simp [Instr.storeAt, Instr.sureAddr, storeVar, hsz, he, hne, hst]
    split at h
    ·rename_i h0 off
     simp only [AV.R] at ha
     obtain ⟨hv, b, g1, g2, hu⟩ := ha
     split at h
     ·rename_i e cs0 hg
      cases hb2 : Nat.ble (off + xs.length) cs0.length with
      | false => rw [hb2] at h; cases h
      | true =>
        rw [hb2] at h
        simp only [cond_true, Option.some.injEq, Prod.mk.injEq] at h
        obtain ⟨rfl, rfl, rfl⟩ := h
        have hle := Nat.le_of_ble_eq_true hb2
        obtain ⟨hv', g3, b', vs, g4, g5, g6, g7⟩ := hS.hv hg
        rw [g1] at g3
        injection g3 with g3
        subst g3
        rw [g2] at g4
        injection g4 with g4
        subst g4
        have hvl := Rs_lenA _ _ g7
        have hrun := run b off vs.toArray e (0, 0) hu g6 (FrOk.zero _) (by simp; omega)
        obtain ⟨s1, s2⟩ := hS.put hg g1 g5 (.cells (layArr vs.toArray off us) e (0, 0)) (c' := .cells e (layA cs0 off xs)) ⟨b, layV vs off us, g2, g5, by rw [layArr_eq]; exact putObj_same g6, layA_ok xs us off cs0 vs hr g7⟩
        exact ⟨_, hrun, rfl, s1, s2⟩
     ·cases h
    ·rename_i h0 sz i fo
     simp only [AV.R] at ha
     obtain ⟨hv, b, g1, g2, hu⟩ := ha
     split at h
     ·rename_i e sz' n f hg
      split at h
      ·rename_i ys hys
       cases hb2 : (Nat.beq sz sz' && Nat.ble (fo + xs.length) sz) with
       | false => rw [hb2] at h; cases h
       | true =>
         rw [hb2] at h
         simp only [cond_true, Option.some.injEq, Prod.mk.injEq] at h
         obtain ⟨rfl, rfl, rfl⟩ := h
         rw [Bool.and_eq_true] at hb2
         have hsz2 := Nat.eq_of_beq_eq_true hb2.1
         have hle := Nat.le_of_ble_eq_true hb2.2
         subst hsz2
         obtain ⟨hi, _⟩ := hc
         obtain ⟨hv', g3, g4⟩ := hS.hv hg
         rw [g1] at g3
         injection g3 with g3
         subst g3
         rcases g4 with ⟨g4, _⟩ | ⟨b', arr, fr, q1, q2, q3, q4, q5, q6, q7⟩
         ·rw [g2] at g4; cases g4
         ·rw [g2] at q1
          injection q1 with q1
          subst q1
          have hfit : i * sz + sz ≤ n * sz := by rw [← Nat.succ_mul]; exact Nat.mul_le_mul_right _ hi
          have hrun := run b (i * sz + fo) arr e fr hu q3 q5 (by omega)
          obtain ⟨s1, s2⟩ := hS.put hg g1 q2 (.cells (layArr arr (i * sz + fo) us) e fr) (c' := .rowc e sz n (fun j => if j = i then layI (f i) fo ys else f j)) (.inr ⟨b, layArr arr (i * sz + fo) us, fr, g2, q2, putObj_same q3, by rw [layArr_size]; exact q4, by rw [layArr_size]; exact q5, by rw [layArr_size]; exact q6, fun j hj => by
           obtain ⟨vs, r1, r2, ro, r3⟩ := q7 j hj
           by_cases hji : j = i
           ·subst hji
            simp only [if_true]
            refine ⟨layV vs fo us, ?_, by rw [layV_len]; exact r2, layV_one us vs fo ro h1, fun k u hu => ?_⟩
            ·have := layA_ok (ρ := ρ) (ι := ι) xs us fo ((f j).map AV.iv) vs hr ((Rs_iv _ _).2 r1)
             rw [toIVs_map xs ys hys, ← layI_map] at this
             exact (Rs_iv _ _).1 this
            ·have hk : k < sz := by
              rcases Nat.lt_or_ge k (layV vs fo us).length with h' | h'
              ·rw [layV_len, r2] at h'; exact h'
              ·rw [List.getElem?_eq_none h'] at hu; cases hu
             have hlv : (layV vs fo us)[k]? = (layArr vs.toArray fo us)[k]? := by rw [layArr_eq]; simp
             rw [hlv] at hu
             by_cases hin : fo ≤ k ∧ k < fo + us.length
             ·obtain ⟨m, rfl⟩ : ∃ m, k = fo + m := ⟨k - fo, by omega⟩
              rw [layArr_in us _ _ _ (by simp; omega) (by omega)] at hu
              rw [← Nat.add_assoc, layArr_in us _ _ _ (by omega) (by omega)]
              exact hu
             ·rw [layArr_out us _ _ _ (by omega)] at hu
              rw [layArr_out us _ _ _ (by omega)]
              exact r3 k u (by simpa using hu)
           ·simp only [if_neg hji]
            refine ⟨vs, r1, r2, ro, fun k u hu => ?_⟩
            have hk : k < sz := by
             rcases Nat.lt_or_ge k vs.length with h' | h'
             ·omega
             ·rw [List.getElem?_eq_none h'] at hu; cases hu
            rw [layArr_out us _ _ _ ?_]
            ·exact r3 k u hu
            ·rcases Nat.lt_or_gt_of_ne hji with h' | h'
             ·left
              have : (j + 1) * sz ≤ i * sz := Nat.mul_le_mul_right _ h'
              rw [Nat.succ_mul] at this
              omega
             ·right
              have : (i + 1) * sz ≤ j * sz := Nat.mul_le_mul_right _ h'
              rw [Nat.succ_mul] at this
              omega⟩)
          exact ⟨_, hrun, rfl, s1, s2⟩
      ·cases h
     ·rename_i e l hg
      split at h
      ·rename_i n
       cases hb2 : (Nat.beq sz 1 && Nat.beq fo 0) with
       | false => rw [hb2] at h; cases h
       | true =>
         rw [hb2] at h
         simp only [cond_true, Option.some.injEq, Prod.mk.injEq] at h
         obtain ⟨rfl, rfl, rfl⟩ := h
         rw [Bool.and_eq_true] at hb2
         have hsz2 := Nat.eq_of_beq_eq_true hb2.1
         have hfo := Nat.eq_of_beq_eq_true hb2.2
         subst hsz2 hfo
         obtain ⟨hi, n0, n1, _⟩ := hc
         obtain ⟨hv', g3, g4⟩ := hS.hv hg
         rw [g1] at g3
         injection g3 with g3
         subst g3
         simp only [AV.Rs, AV.R, IV.R] at hr
         obtain ⟨u0, us0, rfl, rfl, rfl⟩ := hr
         rcases g4 with ⟨g4, _⟩ | ⟨b', arr, fr, q1, q2, q3, q4, q5, q6, q7⟩
         ·rw [g2] at g4; cases g4
         ·rw [g2] at q1
          injection q1 with q1
          subst q1
          have hrun := run b (i * 1 + 0) arr e fr hu q3 q5 (by simp; omega)
          obtain ⟨s1, s2⟩ := hS.put hg g1 q2 (.cells (layArr arr (i * 1 + 0) [.int .u8 n]) e fr) (c' := .brow e (l.set i (UInt8.ofNat n.toNat))) (.inr ⟨b, layArr arr (i * 1 + 0) [.int .u8 n], fr, g2, q2, putObj_same q3, by rw [layArr_size]; exact q4, by rw [layArr_size]; exact q5, by rw [layArr_size]; simpa using q6, fun j hj => by
           rw [List.length_set] at hj
           by_cases hji : j = i
           ·subst hji
            have := layArr_in [.int .u8 n] arr j 0 (by simp; omega) (by simp)
            simp only [Nat.mul_one, Nat.add_zero] at this ⊢
            rw [this]
            simp only [List.getElem?_cons_zero]
            have e1 : (l.set j (UInt8.ofNat n.toNat)).getD j 0 = UInt8.ofNat n.toNat := by simp [List.getD, hj]
            rw [e1, ofNat_toNat n0 n1]
           ·rw [layArr_out _ _ _ _ (by simp; omega)]
            rw [q7 j hj]
            simp [List.getD, Ne.symm hji]⟩)
          exact ⟨_, hrun, rfl, s1, s2⟩
      ·cases h
     ·cases h
    ·cases h
 ·cases h
def litW (fz : Bool) (T : TT) (H : AH) (s d : TypeId) (x : AV) : WOut :=
 match elemOfT T d with
 | some (_, de) => bif Nat.beq s d && isByte de then
    match x with
    | .row h 1 0 len => match H.get h with
      | some (.brow _ l) => bif fz then some ([.nle 1 len, .nle len l.length], .iv (.bs (l.take len)), H.del h) else some ([.nle 1 len], .row h 1 0 len, H)
      | _ => none
    | _ => none
   else none
 | none => none
theorem AH.set_get {H : AH} {h : Nat} {c : Chunk} (e : H.get h = some c) : H.set h c = H := by
 obtain ⟨n, l⟩ := H
 unfold AH.set AH.get at *
 simp only [AH.mk.injEq, true_and]
 simp only at e
 induction l with
 | nil => rfl
 | cons p ps ih =>
   simp only [AH.get.go, AH.set.go] at e ⊢
   cases hb : Nat.beq p.1 h with
   | true =>
     rw [hb] at e
     simp only [cond_true, Option.some.injEq] at e ⊢
     rw [← e]
   | false =>
     rw [hb] at e
     simp only [cond_false] at e ⊢
     rw [ih e]
theorem isByte_spec {d : TD} (h : isByte d = true) : d.k = .int .u8 := by
 unfold isByte at h
 split at h
 ·assumption
 ·cases h
theorem run_mark {b : Nat} {arr : Array Value} {e : TypeId} {fr : Nat × Nat} (h : w.heap[b]? = some (.cells arr e fr)) : (markStringish ⟨b, 0, none⟩).run P w = .ok () (putObj w b (.cells arr e (if fr.1 = fr.2 then (arr.size, arr.size + 1) else (min fr.1 arr.size, max fr.2 (arr.size + 1))))) := by
 have hsh : w.shape? b = some (e, arr.size) := by simp [World.shape?, h]
 have hfz : w.freeze ⟨b, arr.size, none⟩ 1 = putObj w b (.cells arr e (if fr.1 = fr.2 then (arr.size, arr.size + 1) else (min fr.1 arr.size, max fr.2 (arr.size + 1)))) := by
  obtain ⟨lo, hi⟩ := fr
  have hb : b < w.heap.size := (Array.getElem?_eq_some_iff.1 h).1
  have hx : w.heap[b] = .cells arr e (lo, hi) := (Array.getElem?_eq_some_iff.1 h).2
  unfold World.freeze putObj
  rw [if_neg (by decide)]
  simp only
  congr 1
  apply Array.ext_getElem?
  intro i
  rw [Array.getElem?_modify, Array.getElem?_setIfInBounds]
  by_cases hi : b = i
  ·subst hi
   simp only [if_true, h, Option.map_some, if_pos hb]
   by_cases hq : lo = ‹Nat›
   all_goals simp_all
  ·simp [hi]
 simp [markStringish, hsh, hfz]
theorem FrOk.mark {fr : Nat × Nat} {n : Nat} (h : FrOk fr n) : FrOk (if fr.1 = fr.2 then (n, n + 1) else (min fr.1 n, max fr.2 (n + 1))) n := by
 obtain ⟨lo, hi⟩ := fr
 obtain ⟨h1, h2⟩ := h
 simp only at h1 h2 ⊢
 split
 ·exact ⟨by simp, fun j hj => by simp; omega⟩
 ·rename_i hne
  have hge : n ≤ lo := by
   rcases Nat.lt_or_ge lo n with h | h
   ·have := h2 lo h
    simp at this
    omega
   ·exact h
  refine ⟨by simp; omega, fun j hj => by simp; omega⟩
theorem litW_ok (fz : Bool) (hT : TOk P T) (hS : SR ρ ι H w) (s d : TypeId) (x : AV) {v : Value} (hx : x.R ρ ι v) {cs : List Cnd} {r : AV} {H' : AH} (h : litW fz T H s d x = some (cs, r, H')) (hc : ands cs True) :
 (fz = false → H' = H) ∧ ∃ w' ι', (convert s d v).run P w = .ok v w' ∧ SR ρ ι' H' w' ∧ Went ρ ι H w ρ ι' H' w' ∧ r.R ρ ι' v := by
 unfold litW at h
 split at h
 ·rename_i e de he
  cases hb : (Nat.beq s d && isByte de) with
  | false => rw [hb] at h; cases h
  | true =>
    rw [hb] at h
    simp only [cond_true] at h
    rw [Bool.and_eq_true] at hb
    have hsd := Nat.eq_of_beq_eq_true hb.1
    subst hsd
    split at h
    ·rename_i k len
     split at h
     ·rename_i e0 l hg
      have hlen : 1 ≤ len := by
       cases fz with
       | true => simp only [cond_true, Option.some.injEq, Prod.mk.injEq] at h; obtain ⟨rfl, _, _⟩ := h; exact hc.1
       | false => simp only [cond_false, Option.some.injEq, Prod.mk.injEq] at h; obtain ⟨rfl, _, _⟩ := h; exact hc.1
      have hx' := hx
      simp only [AV.R] at hx
      obtain ⟨A, c, rfl, h1, h2, h3⟩ := hx
      obtain ⟨hv, b, g1, g2, rfl, g4⟩ := h3 (by omega)
      obtain ⟨hv', g5, g6⟩ := hS.hv hg
      rw [g1] at g5
      injection g5 with g5
      subst g5
      obtain ⟨hu, hde⟩ := elemOfT_spec hT he
      have hue := td_int hT hde (isByte_spec hb.2)
      rcases g6 with ⟨q1, _⟩ | ⟨b', arr, fr, q1, q2, q3, q4, q5, q6, q7⟩
      ·rw [g2] at q1; cases q1
      ·rw [g2] at q1
       injection q1 with q1
       subst q1
       obtain ⟨s1, s2⟩ := hS.put hg g1 q2 (.cells arr e0 (if fr.1 = fr.2 then (arr.size, arr.size + 1) else (min fr.1 arr.size, max fr.2 (arr.size + 1)))) (c' := .brow e0 l) (.inr ⟨b, arr, _, g2, q2, putObj_same q3, q4, q5.mark, q6, q7⟩)
       rw [AH.set_get hg] at s1 s2
       have hm := run_mark (P := P) q3
       have hrun : (convert s s (.slice (some ⟨b, 0 * 1, none⟩) len c)).run P w = .ok (.slice (some ⟨b, 0 * 1, none⟩) len c) (putObj w b (.cells arr e0 (if fr.1 = fr.2 then (arr.size, arr.size + 1) else (min fr.1 arr.size, max fr.2 (arr.size + 1))))) := by
        simp only [Nat.zero_mul] at hm ⊢
        simp [convert, run_underlying hu, run_underlying hue, hm]
       cases fz with
       | false =>
         simp only [cond_false, Option.some.injEq, Prod.mk.injEq] at h
         obtain ⟨rfl, rfl, rfl⟩ := h
         exact ⟨fun _ => rfl, _, ι, hrun, s1, s2, hx'⟩
       | true =>
         simp only [cond_true, Option.some.injEq, Prod.mk.injEq] at h
         obtain ⟨rfl, rfl, rfl⟩ := h
         have hll : len ≤ l.length := hc.2.1
         have hobj := putObj_same (w := w) (o' := Obj.cells arr e0 (if fr.1 = fr.2 then (arr.size, arr.size + 1) else (min fr.1 arr.size, max fr.2 (arr.size + 1)))) q3
         obtain ⟨k1, k2, k3⟩ := s1.freeze hg g1 ((q2 b).2 rfl) (fun o => if o < l.length then some (.int .u8 ((l.getD o 0).toNat : Int)) else none) (fun o v hv => by
          split at hv
          ·rename_i ho
           injection hv with hv
           subst hv
           refine ⟨?_, rfl⟩
           simp only [World.cell?, hobj]
           exact q7 o ho
          ·cases hv)
         refine ⟨(fun h => by cases h), _, _, hrun, k2, s2.trans k3, ?_⟩
         simp only [AV.R, IV.R]
         have hlt : (l.take len).length = len := by simp; omega
         refine ⟨_, c, by rw [hlt], by omega, h2, fun k hk => ⟨_, rfl, rfl, ?_⟩⟩
         have hk' : k < len := by omega
         have h6 : (l.take len).getD k 0 = l.getD k 0 := by
          rw [List.getD_eq_getElem?_getD, List.getD_eq_getElem?_getD, List.getElem?_take_of_lt hk']
         simp only [Nat.zero_mul, Nat.zero_add, if_true, h6]
         rw [if_pos (by omega)]
     ·cases h
    ·cases h
 ·cases h
end
end Go.Proofs.YtgfkepebfaiepaaGreatDoor.Ax
