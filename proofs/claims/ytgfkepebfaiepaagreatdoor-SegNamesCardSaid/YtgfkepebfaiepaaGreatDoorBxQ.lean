/-
  append, as a write of the abstract machine: the model does just that.
-/
import Derived.Test.YtgfkepebfaiepaaGreatDoorBxP
namespace Go.Proofs.YtgfkepebfaiepaaGreatDoor.Ax
open Go.RowKit
section
variable {ρ : Rho} {ι : Imm} {P : Program} {w : World} {T : TT} {H : AH}
theorem Touch.weaken {S S' : Nat → Prop} {w w' : World} (h : Touch S w w') (hs : ∀ k, S k → S' k) : Touch S' w w' := ⟨h.os, h.tape, h.output, h.size, fun k hk hn => h.block k hk fun e => hn (hs k e)⟩
theorem touch_drawn (w : World) (o : Obj) (S : Nat → Prop) : Touch S w (w.drew.alloc o) := ⟨rfl, rfl, rfl, by simp, fun k hk _ => heap_alloc_old w.drew o hk⟩
def Lies (w' : World) (hu : HV) (e : TypeId) (l : List Value) : Prop :=
 (hu.blk = none ∧ l = [] ∧ ∀ k, ¬ hu.foot k) ∨ ∃ (b : Nat) (arr : Array Value) (fr : Nat × Nat), hu.blk = some b ∧ (∀ k, hu.foot k ↔ k = b) ∧ w'.heap[b]? = some (.cells arr e fr) ∧ arr.size = hu.room ∧ FrOk fr arr.size ∧ l.length ≤ arr.size ∧ ∀ (j : Nat) (u : Value), l[j]? = some u → arr[j]? = some u
theorem Lies.brow {w' : World} {hu : HV} {e : TypeId} {l : List UInt8} (h : Lies w' hu e (bvals l)) (ρ : Rho) (ι : Imm) : (Chunk.brow e l).R ρ ι hu w' := by
 rcases h with ⟨h1, h2, h3⟩ | ⟨b, arr, fr, h1, h2, h3, h4, h5, h6, h7⟩
 ·exact .inl ⟨h1, by simpa [bvals] using h2, h3⟩
 ·exact .inr ⟨b, arr, fr, h1, h2, h3, h4, h5, by simpa [bvals] using h6, bvals_arr h7⟩
theorem Lies.rowc {w' : World} {hu : HV} {e : TypeId} {sz n : Nat} {f : Nat → List IV} {l : List Value} (hz : sz ≠ 0) (h : Lies w' hu e l) (hl : RowL ι sz n f l) (ρ : Rho) : (Chunk.rowc e sz n f).R ρ ι hu w' := by
 rcases h with ⟨h1, h2, h3⟩ | ⟨b, arr, fr, h1, h2, h3, h4, h5, h6, h7⟩
 ·refine .inl ⟨h1, ?_, h3⟩
  have := hl.len
  rw [h2] at this
  rcases Nat.mul_eq_zero.1 this.symm with h0 | h0
  ·exact h0
  ·exact absurd h0 hz
 ·exact .inr ⟨b, arr, fr, h1, h2, h3, h4, h5, by rw [← hl.len]; exact h6, hl.at h7⟩
theorem row_val {ρ' : Rho} {h sz n : Nat} {hu : HV} {A : Option Addr} {cap : Nat} (hr : ρ' h = some hu) (h1 : n ≤ cap) (h2 : cap ≤ maxLen) (h3 : cap ≠ 0 → ∃ b, hu.blk = some b ∧ A = some ⟨b, 0, none⟩ ∧ cap * sz ≤ hu.room) : (AV.row h sz 0 n).R ρ' ι (.slice A n cap) := by
 simp only [AV.R]
 refine ⟨A, cap, rfl, h1, h2, fun hc => ?_⟩
 obtain ⟨b, g1, g2, g3⟩ := h3 hc
 exact ⟨hu, b, hr, g1, by simpa using g2, by simpa using g3⟩
theorem app_lies {e : TypeId} {size len m cap : Nat} {A : Option Addr} {hv : HV} {olds news : List Value} {A' : Option Addr} {cap' : Nat} {w' : World} (hol : olds.length = len * size) (hnl : news.length = m * size) (_ : hv.blk = none → ∀ k, ¬ hv.foot k)
 (_ : cap' ≠ 0 ∨ len + m = 0)
 (h : (len + m ≤ cap ∧ A' = A ∧ cap' = cap ∧ ((cap = 0 ∧ w' = w) ∨ ∃ (b : Nat) (arr : Array Value) (fr : Nat × Nat), hv.blk = some b ∧ A = some ⟨b, 0, none⟩ ∧ cap * size ≤ hv.room ∧ arr.size = hv.room ∧ FrOk fr arr.size ∧ w.heap[b]? = some (.cells arr e fr) ∧ (∀ k, hv.foot k ↔ k = b) ∧ w' = putObj w b (.cells (layArr arr (len * size) news) e fr) ∧ ∀ (j : Nat) (u : Value), olds[j]? = some u → arr[j]? = some u)) ∨
    (A' = some ⟨w.heap.size, 0, none⟩ ∧ ∃ rest : List Value, w' = w.drew.alloc (.cells (olds ++ news ++ rest).toArray e) ∧ (olds ++ news ++ rest).length = cap' * size)) :
 ∃ hu : HV, Touch hv.foot w w' ∧ (∀ j, hu.foot j → (hv.foot j ∨ w.heap.size ≤ j) ∧ (j < w.heap.size ∨ j < w'.heap.size)) ∧ Lies w' hu e (olds ++ news) ∧ (cap' ≠ 0 → ∃ b, hu.blk = some b ∧ A' = some ⟨b, 0, none⟩ ∧ cap' * size ≤ hu.room) := by
 rcases h with ⟨h1, rfl, rfl, ⟨h2, rfl⟩ | ⟨b, arr, fr, q1, q2, q3, q4, q5, q6, q7, rfl, q8⟩⟩ | ⟨rfl, rest, rfl, hlen⟩
 ·have hl0 : len = 0 := by omega
  have hm0 : m = 0 := by omega
  have e1 : olds = [] := List.eq_nil_of_length_eq_zero (by rw [hol, hl0]; simp)
  have e2 : news = [] := List.eq_nil_of_length_eq_zero (by rw [hnl, hm0]; simp)
  subst e1
  subst e2
  exact ⟨⟨none, 0, fun _ => False⟩, Touch.refl _ _, fun j hj => hj.elim, .inl ⟨rfl, rfl, fun _ h => h⟩, fun h => absurd h2 h⟩
 ·have hb : b < w.heap.size := (Array.getElem?_eq_some_iff.1 q6).1
  have hfit : len * size + news.length ≤ arr.size := by
   rw [hnl, ← Nat.add_mul, q4]
   exact Nat.le_trans (Nat.mul_le_mul_right _ h1) q3
  refine ⟨hv, (putObj_touch w b _).weaken fun k hk => (q7 k).2 hk, fun j hj => ⟨.inl hj, .inl (by rw [(q7 j).1 hj]; exact hb)⟩, .inr ⟨b, _, fr, q1, q7, putObj_same q6, by rw [layArr_size]; exact q4, by rw [layArr_size]; exact q5, by rw [layArr_size, List.length_append, hol]; exact hfit, fun j u hu => ?_⟩, fun _ => ⟨b, q1, q2, q3⟩⟩
  by_cases hj : j < olds.length
  ·rw [List.getElem?_append_left hj] at hu
   rw [layArr_out news _ _ _ (by omega)]
   exact q8 j u hu
  ·rw [List.getElem?_append_right (by omega)] at hu
   have hjl : j - olds.length < news.length := by
    rcases Nat.lt_or_ge (j - olds.length) news.length with h' | h'
    ·exact h'
    ·rw [List.getElem?_eq_none h'] at hu; cases hu
   have := layArr_in news arr (len * size) (j - olds.length) hfit hjl
   rw [hol] at this hu hj
   rw [show len * size + (j - len * size) = j by omega] at this
   rw [this]
   exact hu
 ·have hlast : (w.drew.alloc (.cells (olds ++ news ++ rest).toArray e)).heap[w.heap.size]? = some (.cells (olds ++ news ++ rest).toArray e (0, 0)) := heap_alloc_new w.drew _
  refine ⟨one1 w.heap.size (cap' * size), touch_drawn w _ _, fun j hj => ?_, .inr ⟨w.heap.size, _, (0, 0), rfl, fun _ => Iff.rfl, hlast, by simpa [one1] using hlen, FrOk.zero _, by simp, fun j u hu => ?_⟩, fun _ => ⟨w.heap.size, rfl, rfl, by simp [one1]⟩⟩
  ·have : j = w.heap.size := hj
   subst this
   exact ⟨.inr (Nat.le_refl _), .inr (by simp)⟩
  ·have hj : j < (olds ++ news).length := by
    rcases Nat.lt_or_ge j (olds ++ news).length with h' | h'
    ·exact h'
    ·rw [List.getElem?_eq_none h'] at hu; cases hu
   simp only [List.getElem?_toArray]
   rw [List.getElem?_append_left hj]
   exact hu
theorem appW_ok (hT : TOk P T) (hby : TBytes T) (hS : SR ρ ι H w) (t t2 ty : TypeId) (s x : AV) {vs vx : Value} (hs : s.R ρ ι vs) (hx : x.R ρ ι vx) {cs : List Cnd} {r : AV} {H' : AH} (h : appW T H t t2 s x = some (cs, r, H')) (hc : ands cs True) :
 ∃ v w' ρ', (Builtin.append_ #[t, t2] ty #[vs, vx]).run P w = .ok v w' ∧ SR ρ' ι H' w' ∧ Went ρ ι H w ρ' ι H' w' ∧ r.R ρ' ι v := by
 unfold appW at h
 split at h
 ·rename_i e de d2 he hd2
  cases hb : (isSeq d2 && zeroFits de && !(Nat.beq de.size 0)) with
  | false => rw [hb] at h; cases h
  | true =>
    rw [hb] at h
    simp only [cond_true] at h
    simp only [Bool.and_eq_true, Bool.not_eq_true'] at hb
    obtain ⟨⟨c1, c2⟩, c3⟩ := hb
    have hz0 : de.size ≠ 0 := fun e => by rw [e] at c3; simp at c3
    obtain ⟨u2, i2, hu2, _, rfl⟩ := td hT hd2
    have hn : (∃ e2, u2 = .slice e2) ∨ u2 = .string := by
     unfold isSeq at c1
     cases u2 <;> simp_all [TK.of]
    have hz : (zeroA de).isSome = true := by
     cases hza : zeroA de with
     | none => unfold zeroFits at c2; rw [hza] at c2; cases c2
     | some z => rfl
    have hzl : ∀ z, de.zero = some z → z.cells.size = de.size := fun z hz1 => by
     simp only [zeroFits, zeroA, hz1] at c2
     simpa using c2
    obtain ⟨hu, hde⟩ := elemOfT_spec hT he
    have fromNil : ∀ (sz m : Nat) (news : List Value) (c : Chunk), sz = de.size → vs = .slice none 0 0 → News P w de.size vx m news → m * de.bytes ≤ 140737488355328 → m ≤ 140737488355328 → (∀ hu ρ' w', Lies w' hu e news → c.R ρ' ι hu w') →
     ∃ v w' ρ', (Builtin.append_ #[t, t2] ty #[vs, vx]).run P w = .ok v w' ∧ SR ρ' ι (H.add c) w' ∧ Went ρ ι H w ρ' ι (H.add c) w' ∧ (AV.row H.next sz 0 m).R ρ' ι v := by
     intro sz m news c hsz hvs hnews hby1 hmany hcr
     subst hsz
     subst hvs
     obtain ⟨A', cap', w', g1, g2, g3, g4⟩ := app_any (ty := ty) (A := none) (len := 0) (cap := 0) (hv := ⟨none, 0, fun _ => False⟩) (olds := []) hT he hu2 hn hz hz0 hzl ⟨Nat.le_refl _, Nat.zero_le _, by simp, fun h => absurd rfl h⟩ hnews (by simpa using hby1) (by omega)
     simp only [Nat.zero_add] at g1 g2
     have hcap : cap' ≠ 0 ∨ 0 + m = 0 := by omega
     obtain ⟨hu, k1, k2, k3, k4⟩ := app_lies (by simp) hnews.many (fun _ _ h => h) hcap g4
     simp only [List.nil_append] at k3
     obtain ⟨s1, s2⟩ := hS.add (w' := w') c hu (k1.weaken fun _ h => h) (fun j hj => by
      obtain ⟨a, b⟩ := k2 j hj
      rcases a with a | a
      ·exact a.elim
      ·exact ⟨a, by rcases b with b | b <;> omega⟩) (hcr _ _ _ k3)
     exact ⟨_, w', _, g1, s1, s2, row_val (Rho.upd_same _ _ _) g2 g3 k4⟩
    have fromRow : ∀ (h0 sz len m n : Nat) (olds news : List Value) (c c' : Chunk) (hv : HV), sz = de.size → (AV.row h0 sz 0 len).R ρ ι vs → H.get h0 = some c → ρ h0 = some hv → (hv.blk = none → ∀ k, ¬ hv.foot k) → olds.length = len * de.size → News P w de.size vx m news →
     (∀ b, hv.blk = some b → ∃ (arr : Array Value) (fr : Nat × Nat), w.heap[b]? = some (.cells arr e fr) ∧ arr.size = hv.room ∧ FrOk fr arr.size ∧ (∀ k, hv.foot k ↔ k = b) ∧ ∀ (j : Nat) (u : Value), olds[j]? = some u → arr[j]? = some u) →
     (len + m) * de.bytes ≤ 140737488355328 → len + m ≤ 140737488355328 → n = len + m → (∀ hu ρ' w', Lies w' hu e (olds ++ news) → c'.R ρ' ι hu w') →
     ∃ v w' ρ', (Builtin.append_ #[t, t2] ty #[vs, vx]).run P w = .ok v w' ∧ SR ρ' ι ((H.del h0).add c') w' ∧ Went ρ ι H w ρ' ι ((H.del h0).add c') w' ∧ (AV.row H.next sz 0 n).R ρ' ι v := by
     intro h0 sz len m n olds news c c' hv hsz hrow hg hr hnf hol hnews hblk hby1 hmany hnn hcr
     subst hsz
     subst hnn
     simp only [AV.R] at hrow
     obtain ⟨A, cap, rfl, r2, r3, r4⟩ := hrow
     obtain ⟨A', cap', w', g1, g2, g3, g4⟩ := app_any (ty := ty) (A := A) (len := len) (cap := cap) (hv := hv) (olds := olds) hT he hu2 hn hz hz0 hzl ⟨r2, r3, hol, fun hc0 => by
      obtain ⟨hv', b, k1, k2, k3, k4⟩ := r4 hc0
      rw [hr] at k1
      injection k1 with k1
      subst k1
      obtain ⟨arr, fr, p1, p2, p3, p4, p5⟩ := hblk b k2
      exact ⟨b, arr, fr, k2, by simpa using k3, by simpa using k4, p1, p2, p3, p4, p5⟩⟩ hnews hby1 hmany
     have hcap : cap' ≠ 0 ∨ len + m = 0 := by omega
     obtain ⟨hu, k1, k2, k3, k4⟩ := app_lies hol hnews.many hnf hcap g4
     have hsize := k1.size
     obtain ⟨s1, s2⟩ := hS.move (w' := w') hg hr c' hu k1 (fun j hj => by
      obtain ⟨a, b⟩ := k2 j hj
      exact ⟨a, by rcases b with b | b <;> omega⟩) (hcr _ _ _ k3)
     exact ⟨_, w', _, g1, s1, s2, row_val (Rho.upd_same _ _ _) g2 g3 k4⟩
    cases hbt : isByte de with
    | true =>
      rw [hbt] at h
      simp only [cond_true] at h
      obtain ⟨b1, b2, b3⟩ := hby e de hde hbt
      split at h
      ·rename_i c l hsrc
       simp only [Option.some.injEq, Prod.mk.injEq] at h
       obtain ⟨rfl, rfl, rfl⟩ := h
       obtain ⟨k1, k2⟩ := ands_append _ _ hc
       have hnews := srcB_ok (P := P) hS hx hsrc k1
       simp only [AV.R, IV.R] at hs
       exact fromNil 1 l.length (bvals l) (.brow e l) b1.symm hs (by rw [b1]; exact hnews) (by rw [b2]; have := k2.1; omega) k2.1 (fun hu ρ' w' hl => hl.brow ρ' ι)
      ·rename_i c l h0 len hsrc
       split at h
       ·rename_i e' l0 hg
        cases hee : Nat.beq e e' with
        | false => rw [hee] at h; cases h
        | true =>
          have := Nat.eq_of_beq_eq_true hee
          subst this
          rw [hee] at h
          simp only [cond_true, Option.some.injEq, Prod.mk.injEq] at h
          obtain ⟨rfl, rfl, rfl⟩ := h
          obtain ⟨k1, k2, k3, _⟩ := ands_append _ _ hc
          have hnews := srcB_ok (P := P) hS hx hsrc k1
          obtain ⟨hv, hr, hcr⟩ := hS.hv hg
          have hlen : (bvals (l0.take len)).length = len := by simp [bvals]; omega
          refine fromRow h0 1 len l.length (len + l.length) (bvals (l0.take len)) (bvals l) (.brow e l0) (.brow e (l0.take len ++ l)) hv b1.symm hs hg hr ?_ (by rw [b1]; simpa using hlen) (by rw [b1]; exact hnews) ?_ (by rw [b2]; omega) k3 rfl (fun hu ρ' w' hl => ?_)
          ·intro hb
           rcases hcr with ⟨_, _, h3⟩ | ⟨b, _, _, h3, _⟩
           ·exact h3
           ·rw [hb] at h3; cases h3
          ·intro b hb
           rcases hcr with ⟨h3, _⟩ | ⟨b', arr, fr, q1, q2, q3, q4, q5, q6, q7⟩
           ·rw [hb] at h3; cases h3
           ·rw [hb] at q1
            injection q1 with q1
            subst q1
            refine ⟨arr, fr, q3, q4, q5, q2, bvals_get fun i hi => ?_⟩
            rw [List.length_take] at hi
            rw [q7 i (by omega)]
            simp [List.getD, show i < len by omega]
          ·rw [show bvals (l0.take len) ++ bvals l = bvals (l0.take len ++ l) by simp [bvals]] at hl
           exact hl.brow ρ' ι
       ·cases h
      ·cases h
    | false =>
      rw [hbt] at h
      simp only [cond_false] at h
      split at h
      ·rename_i c m g hsrc
       simp only [Option.some.injEq, Prod.mk.injEq] at h
       obtain ⟨rfl, rfl, rfl⟩ := h
       obtain ⟨k1, k2, k3, _⟩ := ands_append _ _ hc
       obtain ⟨news, hnews, hl⟩ := srcR_ok (P := P) hS hz0 hx hsrc k1
       simp only [AV.R, IV.R] at hs
       exact fromNil de.size m news (.rowc e de.size m g) rfl hs hnews k2 k3 (fun hu ρ' w' hli => hli.rowc hz0 hl ρ')
      ·rename_i c m g h0 sz len hsrc
       split at h
       ·rename_i e' sz' n f hg
        cases hee : (Nat.beq e e' && Nat.beq sz de.size && Nat.beq sz' de.size) with
        | false => rw [hee] at h; cases h
        | true =>
          rw [hee] at h
          simp only [cond_true, Option.some.injEq, Prod.mk.injEq] at h
          obtain ⟨rfl, rfl, rfl⟩ := h
          simp only [Bool.and_eq_true] at hee
          have e1 := Nat.eq_of_beq_eq_true hee.1.1
          have e2 := Nat.eq_of_beq_eq_true hee.1.2
          have e3 := Nat.eq_of_beq_eq_true hee.2
          subst e1
          subst e2
          subst e3
          obtain ⟨k1, k2, k3, k4, _⟩ := ands_append _ _ hc
          obtain ⟨news, hnews, hl⟩ := srcR_ok (P := P) hS hz0 hx hsrc k1
          obtain ⟨hv, hr, hcr⟩ := hS.hv hg
          have old : ∃ olds, RowL ι de.size len f olds ∧ ∀ b, hv.blk = some b → ∃ (arr : Array Value) (fr : Nat × Nat), w.heap[b]? = some (.cells arr e fr) ∧ arr.size = hv.room ∧ FrOk fr arr.size ∧ (∀ k, hv.foot k ↔ k = b) ∧ ∀ (j : Nat) (u : Value), olds[j]? = some u → arr[j]? = some u := by
           rcases hcr with ⟨h3, h4, h5⟩ | ⟨b', arr, fr, q1, q2, q3, q4, q5, q6, q7⟩
           ·have : len = 0 := by omega
            subst this
            exact ⟨[], RowL.nil _ _, fun b hb => by rw [hb] at h3; cases h3⟩
           ·refine ⟨_, q7.list k2 q6 hz0, fun b hb => ?_⟩
            rw [hb] at q1
            injection q1 with q1
            subst q1
            refine ⟨arr, fr, q3, q4, q5, q2, fun j u hu => ?_⟩
            rw [List.getElem?_take] at hu
            split at hu
            ·simpa using hu
            ·cases hu
          obtain ⟨olds, ho1, ho2⟩ := old
          refine fromRow h0 de.size len m (len + m) olds news _ _ hv rfl hs hg hr ?_ ho1.len hnews ho2 k3 k4 rfl (fun hu ρ' w' hli => hli.rowc hz0 (ho1.join hl) ρ')
          intro hb
          rcases hcr with ⟨_, _, h3⟩ | ⟨b, _, _, h3, _⟩
          ·exact h3
          ·rw [hb] at h3; cases h3
       ·cases h
      ·cases h
 ·cases h
end
end Go.Proofs.YtgfkepebfaiepaaGreatDoor.Ax
