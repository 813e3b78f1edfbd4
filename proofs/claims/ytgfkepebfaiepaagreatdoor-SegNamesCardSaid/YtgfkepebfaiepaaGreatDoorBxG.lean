/-
  Operations that only read: the model does just that (4): loads, structs, maps, lengths.
-/
import Derived.Test.YtgfkepebfaiepaaGreatDoorBxF
namespace Go.Proofs.YtgfkepebfaiepaaGreatDoor.Ax
open Go.RowKit
section
variable {ρ : Rho} {ι : Imm} {P : Program} {w : World} {T : TT} {H : AH}
theorem Rs_mapA (g : Operand → AV) (ev : Operand → Value) (hg : ∀ x, (g x).R ρ ι (ev x)) : ∀ l : List Operand, AV.Rs ρ ι (l.map g) (l.map ev) := by
 intro l
 induction l with
 | nil => simp [AV.Rs]
 | cons x xs ih => simp only [List.map_cons, AV.Rs]; exact ⟨_, _, rfl, hg x, ih⟩
theorem ptrCells_spec (hS : SR ρ ι H w) {x : AV} {v : Value} {c : List Cnd} {cs : List AV} (hx : x.R ρ ι v) (h : ptrCells H x = some (c, cs)) (hc : ands c True) :
 ∃ ad vs, v = .pointer (some ad) ∧ ad.spot = none ∧ AV.Rs ρ ι cs vs ∧ ∀ j u, vs[j]? = some u → w.cell? ⟨ad.block, ad.off + j, none⟩ = some u := by
 unfold ptrCells at h
 split at h
 ·rename_i h' off
  split at h
  ·rename_i e cs0 hg
   simp only [Option.some.injEq, Prod.mk.injEq] at h
   obtain ⟨rfl, rfl⟩ := h
   simp only [AV.R] at hx
   obtain ⟨hv, b, h1, h2, rfl⟩ := hx
   obtain ⟨hv', h3, b', vs, h4, h5, h6, h7⟩ := hS.hv hg
   rw [h1] at h3
   injection h3 with h3
   subst h3
   rw [h2] at h4
   injection h4 with h4
   subst h4
   refine ⟨_, vs.drop off, rfl, rfl, Rs_dropA _ _ _ h7, fun j u hu => ?_⟩
   rw [heap_cell h6]
   rw [List.getElem?_drop] at hu
   simpa using hu
  ·rename_i cs0 hg
   simp only [Option.some.injEq, Prod.mk.injEq] at h
   obtain ⟨rfl, rfl⟩ := h
   simp only [AV.R] at hx
   obtain ⟨hv, b, h1, h2, rfl⟩ := hx
   obtain ⟨hv', h3, _, b', vs, h4, h6, h7⟩ := hS.hv hg
   rw [h1] at h3
   injection h3 with h3
   subst h3
   rw [h2] at h4
   injection h4 with h4
   subst h4
   refine ⟨_, vs.drop off, rfl, rfl, by rw [List.map_drop]; exact Rs_dropA _ _ _ ((Rs_iv _ _).2 h6), fun j u hu => ?_⟩
   rw [List.getElem?_drop] at hu
   exact hS.imm _ _ _ (h7 _ u hu)
  ·cases h
 ·rename_i h' sz i fo
  split at h
  ·rename_i e sz' n f hg
   cases hb : Nat.beq sz sz' with
   | false => rw [hb] at h; cases h
   | true =>
     have hsz := Nat.eq_of_beq_eq_true hb
     subst hsz
     rw [hb] at h
     simp only [cond_true, Option.some.injEq, Prod.mk.injEq] at h
     obtain ⟨rfl, rfl⟩ := h
     simp only [AV.R] at hx
     obtain ⟨hv, b, h1, h2, rfl⟩ := hx
     obtain ⟨hv', h3, h4⟩ := hS.hv hg
     rw [h1] at h3
     injection h3 with h3
     subst h3
     rcases h4 with ⟨h4, _⟩ | ⟨b', arr, fr, q1, q2, q3, q4, q5, q6, q7⟩
     ·rw [h2] at h4; cases h4
     ·rw [h2] at q1
      injection q1 with q1
      subst q1
      obtain ⟨vs, r1, r2, _, r3⟩ := q7 i hc.1
      refine ⟨_, vs.drop fo, rfl, rfl, Rs_dropA _ _ _ ((Rs_iv _ _).2 r1), fun j u hu => ?_⟩
      rw [heap_cell q3]
      rw [List.getElem?_drop] at hu
      have := r3 (fo + j) u hu
      rwa [← Nat.add_assoc] at this
  ·rename_i e l hg
   cases hb : (Nat.beq sz 1 && Nat.beq fo 0) with
   | false => rw [hb] at h; cases h
   | true =>
     rw [hb] at h
     rw [Bool.and_eq_true] at hb
     have hsz := Nat.eq_of_beq_eq_true hb.1
     have hfo := Nat.eq_of_beq_eq_true hb.2
     subst hsz hfo
     simp only [cond_true, Option.some.injEq, Prod.mk.injEq] at h
     obtain ⟨rfl, rfl⟩ := h
     simp only [AV.R] at hx
     obtain ⟨hv, b, h1, h2, rfl⟩ := hx
     obtain ⟨hv', h3, h4⟩ := hS.hv hg
     rw [h1] at h3
     injection h3 with h3
     subst h3
     rcases h4 with ⟨h4, _⟩ | ⟨b', arr, fr, q1, q2, q3, q4, q5, q6, q7⟩
     ·rw [h2] at h4; cases h4
     ·rw [h2] at q1
      injection q1 with q1
      subst q1
      refine ⟨_, [.int .u8 ((l.getD i 0).toNat : Int)], rfl, rfl, ?_, fun j u hu => ?_⟩
      ·simp only [AV.Rs, AV.R, byteI, IV.R]
       exact ⟨_, [], rfl, rfl, rfl⟩
      ·cases j with
       | zero =>
         simp at hu
         subst hu
         rw [heap_cell q3]
         simpa using q7 i hc.1
       | succ j => simp at hu
  ·rename_i e cs0 hg
   simp only [Option.some.injEq, Prod.mk.injEq] at h
   obtain ⟨rfl, rfl⟩ := h
   simp only [AV.R] at hx
   obtain ⟨hv, b, h1, h2, rfl⟩ := hx
   obtain ⟨hv', h3, b', vs, h4, h5, h6, h7⟩ := hS.hv hg
   rw [h1] at h3
   injection h3 with h3
   subst h3
   rw [h2] at h4
   injection h4 with h4
   subst h4
   refine ⟨_, vs.drop (i * sz + fo), rfl, rfl, Rs_dropA _ _ _ h7, fun j u hu => ?_⟩
   rw [heap_cell h6]
   rw [List.getElem?_drop] at hu
   simpa using hu
  ·cases h
 ·rename_i cs0
  simp only [Option.some.injEq, Prod.mk.injEq] at h
  obtain ⟨rfl, rfl⟩ := h
  simp only [AV.R, IV.R] at hx
  obtain ⟨ad, vs, rfl, h1, h2, h3⟩ := hx
  exact ⟨ad, vs, rfl, h1, (Rs_iv _ _).2 h2, fun j u hu => hS.imm _ _ _ (h3 j u hu)⟩
 ·rename_i cs0
  simp only [Option.some.injEq, Prod.mk.injEq] at h
  obtain ⟨rfl, rfl⟩ := h
  simp only [AV.R] at hx
  obtain ⟨ad, vs, rfl, h1, h2, h3⟩ := hx
  exact ⟨ad, vs, rfl, h1, h2, fun j u hu => hS.imm _ _ _ (h3 j u hu)⟩
 ·cases h
theorem run_loadVar (hT : TOk P T) {t : Nat} {d : TD} (hd : T.get t = some d) {ad : Addr} (hs : ad.spot = none) {cs : List AV} {vs : List Value} (hr : AV.Rs ρ ι cs vs) (hc : ∀ j u, vs[j]? = some u → w.cell? ⟨ad.block, ad.off + j, none⟩ = some u) {x : AV} (hx : partA T t cs 0 = some x) :
 ∃ u, (loadVar t ad).run P w = .ok u w ∧ x.R ρ ι u := by
 have ha := run_isAgg' hT hd w
 have hz := run_sizeOf' hT hd w
 unfold partA at hx
 simp only [hd] at hx
 cases hag : d.isAgg with
 | true =>
   rw [hag] at hx ha
   simp only [cond_true] at hx
   cases hb : Nat.ble (0 + d.size) cs.length with
   | false => rw [hb] at hx; cases hx
   | true =>
     rw [hb] at hx
     simp only [cond_true, Option.some.injEq, List.drop_zero] at hx
     subst hx
     have hle := Nat.le_of_ble_eq_true hb
     have hlen := Rs_lenA _ _ hr
     have hl : (vs.take d.size).length = d.size := by rw [List.length_take]; omega
     have h3 := run_loadCells_list (P := P) (w := w) ad (vs.take d.size) (fun j v hj => by
      rw [add_none' hs]
      refine hc j v ?_
      rw [List.getElem?_take] at hj
      split at hj
      ·exact hj
      ·cases hj)
     rw [hl] at h3
     refine ⟨.agg (vs.take d.size).toArray, by simp [loadVar, ha, hz, h3], ?_⟩
     simp only [AV.R]
     exact ⟨_, rfl, Rs_takeA _ _ _ hr⟩
 | false =>
   rw [hag] at hx ha
   simp only [cond_false, List.drop_zero] at hx
   cases cs with
   | nil => cases hx
   | cons c cs =>
     simp only [pick1, Option.some.injEq] at hx
     subst hx
     simp only [AV.Rs] at hr
     obtain ⟨u, us, rfl, r, _⟩ := hr
     have h3 := hc 0 u (by simp)
     rw [Nat.add_zero, ← addr_none hs] at h3
     exact ⟨u, by simp [loadVar, ha, h3], r⟩
theorem loadA_ok (hT : TOk P T) (hS : SR ρ ι H w) (t : Nat) (x : AV) {v : Value} (hx : x.R ρ ι v) : (loadA T H t x).ok ρ ι P (Instr.loadAt t v) w := by
 unfold loadA
 split
 ·rename_i c cs hp
  split
  ·rename_i y hy
   intro hc
   obtain ⟨ad, vs, rfl, hs, hr, hcell⟩ := ptrCells_spec hS hx hp hc
   have hd : ∃ d, T.get t = some d := by
    unfold partA at hy
    split at hy
    ·exact ⟨_, by assumption⟩
    ·cases hy
   obtain ⟨d, hd⟩ := hd
   obtain ⟨u, h1, h2⟩ := run_loadVar hT hd hs hr hcell hy
   exact ⟨u, by simp [Instr.loadAt, Instr.sureAddr, h1], h2⟩
  ·exact trivial
 ·exact trivial
theorem cells_spec {x : AV} {v : Value} {cs : List AV} (hx : x.R ρ ι v) (h : x.cells = some cs) : ∃ vs, v.cells = vs.toArray ∧ AV.Rs ρ ι cs vs := by
 unfold AV.cells at h
 split at h
 ·simp only [Option.some.injEq] at h
  subst h
  simp only [AV.R] at hx
  obtain ⟨vs, rfl, hr⟩ := hx
  exact ⟨vs, rfl, hr⟩
 ·simp only [Option.some.injEq] at h
  subst h
  simp only [AV.R, IV.R] at hx
  obtain ⟨vs, rfl, hr⟩ := hx
  exact ⟨vs, rfl, (Rs_iv _ _).2 hr⟩
 ·rename_i vs
  simp only [Option.some.injEq] at h
  subst h
  simp only [AV.R, IV.R] at hx
  subst hx
  refine ⟨vs.toList, by simp [Value.cells], ?_⟩
  generalize vs.toList = l
  induction l with
  | nil => simp [AV.Rs]
  | cons y ys ih => simp only [List.map_cons, AV.Rs, AV.R, IV.R]; exact ⟨_, _, rfl, rfl, ih⟩
 ·cases h
 ·cases h
 ·cases h
 ·rename_i h1 h2 h3 h4 h5 h6
  simp only [Option.some.injEq] at h
  subst h
  refine ⟨[v], ?_, by simp only [AV.Rs]; exact ⟨v, [], rfl, hx, rfl⟩⟩
  have : ∀ cs, v ≠ .agg cs := by
   intro cs e
   subst e
   cases x with
   | iv y =>
     cases y with
     | v z => simp only [AV.R, IV.R] at hx; subst hx; exact h3 cs rfl
     | agg l => exact h2 l rfl
     | _ => simp [AV.R, IV.R] at hx
   | agg l => exact h1 l rfl
   | tup l => exact h4 l rfl
   | junk => exact h5 rfl
   | _ => simp [AV.R] at hx
  cases v <;> first | rfl | exact absurd rfl (this _)
end
end Go.Proofs.YtgfkepebfaiepaaGreatDoor.Ax
