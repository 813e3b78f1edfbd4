/-
  Operations that only read: the model does just that (6): structs, interfaces, functions; all of them.
-/
import Derived.Test.YtgfkepebfaiepaaGreatDoorBxH
import Derived.Laws.Tables
namespace Go.Proofs.YtgfkepebfaiepaaGreatDoor.Ax
open Go.RowKit
section
variable {ρ : Rho} {ι : Imm} {P : Program} {w : World} {T : TT} {H : AH}
theorem ifcA_ok (hT : TOk P T) (t : Nat) (x : AV) {v : Value} (hx : x.R ρ ι v) : (ifcA T t x).ok ρ ι P (Instr.makeInterface t v) w := by
 unfold ifcA
 split
 ·rename_i d hd
  obtain ⟨u, i, h1, _, rfl⟩ := td hT hd
  have run : (∀ ms, u ≠ .interface ms) → (Instr.makeInterface t v).run P w = .ok (.iface t v) w := fun hn => by
   cases u <;> first | exact absurd rfl (hn _) | simp [Instr.makeInterface, run_underlying h1]
  split
  ·exact trivial
  ·rename_i y hk
   refine fun _ => ⟨_, run fun ms e => by subst e; exact hk rfl, ?_⟩
   simp only [AV.R, IV.R] at hx ⊢
   exact ⟨v, rfl, hx⟩
  ·rename_i hk hy
   refine fun _ => ⟨_, run fun ms e => by subst e; first | exact hk rfl | exact hy rfl, ?_⟩
   simp only [AV.R]
   exact ⟨v, rfl, hx⟩
 ·exact trivial
theorem assertA_ok (hT : TOk P T) (t xt : Nat) (ok : Bool) (x : AV) {v : Value} (hx : x.R ρ ι v) : (assertA T t ok x).ok ρ ι P (Instr.typeAssert v xt t ok) w := by
 unfold assertA
 split
 ·rename_i d hd
  obtain ⟨u, i, h1, h2, rfl⟩ := td hT hd
  split
  ·exact trivial
  ·rename_i hk
   have hn : ∀ ms, u ≠ .interface ms := fun ms e => by subst e; exact hk rfl
   have hz : ∀ z, i.zero = some z → (zeroValue t).run P w = .ok z w := fun z hz => run_zero' hT hd hz w
   have yes : ∀ y, (Instr.typeAssert (.iface t y) xt t ok).run P w = .ok (if ok then .tuple #[y, .bool true] else y) w := fun y => by
    cases u <;> first | exact absurd rfl (hn _) | (simp [Instr.typeAssert, run_underlying h1])
   have no : ∀ (s : Nat) y z, s ≠ t → i.zero = some z → (Instr.typeAssert (.iface s y) xt t true).run P w = .ok (.tuple #[z, .bool false]) w := fun s y z hs hz' => by
    have := hz z hz'
    cases u <;> first | exact absurd rfl (hn _) | (simp [Instr.typeAssert, run_underlying h1, hs, this])
   have nil : ∀ z, i.zero = some z → (Instr.typeAssert .nilIface xt t true).run P w = .ok (.tuple #[z, .bool false]) w := fun z hz' => by
    have := hz z hz'
    cases u <;> first | exact absurd rfl (hn _) | (simp [Instr.typeAssert, run_underlying h1, this])
   have tupR : ∀ z : Value, (AV.tup [.iv (.v z), .bool false]).R ρ ι (.tuple #[z, .bool false]) := fun z => by simp [AV.R, AV.Rs, IV.R]
   split
   ·rename_i s y
    simp only [AV.R] at hx
    obtain ⟨u', rfl, hy⟩ := hx
    cases hb : Nat.beq s t with
    | true =>
      have := Nat.eq_of_beq_eq_true hb
      subst this
      cases ok with
      | true => exact fun _ => ⟨_, yes u', by simp [AV.R, AV.Rs, IV.R, hy]⟩
      | false => exact fun _ => ⟨_, yes u', by simpa using hy⟩
    | false =>
      have hs : s ≠ t := fun e => by rw [e] at hb; simp at hb
      cases ok with
      | false => exact trivial
      | true =>
        simp only [cond_false, cond_true]
        split
        ·rename_i z hz'
         exact fun _ => ⟨_, no s u' z hs hz', tupR z⟩
        ·exact trivial
   ·rename_i s y
    simp only [AV.R, IV.R] at hx
    obtain ⟨u', rfl, hy⟩ := hx
    cases hb : Nat.beq s t with
    | true =>
      have := Nat.eq_of_beq_eq_true hb
      subst this
      cases ok with
      | true => exact fun _ => ⟨_, yes u', by simp [AV.R, AV.Rs, IV.R, hy]⟩
      | false => exact fun _ => ⟨_, yes u', by simpa [AV.R] using hy⟩
    | false =>
      have hs : s ≠ t := fun e => by rw [e] at hb; simp at hb
      cases ok with
      | false => exact trivial
      | true =>
        simp only [cond_false, cond_true]
        split
        ·rename_i z hz'
         exact fun _ => ⟨_, no s u' z hs hz', tupR z⟩
        ·exact trivial
   ·simp only [AV.R, IV.R] at hx
    subst hx
    cases ok with
    | false => exact trivial
    | true =>
      simp only [cond_true]
      split
      ·rename_i z hz'
       exact fun _ => ⟨_, nil z hz', tupR z⟩
      ·exact trivial
   ·exact trivial
 ·exact trivial
def layV (vs : List Value) (off : Nat) : List Value → List Value
 | [] => vs
 | x :: xs => layV (vs.set off x) (off + 1) xs
theorem fold_layV : ∀ (xs : List Value) (k off : Nat) (vs : List Value), (xs.zipIdx k).foldl (fun cs (p : Value × Nat) => cs.setIfInBounds (off + p.2) p.1) vs.toArray = (layV vs (off + k) xs).toArray
 | [], k, off, vs => rfl
 | x :: xs, k, off, vs => by
   simp only [List.zipIdx_cons, List.foldl_cons, layV]
   have e : vs.toArray.setIfInBounds (off + k) x = (vs.set (off + k) x).toArray := by simp
   rw [e, fold_layV xs (k + 1) off]
   rfl
theorem layA_ok : ∀ (xs : List AV) (us : List Value) (off : Nat) (cs : List AV) (vs : List Value), AV.Rs ρ ι xs us → AV.Rs ρ ι cs vs → AV.Rs ρ ι (layA cs off xs) (layV vs off us)
 | [], us, off, cs, vs, h, h' => by simp only [AV.Rs] at h; subst h; exact h'
 | x :: xs, us, off, cs, vs, h, h' => by
   simp only [AV.Rs] at h
   obtain ⟨u, us, rfl, r, rs⟩ := h
   simp only [layA, layV]
   refine layA_ok xs us (off + 1) _ _ rs ?_
   clear rs
   induction cs generalizing vs off with
   | nil => simp only [AV.Rs] at h'; subst h'; simp [AV.Rs]
   | cons c cs ih =>
     simp only [AV.Rs] at h'
     obtain ⟨v, vs, rfl, r1, rs1⟩ := h'
     cases off with
     | zero => simp only [List.set_cons_zero, AV.Rs]; exact ⟨_, _, rfl, r, rs1⟩
     | succ off => simp only [List.set_cons_succ, AV.Rs]; exact ⟨_, _, rfl, r1, ih off vs rs1⟩
def PartsR (ρ : Rho) (ι : Imm) : List (Nat × AV) → List (Nat × Value) → Prop
 | [], q => q = []
 | p :: ps, q => ∃ u us, q = (p.1, u) :: us ∧ p.2.R ρ ι u ∧ PartsR ρ ι ps us
theorem fillA_ok (place : Nat → Option (Nat × Nat)) : ∀ (ps : List (Nat × AV)) (qs : List (Nat × Value)) (cs cs' : List AV) (vs : List Value), PartsR ρ ι ps qs → AV.Rs ρ ι cs vs → fillA place cs ps = some cs' →
 ∃ vs', Instr.fill place vs.toArray qs = some vs'.toArray ∧ AV.Rs ρ ι cs' vs'
 | [], qs, cs, cs', vs, hp, hr, hf => by
   simp only [PartsR] at hp
   subst hp
   simp only [fillA, Option.some.injEq] at hf
   subst hf
   exact ⟨vs, rfl, hr⟩
 | p :: ps, qs, cs, cs', vs, hp, hr, hf => by
   obtain ⟨u, us, rfl, r, rs⟩ := hp
   unfold fillA at hf
   split at hf
   ·rename_i off size xs hpl hxs
    obtain ⟨ys, e, hy⟩ := cells_spec r hxs
    cases hb : (Nat.beq xs.length size && Nat.ble (off + xs.length) cs.length) with
    | false => rw [hb] at hf; cases hf
    | true =>
      rw [hb] at hf
      rw [Bool.and_eq_true] at hb
      have h1 := Nat.eq_of_beq_eq_true hb.1
      have h2 := Nat.le_of_ble_eq_true hb.2
      have l1 := Rs_lenA _ _ hy
      have l2 := Rs_lenA _ _ hr
      simp only [cond_true] at hf
      obtain ⟨vs', g1, g2⟩ := fillA_ok place ps us _ _ (layV vs off ys) rs (layA_ok xs ys off cs vs hy hr) hf
      refine ⟨vs', ?_, g2⟩
      unfold Instr.fill
      simp only [hpl]
      have hc : ¬ ((u.cells.size ≠ size || off + u.cells.size > vs.toArray.size) = true) := by
       rw [e]
       simp
       omega
      rw [if_neg hc, e]
      have := fold_layV ys 0 off vs
      rw [Nat.add_zero] at this
      rw [← g1, ← this]
      congr 1
      simp
   ·cases hf
theorem placesA_spec (hT : TOk P T) : ∀ (l : List Field) (pl : List (Nat × Nat)), placesA T (l.map fun f => (f.offset, f.type)) = some pl → l.mapM (fun f => (P.info? f.type).map fun i => (f.offset, i.size)) = some pl
 | [], pl, h => by simp only [List.map_nil, placesA, Option.some.injEq] at h; subst h; rfl
 | f :: l, pl, h => by
   simp only [List.map_cons, placesA] at h
   split at h
   ·rename_i d r hd hr
    simp only [Option.some.injEq] at h
    subst h
    obtain ⟨i, h1, h2, _⟩ := td_info hT hd
    simp [List.mapM_cons, h1, placesA_spec hT l r hr, h2]
   ·cases h
theorem buildA_ok (hT : TOk P T) (t : Nat) (ps : List (Nat × AV)) (qs : Array (Nat × Value)) (hp : PartsR ρ ι ps qs.toList) : (buildA T t ps).ok ρ ι P (Instr.build t qs) w := by
 unfold buildA
 split
 ·rename_i d hd
  split
  ·rename_i fs z hk hz
   split
   ·rename_i pl hpl
    split
    ·rename_i cs hcs
     obtain ⟨u, i, h1, h2, rfl⟩ := td hT hd
     obtain ⟨arr, rfl, rfl⟩ := TK.of_st hk
     unfold zeroA at hz
     split at hz
     ·rename_i zv hzv
      injection hz with hz
      subst hz
      have hzr : AV.Rs ρ ι (zv.cells.toList.map fun x => AV.iv (.v x)) zv.cells.toList := by
       generalize zv.cells.toList = l
       induction l with
       | nil => simp [AV.Rs]
       | cons y ys ih => simp only [List.map_cons, AV.Rs, AV.R, IV.R]; exact ⟨_, _, rfl, rfl, ih⟩
      obtain ⟨vs, g1, g2⟩ := fillA_ok _ _ _ _ _ _ hp hzr hcs
      refine fun _ => ⟨_, run_build w t qs vs.toArray ?_, by simp only [AV.R]; exact ⟨vs, rfl, g2⟩⟩
      unfold Program.built
      simp only [h2, h1]
      have hzv' : i.zero = some zv := hzv
      simp only [hzv', placesA_spec hT _ _ hpl]
      simpa using g1
     ·cases hz
    ·exact trivial
   ·exact trivial
  ·rename_i n e z hk hz
   split
   ·rename_i de hde
    split
    ·rename_i cs hcs
     obtain ⟨e', hu, he'⟩ := arrOfT_spec hT (show arrOfT T t = some (n, de) by simp only [arrOfT, hd, hk, hde, Option.map_some])
     obtain ⟨i, h2, hsz, hzr0⟩ := td_info hT hd
     obtain ⟨ie, hie, hsz2, _⟩ := td_info hT he'
     unfold zeroA at hz
     split at hz
     ·rename_i zv hzv
      injection hz with hz
      subst hz
      have hzr : AV.Rs ρ ι (zv.cells.toList.map fun x => AV.iv (.v x)) zv.cells.toList := by
       generalize zv.cells.toList = l
       induction l with
       | nil => simp [AV.Rs]
       | cons y ys ih => simp only [List.map_cons, AV.Rs, AV.R, IV.R]; exact ⟨_, _, rfl, rfl, ih⟩
      obtain ⟨vs, g1, g2⟩ := fillA_ok _ _ _ _ _ _ hp hzr hcs
      refine fun _ => ⟨_, run_build w t qs vs.toArray ?_, by simp only [AV.R]; exact ⟨vs, rfl, g2⟩⟩
      unfold Program.built
      have hzv' : i.zero = some zv := by
       obtain ⟨u, i', _, q2, rfl⟩ := td hT hd
       rw [h2] at q2
       injection q2 with q2
       rw [q2]
       exact hzv
      simp only [h2, hu, hzv', hie, hsz2]
      simpa using g1
     ·cases hz
    ·exact trivial
   ·exact trivial
  ·exact trivial
 ·exact trivial
end
end Go.Proofs.YtgfkepebfaiepaaGreatDoor.Ax
