/-
  Walk of package crc: Right.
-/
import Derived.Test.YthdmapjdfghgfaaDoorCrcE
import Derived.Deep.RegionHeld3
namespace Go.Proofs.YthdmapjdfghgfaaDoor
open Go.RowKit
attribute [local go_sem] U_xor U_and U_and_1 U_and_15 U_and_M U_not U_not' U_xor_shr U_shr_1 U_shr_4 U_shr_31 U_shl_1 U_neg U_byte U_toNat U_nonneg

theorem part_u8 (cs : Array Value) (i : Nat) (v : Value) (h : cs[i]? = some v) (w : World) : (part 5 cs i).run Tryd.prog w = .ok v w := by
  have ha : ∀ w, (isAgg 5).run Tryd.prog w = .ok false w := fun _ => by kernel_rfl
  simp [part, ha, h]
theorem run_equalIn_arr4 (a0 a1 a2 a3 b0 b1 b2 b3 : Int) (w : World) :
    (Op.equalIn 10000 53 (.agg #[.int .u8 a0, .int .u8 a1, .int .u8 a2, .int .u8 a3]) (.agg #[.int .u8 b0, .int .u8 b1, .int .u8 b2, .int .u8 b3])).run Tryd.prog w = .ok (a0 == b0 && (a1 == b1 && (a2 == b2 && a3 == b3))) w := by
  have hu : Tryd.prog.underlying 53 = some (.array 4 5) := by kernel_rfl
  have hs : ∀ w, (sizeOf 5).run Tryd.prog w = .ok 1 w := fun _ => by kernel_rfl
  have he : ∀ d, ∀ (a b : Int) w, (Op.equalIn (d + 1) 5 (.int .u8 a) (.int .u8 b)).run Tryd.prog w = .ok (a == b) w := fun d a b w => run_equalIn_int w d 5 .u8 .u8 a b Tryd.underlying5
  have key : ∀ d, (Op.equalIn (d + 2) 53 (.agg #[.int .u8 a0, .int .u8 a1, .int .u8 a2, .int .u8 a3]) (.agg #[.int .u8 b0, .int .u8 b1, .int .u8 b2, .int .u8 b3])).run Tryd.prog w = .ok (a0 == b0 && (a1 == b1 && (a2 == b2 && a3 == b3))) w := by
    intro d
    rw [Op.equalIn]
    simp only [Sem.run_bind, run_underlying hu, Result.andThen_ok, hs]
    simp only [Std.Legacy.Range.forIn_eq_forIn_range', Std.Legacy.Range.size]
    have p0 : ∀ (cs : Array Value) (i : Nat) (v : Value), cs[i]? = some v → ∀ w, (part 5 cs i).run Tryd.prog w = .ok v w := part_u8
    have q0 := p0 #[.int .u8 a0, .int .u8 a1, .int .u8 a2, .int .u8 a3] 0 (.int .u8 a0) rfl
    have q1 := p0 #[.int .u8 a0, .int .u8 a1, .int .u8 a2, .int .u8 a3] 1 (.int .u8 a1) rfl
    have q2 := p0 #[.int .u8 a0, .int .u8 a1, .int .u8 a2, .int .u8 a3] 2 (.int .u8 a2) rfl
    have q3 := p0 #[.int .u8 a0, .int .u8 a1, .int .u8 a2, .int .u8 a3] 3 (.int .u8 a3) rfl
    have r0 := p0 #[.int .u8 b0, .int .u8 b1, .int .u8 b2, .int .u8 b3] 0 (.int .u8 b0) rfl
    have r1 := p0 #[.int .u8 b0, .int .u8 b1, .int .u8 b2, .int .u8 b3] 1 (.int .u8 b1) rfl
    have r2 := p0 #[.int .u8 b0, .int .u8 b1, .int .u8 b2, .int .u8 b3] 2 (.int .u8 b2) rfl
    have r3 := p0 #[.int .u8 b0, .int .u8 b1, .int .u8 b2, .int .u8 b3] 3 (.int .u8 b3) rfl
    clear p0
    have e4 : List.range' 0 ((4 - 0 + 1 - 1) / 1) = [0, 1, 2, 3] := rfl
    rw [e4]
    generalize (#[.int .u8 a0, .int .u8 a1, .int .u8 a2, .int .u8 a3] : Array Value) = X at *
    generalize (#[.int .u8 b0, .int .u8 b1, .int .u8 b2, .int .u8 b3] : Array Value) = Y at *
    cases h0 : (a0 == b0) <;> cases h1 : (a1 == b1) <;> cases h2 : (a2 == b2) <;> cases h3 : (a3 == b3) <;>
      simp only [List.forIn_cons, List.forIn_nil, Sem.run_bind, Sem.run_pure, Result.andThen_ok, q0, q1, q2, q3, r0, r1, r2, r3, he, h0, h1, h2, h3, Nat.mul_one, Bool.not_true, Bool.not_false, if_true, if_false, Bool.false_eq_true, Bool.and_true, Bool.and_false]
  exact key 9998

theorem right_short (A : Option Addr) (l : List UInt8) (cap : Nat) (w : World) (hlen : l.length < 4) :
    Calls Tryd.prog 22 #[.slice A l.length cap] w fun e w' => e = .returned (.bool false) ∧ Below w.heap.size w w' := by
  have hg : decide (0 ≤ (l.length : Int) - 4) = false := by simp; omega
  have hg2 : decide ((4 : Int) ≤ (l.length : Int)) = false := by simp; omega
  have hg3 : decide (4 ≤ l.length) = false := by simp; omega
  have hg' : (l.length : Int) < 4 := by omega
  go_enter Tryd.func22, Tryd.ntmps22
  go_wp2_with fail
  go_quiet (fail)
  go_wp2
  go_ret
  exact ⟨rfl, below_drewN (Below.refl _ _) _⟩

theorem sum_take (m : Nat) (l : List UInt8) (A : Option Addr) (cap B : Nat) (w : World) (hlen : l.length = m + 4) (hT : Tab w) (hl : Bs w B A l) (hm : m ≤ 140737488351000) :
    Calls Tryd.prog 10 #[.slice A m cap] w.drew fun e w' => e = .returned (.int .u32 (U (Cm.sum (l.take m)))) ∧ w.drew = w' := by
  have h := sum_any A (l.take m) cap B w.drew (by rw [List.length_take]; omega) hT (hl.take m (by omega))
  rw [List.length_take, Nat.min_eq_left (by omega)] at h
  exact h
theorem right_long (ad : Addr) (l : List UInt8) (m cap : Nat) (w : World) (hlen : l.length = m + 4) (hm : m ≤ 140737488351000) (hcap : m + 4 ≤ cap) (hT : Tab w) (hl : Bs w w.heap.size (some ad) l) :
    Calls Tryd.prog 22 #[.slice (some ad) (m + 4) cap] w fun e w' => e = .returned (.bool (decide (le4 (Cm.sum (l.take m)) = l.drop m))) ∧ Below w.heap.size w w' := by
  have HT := Lib.hid hT
  have HL := Lib.hid hl
  have HN := Lib.hid hlen
  clear hT hl hlen
  have hne : ¬ cap = m := by omega
  have hlt : (m : Int) < cap := by omega
  have hle : (m : Int) ≤ cap := by omega
  have hm0 : (0 : Int) ≤ (m : Int) := by omega
  have hmc : m ≤ cap := by omega
  have hm4 : (m : Int) ≤ (m : Int) + 4 := by omega
  have hm4c : (m : Int) + 4 ≤ cap := by omega
  have harr : ∀ (a : Addr) (c : Nat) (w : World), (Instr.arrayAt 53 (.slice (some a) 4 c)).run Tryd.prog w = .ok (.pointer (some a)) w := fun a c w => by kernel_rfl
  obtain ⟨c0, c1, c2, c3, hd⟩ : ∃ c0 c1 c2 c3, l.drop m = [c0, c1, c2, c3] := by
    have h4 : (l.drop m).length = 4 := by rw [List.length_drop, HN.out]; omega
    match l.drop m, h4 with
    | [c0, c1, c2, c3], _ => exact ⟨c0, c1, c2, c3, rfl⟩
  have hcells : w.cell? (ad.add m) = some (.int .u8 (B8 c0)) ∧ w.cell? ⟨(ad.add m).block, (ad.add m).off + 1, none⟩ = some (.int .u8 (B8 c1)) ∧
      w.cell? ⟨(ad.add m).block, (ad.add m).off + 2, none⟩ = some (.int .u8 (B8 c2)) ∧ w.cell? ⟨(ad.add m).block, (ad.add m).off + 3, none⟩ = some (.int .u8 (B8 c3)) := by
    have hb : Bs w w.heap.size (some (ad.add m)) (l.drop m) := HL.out.drop m (by rw [HN.out]; omega) (fun _ => rfl)
    rw [hd] at hb
    obtain ⟨_, h0, _, k0⟩ := hb 0 (by simp)
    obtain ⟨_, h1, _, k1⟩ := hb 1 (by simp)
    obtain ⟨_, h2, _, k2⟩ := hb 2 (by simp)
    obtain ⟨_, h3, _, k3⟩ := hb 3 (by simp)
    injection h0 with h0; injection h1 with h1; injection h2 with h2; injection h3 with h3
    subst h0; subst h1; subst h2; subst h3
    exact ⟨by simpa [Addr.add, byteAt] using k0, k1, k2, k3⟩
  rw [hd]
  have hbb : ∀ x y : UInt8, (B8 x == B8 y) = decide (x = y) := by
    intro x y
    rw [Bool.eq_iff_iff]
    simp only [beq_iff_eq, decide_eq_true_eq]
    exact ⟨B8_inj, fun h => by rw [h]⟩
  have heq : ∀ w, (Op.equalIn 10000 53 (.agg #[.int .u8 (B8 c0), .int .u8 (B8 c1), .int .u8 (B8 c2), .int .u8 (B8 c3)]) (.agg #[.int .u8 (B8 (by4 (Cm.sum (l.take m)) 0)), .int .u8 (B8 (by4 (Cm.sum (l.take m)) 1)), .int .u8 (B8 (by4 (Cm.sum (l.take m)) 2)), .int .u8 (B8 (by4 (Cm.sum (l.take m)) 3))])).run Tryd.prog w = .ok (decide (le4 (Cm.sum (l.take m)) = [c0, c1, c2, c3])) w := by
    intro w
    rw [run_equalIn_arr4, hbb, hbb, hbb, hbb]
    congr 1
    rw [Bool.eq_iff_iff]
    simp only [Bool.and_eq_true, decide_eq_true_eq, le4, List.cons.injEq, and_true]
    constructor
    · rintro ⟨h0, h1, h2, h3⟩; exact ⟨h0.symm, h1.symm, h2.symm, h3.symm⟩
    · rintro ⟨h0, h1, h2, h3⟩; exact ⟨h0.symm, h1.symm, h2.symm, h3.symm⟩
  clear hbb
  generalize decide (le4 (Cm.sum (l.take m)) = [c0, c1, c2, c3]) = r at *
  have hsm : (ad.add m).block < w.heap.size := World.block_lt_of_cell? w _ hcells.1
  go_enter Tryd.func22, Tryd.ntmps22
  go_wp2_with fail
  go_region_held3 (fun w' => w'.cell? (ad.add m) = some (.int .u8 (B8 c0)) ∧ w'.cell? ⟨(ad.add m).block, (ad.add m).off + 1, none⟩ = some (.int .u8 (B8 c1)) ∧
      w'.cell? ⟨(ad.add m).block, (ad.add m).off + 2, none⟩ = some (.int .u8 (B8 c2)) ∧ w'.cell? ⟨(ad.add m).block, (ad.add m).off + 3, none⟩ = some (.int .u8 (B8 c3)))
    (first | go_keep | exact ⟨(hb1.cell hsm).trans hcells.1, (hb1.cell (p := ⟨(ad.add m).block, (ad.add m).off + 1, none⟩) hsm).trans hcells.2.1, (hb1.cell (p := ⟨(ad.add m).block, (ad.add m).off + 2, none⟩) hsm).trans hcells.2.2.1, (hb1.cell (p := ⟨(ad.add m).block, (ad.add m).off + 3, none⟩) hsm).trans hcells.2.2.2⟩)
    (first | (go_at_call 10; refine (sum_take m l (some ad) _ _ _ HN.out HT.out HL.out hm).mono ?_; rintro e w' ⟨rfl, rfl⟩) | (go_at_call 29; refine (laid_any _ _).mono ?_; rintro e w1 ⟨rfl, hb1⟩))
  all_goals go_wp2
  all_goals go_ret
  all_goals exact ⟨rfl, ((Below.refl w.heap.size w).drew).trans hb1⟩

theorem right_at (ad : Addr) (l : List UInt8) (n cap : Nat) (w : World) (hlen : l.length = n) (h4 : 4 ≤ n) (hn : n ≤ 140737488351000) (hcap : n ≤ cap) (hT : Tab w) (hl : Bs w w.heap.size (some ad) l) :
    Calls Tryd.prog 22 #[.slice (some ad) n cap] w fun e w' => e = .returned (.bool (decide (le4 (Cm.sum (l.take (n - 4))) = l.drop (n - 4)))) ∧ Below w.heap.size w w' := by
  have h := right_long ad l (n - 4) cap w (by omega) (by omega) (by omega) hT hl
  rw [show n - 4 + 4 = n by omega] at h
  exact h
end Go.Proofs.YthdmapjdfghgfaaDoor
