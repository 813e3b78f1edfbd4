/-
  Walks of the document's answer for sums: modulus, left.
-/
import Derived.Test.YthdmapjdfghgfaaDoorCrcG
import Derived.Deep.Onto
namespace Go.Proofs.YthdmapjdfghgfaaDoor
open Go.RowKit
attribute [local go_sem] U_xor U_and U_not U_not' U_byte U_toNat U_nonneg

def pows : List Int := [28, 27, 26, 25, 23, 22, 20, 19, 18, 14, 13, 11, 10, 9, 8, 6, 0]
def has (j : Nat) (k : Int) : Bool := (pows.take j).contains k
theorem has_M (t : Nat) (ht : t < 32) : has 17 (31 - (t : Int)) = Cm.M.getLsbD t := by
  have h : ∀ j : Fin 32, has 17 (31 - (j.1 : Int)) = Cm.M.getLsbD j.1 := by decide
  exact h ⟨t, ht⟩
theorem has_succ (j : Nat) (hj : j < 17) (t : Nat) (ht : t < 32) : has (j + 1) (31 - (t : Int)) = (has j (31 - (t : Int)) || pows.getD j 0 == 31 - (t : Int)) := by
  have h : ∀ i : Fin 17, ∀ s : Fin 32, has (i.1 + 1) (31 - (s.1 : Int)) = (has i.1 (31 - (s.1 : Int)) || pows.getD i.1 0 == 31 - (s.1 : Int)) := by decide
  exact h ⟨j, hj⟩ ⟨t, ht⟩
def powCells : Array Value := #[.int .i64 28, .int .i64 27, .int .i64 26, .int .i64 25, .int .i64 23, .int .i64 22, .int .i64 20, .int .i64 19, .int .i64 18, .int .i64 14, .int .i64 13, .int .i64 11, .int .i64 10, .int .i64 9, .int .i64 8, .int .i64 6, .int .i64 0]
theorem powCells_map : powCells = (pows.map (Value.int .i64)).toArray := rfl
theorem powCells_get (j : Nat) (hj : j < 17) : powCells[j]? = some (.int .i64 (pows.getD j 0)) := by
  rw [powCells_map]
  have hl : j < pows.length := hj
  simp [List.getD, hl]

set_option maxRecDepth 100000 in
theorem modulus_any (w : World) : Calls Tryd.prog 30 #[] w fun e w' => ∃ v, e = .returned v ∧ w'.ownsRow w.heap.size 4 1 v 32 ((Cm.bitsOf Cm.M).map Value.bool) ∧ Below w.heap.size w w' := by
  obtain ⟨i0, hi0, hz0, hz1, hz2⟩ := info_parts info_bool
  go_enter Tryd.func30, Tryd.ntmps30
  go_wp2
  go_loopw [1, 3] (fun v i wr => ∃ t : Nat, t ≤ 32 ∧ i = .int .i64 (31 - (t : Int)) ∧ wr.ownsRow (w.heap.size + 1) 4 1 v t (((Cm.bitsOf Cm.M).take t).map Value.bool) ∧ Below w.heap.size w wr ∧ w.heap.size < wr.heap.size ∧ (∀ j, j < 17 → wr.cell? ⟨w.heap.size, j, none⟩ = some (.int .i64 (pows.getD j 0)))) (fun _ i _ => (intOf i + 1).toNat)
  case atStart =>
    refine ⟨0, by omega, rfl, Lk.own_nil _ _ _, (Below.refl _ _).alloc (Nat.le_refl _) _, by simp, fun j hj => ?_⟩
    rw [World.cell?_alloc_at _ _ _ _ rfl]
    exact powCells_get j hj
  case round =>
    obtain ⟨t, ht, rfl, hown, hb, hsz, hcl⟩ := hrel
    have HO := Lib.hid hown
    have HB := Lib.hid hb
    have HC := Lib.hid hcl
    clear hown hb hcl
    by_cases hlt : t < 32
    · have h31 : (31 : Int) - (t : Int) < 32 := by omega
      have h30 : (0 : Int) ≤ 31 - (t : Int) := by omega
      go_wp2
      obtain ⟨wo, rfl⟩ : ∃ wo : World, wo = wr := ⟨_, rfl⟩
      go_loop [4, 5] (fun b i => ∃ j : Nat, j ≤ 17 ∧ i = .int .i64 j ∧ b = .bool (has j (31 - (t : Int)))) (fun _ i => 17 - (intOf i).toNat)
      case atStart => exact ⟨0, by omega, rfl, rfl⟩
      case round =>
        obtain ⟨j, hj, rfl, rfl⟩ := hrel
        by_cases hjl : j < 17
        · have hc := HC.out j hjl
          have hp := Lib.hid (has_succ j hjl t hlt)
          generalize has j (31 - (t : Int)) = b0 at *
          generalize pows.getD j 0 = p at *
          cases hq : (p == 31 - (t : Int))
          all_goals
            have hQ := Lib.hid hq
            go_wp2_with fail
            go_round
            case rel => exact ⟨j + 1, by omega, by go_num, by rw [hp.out, hQ.out]; simp⟩
            case measure => simp [intOf]; omega
        · have h17 : j = 17 := by omega
          subst h17
          have hx : (Cm.bitsOf Cm.M).take (t + 1) = (Cm.bitsOf Cm.M).take t ++ [has 17 (31 - (t : Int))] := by
            rw [has_M t hlt, List.take_succ_eq_append_getElem (by rw [Cm.bitsOf_length]; exact hlt)]
            congr 2
            have := Cm.bitsOf_get Cm.M t hlt
            simpa [List.getD, Cm.bitsOf_length, hlt] using this
          have HX := Lib.hid hx
          clear hx
          generalize has 17 (31 - (t : Int)) = c at *
          go_wp2_with (at_builtin; refine Lk.wpList_app _ rfl (.tmp 23) (.tmp 25) 48 rfl (w.heap.size + 1) 4 i0 _ 1 1 Tryd.underlying48 hi0 hz0 hz1 hz2 rfl (by omega) _ t _ rfl (HO.out.alloc _) (some ⟨wo.heap.size, 0, none⟩) 1 1 [.bool c] rfl rfl (Lk.Src.one (World.cell?_alloc_at _ _ _ _ rfl)) (by simp [Value.oneCell']) (by unfold maxLen; omega) (by omega) (by simp; omega) (fun v1 w2 hown1 hg1 hat1 => ?_))
          go_roundw
          case rel =>
            refine ⟨t + 1, by omega, ?_, ?_, ?_, ?_, ?_⟩
            · congr 1; omega
            · rw [HX.out, List.map_append]
              exact hown1
            · exact (HB.out.alloc (by omega) _).grown hg1 (by simp; omega) (fun g hg => by have := (HO.out.lt g hg).1; omega)
            · have := hg1.size
              simp at this
              omega
            · intro j hj
              rw [Lk.own_cell hg1 (HO.out.alloc _) (by show w.heap.size < w.heap.size + 1; omega) (by simp; omega), World.cell?_alloc_lt _ _ _ hsz]
              exact HC.out j hj
          case measure => simp [intOf]; omega
    · have h32 : t = 32 := by omega
      subst h32
      go_wp2
      go_ret
      refine ⟨_, rfl, ?_, HB.out⟩
      have h := HO.out
      rw [List.take_of_length_le (by rw [Cm.bitsOf_length]; omega)] at h
      exact h.mono (by omega)
end Go.Proofs.YthdmapjdfghgfaaDoor
