/-
  Closed runs: every operation.
-/
import Derived.Test.YtjhaikcokbmdbaaGreatDoorCxO
namespace Go.Proofs.YtjhaikcokbmdbaaGreatDoor.Cx
open Go.RowKit Go.Proofs.YtjhaikcokbmdbaaGreatDoor.Ax

section
variable {P : Program} {ρ : Rho} {W w : World} {H : CH}
theorem copyC_ok (hS : SR W ρ H w) (t : Nat) (d x : CV) {u v : Value} (hd : d.R ρ u) (hx : x.R ρ v) (ts : List TypeId) (ty : TypeId) : (copyC (mkTD P) H t d x).wr P W ρ H w (Builtin.copy_ (t :: ts).toArray ty #[u, v]) := by
  unfold copyC
  split
  · rename_i e de he
    obtain ⟨hu, hde⟩ := elemC_spec he
    have hs := r_size hde w
    cases hb : Nat.beq de.size 0 with
    | true => exact trivial
    | false =>
      have hz0 : de.size ≠ 0 := fun e => by rw [e] at hb; simp at hb
      simp only [cond_false]
      split
      · rename_i s hsrc
        obtain ⟨xs, m⟩ := s
        obtain ⟨news, hnr, hn⟩ := srcC_spec hS hz0 hx hsrc
        simp only [CV.R] at hd
        subst hd
        refine ⟨.int .i64 0, w, ρ, ?_, Rho.le.refl _, hS, R_int ..⟩
        have := hn.first 0 (Nat.zero_le _)
        simp [Builtin.copy_, run_underlying hu, hn.len, hs, this, goInt]
      · rename_i h sz off n cap xs m hsrc
        obtain ⟨news, hnr, hn⟩ := srcC_spec hS hz0 hx hsrc
        cases hsz : Nat.beq sz de.size with
        | false => exact trivial
        | true =>
          have hsz := Nat.eq_of_beq_eq_true hsz
          subst hsz
          simp only [cond_true]
          simp only [CV.R] at hd
          obtain ⟨b, q, o, c, q1, rfl, q2, q3, q4, q5, q6⟩ := hd
          split
          · rename_i cs hg
            cases hl : Nat.ble (off + n * de.size) (len cs) with
            | false => exact trivial
            | true =>
              have hl := Nat.le_of_ble_eq_true hl
              rw [len_eq] at hl
              simp only [cond_true]
              have hk : Nat.min m n ≤ m := Nat.min_le_left _ _
              have hk2 : Nat.min m n ≤ n := Nat.min_le_right _ _
              have hf := hn.first _ hk
              have hlen : (takeL xs (Nat.min m n * de.size)).length = Nat.min m n * de.size := by
                have := Rs_len _ _ hnr
                rw [takeL_eq, List.length_take, ← this, hn.many]
                exact Nat.min_eq_left (Nat.mul_le_mul_right _ hk)
              have hmul : Nat.min m n * de.size ≤ n * de.size := Nat.mul_le_mul_right _ hk2
              obtain ⟨w', k1, k2⟩ := hS.over (P := P) (off := off) hg q1 (xs := takeL xs (Nat.min m n * de.size)) (us := news.take (Nat.min m n * de.size)) (by rw [takeL_eq]; exact Rs_take _ _ _ hnr) (fun v hv => hn.one v (List.mem_of_mem_take hv)) (by rw [hlen]; omega)
              refine ⟨.int .i64 (Nat.min m n : Int), w', ρ, ?_, Rho.le.refl _, k2, R_int ..⟩
              have hst : (storeCells ⟨b, o, none⟩ (news.take (Nat.min m n * de.size))).run P w = .ok () w' := by
                by_cases hn0 : n = 0
                · subst hn0
                  have e0 : Nat.min m 0 = 0 := Nat.min_eq_right (Nat.zero_le _)
                  rw [e0, Nat.zero_mul, List.take_zero] at k1 ⊢
                  exact k1
                · rw [q4 (by omega)]
                  exact k1
              simp [Builtin.copy_, run_underlying hu, hn.len, hs, hf, hst, goInt]
          · exact trivial
      · exact trivial
  · exact trivial
theorem clearC_ok (hS : SR W ρ H w) (t : Nat) (x : CV) {v : Value} (hx : x.R ρ v) (ts : List TypeId) (ty : TypeId) : (clearC (mkTD P) H t x).wr P W ρ H w (Builtin.clear_ (t :: ts).toArray ty #[v]) := by
  unfold clearC
  split
  · simp only [CV.R] at hx
    subst hx
    split
    · rename_i d hd
      obtain ⟨u, i, h1, _⟩ := mkTD_spec hd
      refine ⟨.tuple #[], w, ρ, ?_, Rho.le.refl _, hS, R_unit⟩
      simp [Builtin.clear_, run_underlying h1]
    · exact trivial
  · simp only [CV.R] at hx
    subst hx
    split
    · rename_i d hd
      obtain ⟨u, i, h1, _⟩ := mkTD_spec hd
      refine ⟨.tuple #[], w, ρ, ?_, Rho.le.refl _, hS, R_unit⟩
      simp [Builtin.clear_, run_underlying h1]
    · exact trivial
  · rename_i h
    split
    · rename_i mt kk ver m bs hmt hg
      obtain ⟨kk', et⟩ := mt
      obtain ⟨hu, _⟩ := mapT_spec hmt
      simp only [CV.R] at hx
      obtain ⟨b, q, g1, rfl⟩ := hx
      obtain ⟨es, clock, g2, g3, g4, _⟩ := hS.p hg g1
      have hobj := run_getObj (P := P) g2 (fun _ _ _ => by simp)
      have hset := run_setObj (P := P) (o' := .map #[] clock) g2 (fun _ _ _ => by simp)
      refine ⟨.tuple #[], _, ρ, ?_, Rho.le.refl _, hS.put hg g1 (.map #[] clock) ⟨#[], clock, putObj_same g2, ⟨by simp [toM], ⟨[], List.Perm.refl _, rfl⟩, by simp [toM], by simp, by simp⟩, by simp, BsR.none _ _⟩ (fun _ _ _ _ h => by cases h) (fun _ _ _ _ h => by cases h; exact ⟨_, _, _, _, rfl, .inl (Nat.lt_succ_self _)⟩), R_unit⟩
      simp [Builtin.clear_, run_underlying hu, hobj, hset]
    · exact trivial
  · rename_i h sz off n cap
    split
    · rename_i e de he
      obtain ⟨hu, hde⟩ := elemC_spec he
      split
      · rename_i z cs hz hg
        cases hb : (allC z && Nat.beq sz de.size && !(Nat.beq sz 0) && Nat.beq (len z) de.size && Nat.ble (off + n * sz) (len cs)) with
        | false => exact trivial
        | true =>
          simp only [Bool.and_eq_true, Bool.not_eq_true'] at hb
          obtain ⟨⟨⟨⟨b1, b2⟩, b3⟩, b4⟩, b5⟩ := hb
          have c2 := Nat.eq_of_beq_eq_true b2
          have c4 := Nat.eq_of_beq_eq_true b4
          have c5 := Nat.le_of_ble_eq_true b5
          rw [len_eq] at c4 c5
          subst c2
          have hz0 : de.size ≠ 0 := fun e => by rw [e] at b3; simp at b3
          simp only [cond_true]
          simp only [CV.R] at hx
          obtain ⟨b, q, o, c, q1, rfl, q2, q3, q4, q5, q6⟩ := hx
          obtain ⟨zv, hz1, hzr⟩ := zeroC_spec hz
          have hzr' := r_zero hde hz1 w
          have hzc : zv.cells.size = de.size := by have := Rs_len _ _ (hzr ρ); simp at this; omega
          have hrl : (repL z n).length = n * de.size := by
            have := Rs_len _ _ (repL_ok (hzr ρ) n)
            rw [← this, repV_len]
            simp [hzc]
          obtain ⟨w', k1, k2⟩ := hS.over (P := P) (off := off) hg q1 (repL_ok (hzr ρ) n) (fun v hv => allC_ok b1 (hzr ρ) v (repV_mem n v hv)) (by rw [hrl]; omega)
          refine ⟨.tuple #[], w', ρ, ?_, Rho.le.refl _, k2, R_unit⟩
          by_cases hn0 : n = 0
          · subst hn0
            have : (storeCells ⟨b, off, none⟩ (repV zv.cells.toList 0)).run P w = .ok () w := by simp [repV, storeCells]
            rw [this] at k1
            cases k1
            simp [Builtin.clear_, run_underlying hu]
          · rw [q4 (by omega)]
            have hzz : (Builtin.zeroCells zv.cells n).toList = repV zv.cells.toList n := by
              show ((Array.range (n * zv.cells.size)).map (fun i => zv.cells[i % zv.cells.size]!)).toList = _
              rw [zeros_eq zv.cells n (by omega)]
            have hne : n ≠ 0 := hn0
            simp [Builtin.clear_, run_underlying hu, hne, hzr', hzz, k1]
      · exact trivial
    · exact trivial
  · exact trivial
end
end Go.Proofs.YtjhaikcokbmdbaaGreatDoor.Cx
