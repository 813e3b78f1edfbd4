/-
  Closed runs: conversions, maps, append, copy.
-/
import Derived.Test.YtjhaikcokbmdbaaGreatDoorCxJ
namespace Go.Proofs.YtjhaikcokbmdbaaGreatDoor.Cx
open Go.RowKit Go.Proofs.YtjhaikcokbmdbaaGreatDoor.Ax

section
variable {P : Program} {ρ : Rho} {W w : World} {H : CH}
def bvalsN (l : List Nat) : List Value := l.map fun n : Nat => Value.int .u8 (n : Int)
theorem Rs_bytes : ∀ l : List Nat, CV.Rs ρ (mapL (fun n => CV.int .u8 (.ofNat n)) l) (bvalsN l)
  | [] => by show CV.Rs ρ [] []; simp [CV.Rs]
  | x :: xs => by
    show CV.Rs ρ (CV.int .u8 (.ofNat x) :: mapL (fun n => CV.int .u8 (.ofNat n)) xs) (.int .u8 (x : Int) :: bvalsN xs)
    simp only [CV.Rs]
    exact ⟨_, _, rfl, R_int .., Rs_bytes xs⟩
theorem isB_spec {e : Nat} (h : isB (mkTD P) e = true) : P.underlying e = some (.int .u8) := by
  unfold isB at h
  split at h
  · rename_i d hd
    exact u_int hd (isByte_spec h)
  · cases h
theorem bytesC_cons (c : CV) (cs : List CV) : bytesC (c :: cs) = match c, bytesC cs with
  | .int .u8 (.ofNat n), some l => bif Nat.blt n 256 then some (n :: l) else none
  | _, _ => none := rfl
theorem bytesC_spec : ∀ {cs : List CV} {l : List Nat} {vs : List Value}, bytesC cs = some l → CV.Rs ρ cs vs → (∀ c ∈ l, c < 256) ∧ vs = bvalsN l
  | [], l, vs, h, hr => by
    have h : some [] = some l := h
    cases h
    simp only [CV.Rs] at hr
    exact ⟨by simp, hr⟩
  | c :: cs, l, vs, h, hr => by
    simp only [CV.Rs] at hr
    obtain ⟨u, us, rfl, r, rs⟩ := hr
    rw [bytesC_cons] at h
    split at h
    · rename_i n l' hl
      cases hb : Nat.blt n 256 with
      | false => rw [hb] at h; cases h
      | true =>
        rw [hb] at h
        simp only [cond_true, Option.some.injEq] at h
        subst h
        have hn : n < 256 := by rw [← Nat.blt_eq]; exact hb
        obtain ⟨h1, rfl⟩ := bytesC_spec hl rs
        simp only [CV.R] at r
        subst r
        exact ⟨fun x hx => by rcases List.mem_cons.1 hx with rfl | hx; exact hn; exact h1 x hx, rfl⟩
    · cases h
/-- The cells of a slice's elements. -/
theorem rowCells_spec (hS : SR W ρ H w) {sz : Nat} {x : CV} {v : Value} {cs : List CV} (hx : x.R ρ v) (h : rowCells H sz x = some cs) :
    ∃ A n c vs, v = .slice A n c ∧ n ≤ c ∧ CV.Rs ρ cs vs ∧ vs.length = n * sz ∧ (∀ u ∈ vs, u.oneCell' = true) ∧ ∀ (j : Nat) u, vs[j]? = some u → sz ≠ 0 → ∃ b o, A = some ⟨b, o, none⟩ ∧ w.cell? ⟨b, o + j, none⟩ = some u := by
  unfold rowCells at h
  split at h
  · cases h
    simp only [CV.R] at hx
    subst hx
    exact ⟨none, 0, 0, [], rfl, Nat.le_refl _, by simp [CV.Rs], by simp, by simp, fun j u hj => by simp at hj⟩
  · rename_i hh s off n cap
    cases hb : Nat.beq s sz with
    | false => rw [hb] at h; cases h
    | true =>
      have := Nat.eq_of_beq_eq_true hb
      subst this
      rw [hb] at h
      simp only [cond_true] at h
      simp only [CV.R] at hx
      obtain ⟨b, m, o, c, q1, rfl, q2, q3, q4, q5, q6⟩ := hx
      split at h
      · rename_i ds hg
        cases hl : Nat.ble (off + n * s) (len ds) with
        | false => rw [hl] at h; cases h
        | true =>
          rw [hl] at h
          simp only [cond_true, Option.some.injEq] at h
          subst h
          have hl := Nat.le_of_ble_eq_true hl
          rw [len_eq] at hl
          obtain ⟨vs, c1, c2, c3⟩ := cell_at (off := off) (hS.p hg q1)
          have l1 := Rs_len _ _ c1
          rw [List.length_drop] at l1
          refine ⟨_, n, c, vs.take (n * s), rfl, q2, by rw [takeL_eq, dropL_eq]; exact Rs_take _ _ _ c1, by rw [List.length_take]; omega, fun u hu => c2 u (List.mem_of_mem_take hu), fun j u hj hs => ?_⟩
          rw [List.getElem?_take] at hj
          split at hj
          · rename_i hjn
            have hn : n ≠ 0 := fun e => by subst e; simp at hjn
            rw [q4 (by omega)]
            exact ⟨b, off, rfl, c3 j u hj⟩
          · cases hj
      · cases h
  · cases h
theorem u8s_bvals (l : List Nat) (h : ∀ c ∈ l, c < 256) : ∀ k, k < l.length → (bvalsN l)[k]? = some (.int .u8 (((u8s l).getD k 0).toNat : Int)) := fun k hk => by
  have hc : l[k] < 256 := h _ (List.getElem_mem hk)
  simp only [bvalsN, List.getElem?_map, List.getElem?_eq_getElem hk, Option.map_some]
  congr 2
  have : (u8s l).getD k 0 = UInt8.ofNat l[k] := by simp [u8s, List.getD, hk]
  rw [this, UInt8.toNat_ofNat', Nat.mod_eq_of_lt hc]
theorem convC_ok (hS : SR W ρ H w) (s d : Nat) (x : CV) {v : Value} (hx : x.R ρ v) : (convC (mkTD P) H s d x).wr P W ρ H w (convert s d v) := by
  unfold convC
  split
  · rename_i dd ds hd hs
    split
    · rename_i k j j' n hk1 hk2
      simp only [CV.R] at hx
      subst hx
      refine Out.rd_wr hS (rd_int (n := k.wrap n) ?_ (wrapN_eq ..))
      simp [convert, run_underlying (u_int hs hk2), run_underlying (u_int hd hk1), Conv.intToInt]
    · rename_i l hk1 hk2
      obtain ⟨hl, rfl⟩ := R_str' hx
      refine Out.rd_wr hS (show ∃ u, _ ∧ _ from ⟨_, ?_, R_str hl⟩)
      simp [convert, run_underlying (u_str hs hk2), run_underlying (u_str hd hk1)]
    · rename_i x' e hk1 hk2
      cases hb : isB (mkTD P) e with
      | false => exact trivial
      | true =>
        simp only [cond_true]
        split
        · rename_i cs hcs
          split
          · rename_i l hl
            obtain ⟨A, n, c, vs, rfl, h1, h2, h3, h4, h5⟩ := rowCells_spec hS hx hcs
            obtain ⟨h6, rfl⟩ := bytesC_spec hl h2
            have hn : n = (u8s l).length := by simp [bvalsN] at h3; simp [u8s]; omega
            subst hn
            refine Out.rd_wr hS (show ∃ u, _ ∧ _ from ⟨_, conv_bytes (P := P) (w := w) (u_sl hs hk2) (isB_spec hb) (u_str hd hk1) A (u8s l) c (fun k hk => ?_), R_str h6⟩)
            obtain ⟨b, o, e1, e2⟩ := h5 k _ (u8s_bvals l h6 k (by simpa [u8s] using hk)) (by simp)
            exact ⟨_, e1, rfl, e2⟩
          · exact trivial
        · exact trivial
    · rename_i e l hk1 hk2
      cases hb : (isB (mkTD P) e && Nat.ble (len l) 140737488355327) with
      | false => exact trivial
      | true =>
        rw [Bool.and_eq_true] at hb
        have hlen := Nat.le_of_ble_eq_true hb.2
        rw [len_eq] at hlen
        simp only [cond_true]
        obtain ⟨hl, rfl⟩ := R_str' hx
        have h0 : Ax.SR (fun _ => none) (fun _ _ => none) ⟨0, []⟩ w := ⟨fun _ _ _ h => (by cases h), fun _ _ _ h => (by cases h), fun p hp => by simp at hp, fun _ _ => rfl, by simp, fun p hp => by simp at hp, fun p hp => by simp at hp, fun p hp => by simp at hp⟩
        obtain ⟨w', s1, s2, s3, s4, s5⟩ := strToBytes (P := P) h0 e (u8s l) (by simp [u8s]; unfold maxLen; omega)
        obtain ⟨hv, r1, r2⟩ := s2.rel (0, .brow e (u8s l)) (by simp [AH.add])
        have hhv : hv = one1 w.heap.size (bytesCap w (u8s l) e) := by
          have : Ax.Rho.upd (fun _ => none) 0 (one1 w.heap.size (bytesCap w (u8s l) e)) 0 = some (one1 w.heap.size (bytesCap w (u8s l) e)) := Ax.Rho.upd_same _ _ _
          have r1' : Ax.Rho.upd (fun _ => none) 0 (one1 w.heap.size (bytesCap w (u8s l) e)) 0 = some hv := r1
          rw [this] at r1'
          injection r1' with r1'
          exact r1'.symm
        subst hhv
        simp only [AV.R] at s4
        obtain ⟨A', c', e1, e2, e3, _⟩ := s4
        cases e1
        rcases r2 with ⟨r2, _⟩ | ⟨b, arr, fr, r2, _, r3, r4, r5, r6, r7⟩
        · simp [one1] at r2
        · have hb0 : b = w.heap.size := by simp [one1] at r2; exact r2.symm
          subst hb0
          have hother : SR W ρ H w' := hS.other s5.os s5.tape s5.output s5.size fun k hk _ => s5.block k hk (fun h => h)
          have hlt : w.heap.size < w'.heap.size := (Array.getElem?_eq_some_iff.1 r3).1
          refine ⟨.slice (some ⟨w.heap.size, 0, none⟩) (u8s l).length (bytesCap w (u8s l) e), w', ρ.ext H.next (w.heap.size, bytesCap w (u8s l) e), ?_, Rho.le_ext (hS.fresh _ (Nat.le_refl _)), hS.fresh1 hother hlt (fun _ _ _ _ h => by cases h) ⟨arr, e, fr, bvalsN l, r3, r4, r5, Rs_bytes l, ?_, ?_⟩, ?_⟩
          · rw [← s1]
            simp [convert, run_underlying (u_str hs hk2), run_underlying (u_sl hd hk1), run_underlying (isB_spec hb.1)]
          · intro v hv
            simp only [bvalsN, List.mem_map] at hv
            obtain ⟨n, _, rfl⟩ := hv
            rfl
          · intro j u hj
            have hjl : j < l.length := by
              have := (List.getElem?_eq_some_iff.1 hj).1
              simpa [bvalsN] using this
            rw [u8s_bvals l hl j hjl] at hj
            rw [← hj]
            exact r7 j (by simpa [u8s] using hjl)
          · have : (u8s l).length = len l := by rw [len_eq]; simp [u8s]
            rw [this]
            exact R_newRow (by rw [← this]; exact e2) e3 (by omega) (fun x hx => by cases hx)
    · rename_i e e2 hh sz off n cap hk1 hk2
      split
      · rename_i cs hg
        cases hb : (Nat.beq s d && isB (mkTD P) e) with
        | false => exact trivial
        | true =>
          simp only [cond_true]
          rw [Bool.and_eq_true] at hb
          have hsd := Nat.eq_of_beq_eq_true hb.1
          subst hsd
          rw [hd] at hs
          injection hs with hs
          subst hs
          rw [hk1] at hk2
          injection hk2 with hk2
          subst hk2
          have hx' := hx
          simp only [CV.R] at hx
          obtain ⟨b, m, o, c, q1, rfl, q2, q3, q4, q5, q6⟩ := hx
          obtain ⟨arr, e0, fr, vs, g1, g2, g3, g4⟩ := hS.p hg q1
          have hm : (markStringish ⟨b, o, none⟩).run P w = _ := Ax.run_mark (P := P) g1
          refine ⟨.slice (some ⟨b, o, none⟩) n c, _, ρ, ?_, Rho.le.refl _, hS.put hg q1 (.cells arr e0 (if fr.1 = fr.2 then (arr.size, arr.size + 1) else (min fr.1 arr.size, max fr.2 (arr.size + 1)))) ⟨arr, e0, _, vs, putObj_same g1, g2, g3.mark, g4⟩ (fun _ _ _ _ h => by cases h) (fun _ _ _ _ h => by cases h), hx'⟩
          simp [convert, run_underlying (u_sl hd hk1), run_underlying (isB_spec hb.2), hm]
      · exact trivial
    · exact trivial
  · exact trivial
end
end Go.Proofs.YtjhaikcokbmdbaaGreatDoor.Cx
