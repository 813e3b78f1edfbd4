/-
  Closed runs: stores, slices, conversions, maps.
-/
import Derived.Test.YtjhaikcokbmdbaaGreatDoorCxI
namespace Go.Proofs.YtjhaikcokbmdbaaGreatDoor.Cx
open Go.RowKit Go.Proofs.YtjhaikcokbmdbaaGreatDoor.Ax

section
variable {P : Program} {ρ : Rho} {W w : World} {H : CH}
theorem layV_arr {arr : Array Value} {us : List Value} {o : Nat} (_ : o + us.length ≤ arr.size) (j : Nat) : (layArr arr o us)[j]? = (layV arr.toList o us)[j]? := by
  have := layArr_eq us arr.toList o
  simp only [Array.toArray_toList] at this
  rw [this]
  simp
/-- Cells laid over a block's cells. -/
theorem SR.over (hS : SR W ρ H w) {h : Nat} {cs xs : List CV} {b m off : Nat} {us : List Value} (hg : H.get h = some (.cells cs)) (hp : ρ h = some (b, m)) (hx : CV.Rs ρ xs us) (h1 : ∀ v ∈ us, v.oneCell' = true) (hl : off + xs.length ≤ cs.length) :
    ∃ w', (storeCells ⟨b, off, none⟩ us).run P w = .ok () w' ∧ SR W ρ ((Cmd.set h (.cells (overL cs xs off))).app H) w' := by
  obtain ⟨arr, e, fr, vs, g1, g2, g3, g4, g5, g6⟩ := hS.p hg hp
  simp only at g1 g2
  have l1 := Rs_len _ _ g4
  have l2 := Rs_len _ _ hx
  have hvs : vs.length ≤ arr.size := by
    rcases Nat.lt_or_ge arr.size vs.length with h | h
    · have := g6 arr.size _ (List.getElem?_eq_getElem h)
      simp at this
    · exact h
  have hst := run_stores (P := P) (b := b) (e := e) (fr := fr) off us 0 arr w g1 g3 (by omega) h1
  rw [Nat.add_zero] at hst
  refine ⟨_, hst, hS.put hg hp _ ?_ (fun _ _ _ _ h => by cases h) (fun _ _ _ _ h => by cases h)⟩
  refine ⟨_, e, fr, layV vs off us, putObj_same g1, by rw [layArr_size, g2], by rw [layArr_size]; exact g3, Rs_over g4 hx hl, layV_one us vs off g5 h1, fun j u hj => ?_⟩
  rw [layV_get _ _ _ _ (by omega)] at hj
  rw [layV_arr (by omega), layV_get _ _ _ _ (by simp; omega)]
  split at hj
  · rename_i hc; rw [if_pos hc]; exact hj
  · rename_i hc; rw [if_neg hc]; have := g6 j u hj; simpa using this
def Out.wu (P : Program) (W : World) (ρ : Rho) (H : CH) (w : World) (s : Sem Unit) : Out → Prop
  | .no _ => True
  | .old v c => ∃ w' ρ', s.run P w = .ok () w' ∧ Rho.le ρ ρ' ∧ SR W ρ' (c.app H) w' ∧ v.R ρ' undef
  | _ => False
theorem storeC_ok (hS : SR W ρ H w) (t : Nat) (a x : CV) {u v : Value} (ha : a.R ρ u) (hx : x.R ρ v) : (storeC (mkTD P) H t a x).wu P W ρ H w (Instr.storeAt t u v) := by
  unfold storeC
  split
  · rename_i d xs h off hd hxs
    simp only [CV.R] at ha
    obtain ⟨b, m, g1, rfl⟩ := ha
    split
    · rename_i cs hg
      cases hb : (Nat.beq (len xs) d.size && allC xs && Nat.ble (off + len xs) (len cs)) with
      | false => exact trivial
      | true =>
        simp only [Bool.and_eq_true] at hb
        obtain ⟨⟨b1, b2⟩, b3⟩ := hb
        have h1 := Nat.eq_of_beq_eq_true b1
        have h3 := Nat.le_of_ble_eq_true b3
        rw [len_eq] at h1 h3
        rw [len_eq] at h3
        obtain ⟨us, he, hr⟩ := cellsC_spec hx hxs
        obtain ⟨w', k1, k2⟩ := hS.over (P := P) hg g1 hr (allC_ok b2 hr) h3
        have hsz := r_size hd w
        have l2 := Rs_len _ _ hr
        refine ⟨w', ρ, ?_, Rho.le.refl _, k2, by simp only [CV.R]⟩
        have hl : ¬ (v.cells.size ≠ d.size) := by rw [he]; simp; omega
        have hl' : v.cells.size = d.size := by rw [he]; simp; omega
        have hl2 : us.length = d.size := by omega
        simp [Instr.storeAt, Instr.sureAddr, storeVar, hsz, he, k1, hl2]
    · exact trivial
  · exact trivial
theorem optN_spec {g : Operand → CV} {ev : Operand → Value} (hg : ∀ x, (g x).R ρ (ev x)) {d a : Nat} {o : Option Operand} (h : optN g d o = some a) : (o = none ∧ a = d) ∨ ∃ x k, o = some x ∧ ev x = .int k (a : Int) := by
  cases o with
  | none => simp only [optN, Option.some.injEq] at h; exact .inl ⟨rfl, h.symm⟩
  | some x =>
    simp only [optN] at h
    split at h
    · rename_i k n hx
      injection h with h
      subst h
      have := hg x
      rw [hx] at this
      simp only [CV.R] at this
      exact .inr ⟨x, k, rfl, this⟩
    · cases h
theorem run_boundsC {g : Operand → CV} {ev : Operand → Value} (hg : ∀ x, (g x).R ρ (ev x)) (isS : Bool) (len cap : Nat) {lo hi mx : Option Operand} {a b c : Nat} (ha : optN g 0 lo = some a) (hb : optN g len hi = some b) (hc : optN g cap mx = some c)
    (h1 : a ≤ b) (h2 : b ≤ c) (h3 : c ≤ cap) (hm : mx.isSome = true → hi.isSome = true) :
    (Instr.sliceBounds isS len cap (lo.map ev) (hi.map ev) (mx.map ev)).run P w = .ok (a, b, c) w := by
  have bound : ∀ (k : IntKind) (n y : Nat) (code : BoundsCode), n ≤ y → (Instr.sliceBound (.int k (n : Int)) y code).run P w = .ok n w := fun k n y code h => by
    have := run_bound (P := P) (w := w) k (n : Int) y code (by omega) (by omega)
    simpa using this
  rcases optN_spec hg ha with ⟨rfl, ea⟩ | ⟨xa, ka, rfl, ea⟩ <;> rcases optN_spec hg hb with ⟨rfl, eb⟩ | ⟨xb, kb, rfl, eb⟩ <;> rcases optN_spec hg hc with ⟨rfl, ec⟩ | ⟨xc, kc, rfl, ec⟩
  · subst ea eb ec; simp [Instr.sliceBounds]
  · exact absurd (hm rfl) (by simp)
  · subst ea ec
    have e1 := fun code => bound kb b c code (by omega)
    simp [Instr.sliceBounds, eb, e1]
  · subst ea
    have e1 := fun code => bound kb b c code (by omega)
    have e2 := fun code => bound kc c cap code (by omega)
    simp [Instr.sliceBounds, eb, ec, e1, e2]
  · subst eb ec
    have e3 := fun code => bound ka a b code (by omega)
    simp [Instr.sliceBounds, ea, e3]
  · exact absurd (hm rfl) (by simp)
  · subst ec
    have e1 := fun code => bound kb b c code (by omega)
    have e3 := fun code => bound ka a b code (by omega)
    simp [Instr.sliceBounds, ea, eb, e1, e3]
  · have e1 := fun code => bound kb b c code (by omega)
    have e2 := fun code => bound kc c cap code (by omega)
    have e3 := fun code => bound ka a b code (by omega)
    simp [Instr.sliceBounds, ea, eb, ec, e1, e2, e3]
theorem u8s_take_drop (l : List Nat) (a n : Nat) : u8s (takeL (dropL l a) n) = ((u8s l).drop a).take n := by
  rw [takeL_eq, dropL_eq]; simp [u8s]
/-- A part of a slice. -/
theorem R_part {h sz off n a b : Nat} {cap : Option Nat} {A : Option Addr} {m0 : Nat} {c : Nat} {bk m o : Nat} (hp : ρ h = some (bk, m)) (hA : A = some ⟨bk, o, none⟩) (_ : n ≤ c) (g3 : c ≤ maxLen) (g4 : c ≠ 0 → o = off) (g5 : off + c * sz ≤ m) (h1 : a ≤ b) (h2 : b ≤ m0) (h3 : m0 ≤ c) (hcap : ∀ x, cap = some x → m0 - a = x) :
    (CV.row h sz (off + a * sz) (b - a) cap).R ρ (.slice (if m0 = a then A else A.map (·.add (a * sz))) (b - a) (m0 - a)) := by
  simp only [CV.R]
  subst hA
  have hle : off + a * sz + (m0 - a) * sz ≤ m := by
    have : a * sz + (m0 - a) * sz = m0 * sz := by rw [← Nat.add_mul]; congr 1; omega
    have h4 : m0 * sz ≤ c * sz := Nat.mul_le_mul_right _ h3
    omega
  by_cases he : m0 = a
  · exact ⟨bk, m, o, m0 - a, hp, by rw [if_pos he], by omega, by omega, fun hne => absurd (by omega) hne, hle, hcap⟩
  · refine ⟨bk, m, off + a * sz, m0 - a, hp, ?_, by omega, by omega, fun _ => rfl, hle, hcap⟩
    rw [if_neg he, g4 (by omega)]
    simp [add_none]
theorem sliceC_ok (hS : SR W ρ H w) {g : Operand → CV} {ev : Operand → Value} (hg : ∀ x, (g x).R ρ (ev x)) (t : Nat) (x : CV) (lo hi mx : Option Operand) {v : Value} (hx : x.R ρ v) (hm : mx.isSome = true → hi.isSome = true) :
    (sliceC (mkTD P) H g t x lo hi mx).rd P ρ w (Instr.sliceAt t v (lo.map ev) (hi.map ev) (mx.map ev)) := by
  unfold sliceC
  split
  · exact trivial
  · rename_i d hd
    split
    · rename_i l hk
      obtain ⟨hl, rfl⟩ := R_str' hx
      split
      · rename_i a b ha hb
        cases hbb : (Nat.ble a b && Nat.ble b (len l)) with
        | false => exact trivial
        | true =>
          rw [Bool.and_eq_true] at hbb
          have c1 := Nat.le_of_ble_eq_true hbb.1
          have c2 := Nat.le_of_ble_eq_true hbb.2
          rw [len_eq] at c2 hb
          have hsz : (⟨(u8s l).toArray⟩ : ByteArray).size = l.length := by simp [ByteArray.size, u8s]
          have hr := run_boundsC (P := P) (w := w) hg false l.length l.length ha hb (mx := none) (c := l.length) rfl c1 c2 (Nat.le_refl _) (fun h => by cases h)
          simp only [Option.map_none] at hr
          refine ⟨.string ⟨(u8s (takeL (dropL l a) (b - a))).toArray⟩, ?_, R_str fun c hc => ?_⟩
          · have e : (⟨(u8s l).toArray⟩ : ByteArray).extract a b = ⟨(((u8s l).drop a).take (b - a)).toArray⟩ := by
              apply ByteArray.ext
              apply Array.ext'
              rw [ByteArray.data_extract]
              simp [List.extract_eq_take_drop]
            rw [u8s_take_drop]
            simp [Instr.sliceAt, run_underlying (u_str hd hk), Instr.slice, hsz, hr, e]
          · rw [takeL_eq, dropL_eq] at hc
            exact hl c (List.mem_of_mem_drop (List.mem_of_mem_take hc))
      · exact trivial
    · rename_i e hk
      simp only [CV.R] at hx
      subst hx
      split
      · rename_i a b c ha hb hc
        cases hbb : (Nat.beq a 0 && Nat.beq b 0 && Nat.beq c 0 && (mkTD P e).isSome) with
        | false => exact trivial
        | true =>
          simp only [Bool.and_eq_true] at hbb
          obtain ⟨⟨⟨b1, b2⟩, b3⟩, b4⟩ := hbb
          have e1 := Nat.eq_of_beq_eq_true b1
          have e2 := Nat.eq_of_beq_eq_true b2
          have e3 := Nat.eq_of_beq_eq_true b3
          subst e1 e2 e3
          have hr := run_boundsC (P := P) (w := w) hg true 0 0 ha hb hc (Nat.le_refl _) (Nat.le_refl _) (Nat.le_refl _) hm
          refine ⟨.slice none 0 0, ?_, by simp only [CV.R]⟩
          have hu := u_sl hd hk
          obtain ⟨de, hde⟩ := Option.isSome_iff_exists.1 b4
          obtain ⟨i, hi0, _⟩ := u_info hde
          simp [Instr.sliceAt, run_underlying hu, Instr.slice, hr, sizeOf, typeInfo, hi0]
      · exact trivial
    · rename_i e h sz off n cap hk
      simp only [CV.R] at hx
      obtain ⟨bk, m, o, c, q1, rfl, q2, q3, q4, q5, q6⟩ := hx
      have hcap : ∀ b, b ≤ cap.getD n → b ≤ c := fun b hb => by
        cases cap with
        | none => exact Nat.le_trans hb q2
        | some x => rw [q6 x rfl]; exact hb
      split
      · rename_i de hde
        cases hsz : Nat.beq sz de.size with
        | false => exact trivial
        | true =>
          have hsz := Nat.eq_of_beq_eq_true hsz
          simp only [cond_true]
          have hu := u_sl hd hk
          have hs := r_size hde w
          have run : ∀ (l h m : Nat), (Instr.sliceBounds true n c (lo.map ev) (hi.map ev) (mx.map ev)).run P w = .ok (l, h, m) w →
              (Instr.sliceAt t (.slice (some ⟨bk, o, none⟩) n c) (lo.map ev) (hi.map ev) (mx.map ev)).run P w = .ok (.slice (if m = l then some ⟨bk, o, none⟩ else (some ⟨bk, o, none⟩ : Option Addr).map (·.add (l * sz))) (h - l) (m - l)) w := fun l h m hb => by
            rw [hsz]
            simp [Instr.sliceAt, run_underlying hu, Instr.slice, hb, hs]
          split
          · split
            · rename_i a b ha hb
              cases hbb : (Nat.ble a b && Nat.ble b (cap.getD n)) with
              | false => exact trivial
              | true =>
                rw [Bool.and_eq_true] at hbb
                have c1 := Nat.le_of_ble_eq_true hbb.1
                have c2 := hcap _ (Nat.le_of_ble_eq_true hbb.2)
                have hr := run_boundsC (P := P) (w := w) hg true n c ha hb (mx := none) (c := c) rfl c1 c2 (Nat.le_refl _) (fun h => by cases h)
                refine ⟨_, run _ _ _ hr, R_part q1 rfl q2 q3 q4 q5 c1 c2 (Nat.le_refl _) fun x hx => ?_⟩
                obtain ⟨y, hy, rfl⟩ := Option.map_eq_some_iff.1 hx
                rw [q6 y hy]
            · exact trivial
          · rename_i mx
            split
            · rename_i a b c' ha hb hc
              cases hbb : (Nat.ble a b && Nat.ble b c' && Nat.ble c' (cap.getD n)) with
              | false => exact trivial
              | true =>
                simp only [Bool.and_eq_true] at hbb
                have c1 := Nat.le_of_ble_eq_true hbb.1.1
                have c2 := Nat.le_of_ble_eq_true hbb.1.2
                have c3 := hcap _ (Nat.le_of_ble_eq_true hbb.2)
                have hr := run_boundsC (P := P) (w := w) hg true n c ha hb (mx := some mx) (c := c') (by simpa [optN] using hc) c1 c2 c3 hm
                exact ⟨_, run _ _ _ hr, R_part q1 rfl q2 q3 q4 q5 c1 c2 c3 fun x hx => by cases hx; rfl⟩
            · exact trivial
      · exact trivial
    · rename_i k e h off hk
      simp only [CV.R] at hx
      obtain ⟨bk, m, q1, rfl⟩ := hx
      split
      · rename_i de a b c hde ha hb hc
        cases hbb : (Nat.ble a b && Nat.ble b c && Nat.ble c k && Nat.ble k 140737488355328 && !(mx.isSome && !hi.isSome)) with
        | false => exact trivial
        | true =>
          simp only [Bool.and_eq_true] at hbb
          have c1 := Nat.le_of_ble_eq_true hbb.1.1.1.1
          have c2 := Nat.le_of_ble_eq_true hbb.1.1.1.2
          have c3 := Nat.le_of_ble_eq_true hbb.1.1.2
          simp only [cond_true]
          split
          · rename_i cs hg'
            cases hl : Nat.ble (off + k * de.size) (len cs) with
            | false => exact trivial
            | true =>
              have hl := Nat.le_of_ble_eq_true hl
              rw [len_eq] at hl
              have hu := u_arr hd hk
              have hs := r_size hde w
              have hr := run_boundsC (P := P) (w := w) hg false k k ha hb hc c1 c2 c3 hm
              have hroom : off + k * de.size ≤ m := by
                obtain ⟨arr, e', fr, vs, g1, g2, g3, g4, g5, g6⟩ := hS.p hg' q1
                have l1 := Rs_len _ _ g4
                have hvs : vs.length ≤ arr.size := by
                  rcases Nat.lt_or_ge arr.size vs.length with h | h
                  · have := g6 arr.size _ (List.getElem?_eq_getElem h)
                    simp at this
                  · exact h
                simp only at g2
                omega
              have hk0 : k ≤ maxLen := by have := Nat.le_of_ble_eq_true hbb.1.2; unfold maxLen; omega
              · refine ⟨.slice (if c = a then some ⟨bk, off, none⟩ else (some ⟨bk, off, none⟩ : Option Addr).map (·.add (a * de.size))) (b - a) (c - a), ?_, R_part (n := k) q1 rfl (Nat.le_refl _) hk0 (fun _ => rfl) hroom c1 c2 c3 fun x hx => by cases hx; rfl⟩
                simp [Instr.sliceAt, run_underlying hu, Instr.sureAddr, hr, hs]
                split <;> rfl
          · exact trivial
      · exact trivial
    · exact trivial
end
end Go.Proofs.YtjhaikcokbmdbaaGreatDoor.Cx
