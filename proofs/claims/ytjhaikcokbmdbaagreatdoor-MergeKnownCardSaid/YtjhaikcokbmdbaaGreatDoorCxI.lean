/-
  Closed runs: operations that make memory, and write it.
-/
import Derived.Test.YtjhaikcokbmdbaaGreatDoorCxH
namespace Go.Proofs.YtjhaikcokbmdbaaGreatDoor.Cx
open Go.RowKit Go.Proofs.YtjhaikcokbmdbaaGreatDoor.Ax

section
variable {P : Program} {ρ : Rho} {W w : World} {H : CH}
/-- What an operation on memory comes to. -/
def Out.wr (P : Program) (W : World) (ρ : Rho) (H : CH) (w : World) (s : Sem Value) : Out → Prop
  | .no _ => True
  | .old v c => ∃ u w' ρ', s.run P w = .ok u w' ∧ Rho.le ρ ρ' ∧ SR W ρ' (c.app H) w' ∧ v.R ρ' u
  | .new v c => ∃ u w' ρ', s.run P w = .ok u w' ∧ Rho.le ρ ρ' ∧ SR W ρ' (c.app H) w' ∧ v.R ρ' u
  | .many l => ∃ v c, (v, c) ∈ l ∧ ∃ u w' ρ', s.run P w = .ok u w' ∧ Rho.le ρ ρ' ∧ SR W ρ' (c.app H) w' ∧ v.R ρ' u
  | _ => False
theorem Out.rd_wr (hS : SR W ρ H w) {s : Sem Value} {o : Out} (h : o.rd P ρ w s) : o.wr P W ρ H w s := by
  unfold Out.rd at h
  split at h
  · exact trivial
  · obtain ⟨u, h1, h2⟩ := h; exact ⟨u, w, ρ, h1, Rho.le.refl _, hS, h2⟩
  · obtain ⟨u, h1, h2⟩ := h; exact ⟨u, w, ρ, h1, Rho.le.refl _, hS, h2⟩
  · exact h.elim
theorem oneC_ok {x : CV} {v : Value} (h : oneC x = true) (hx : x.R ρ v) : v.oneCell' = true := by
  cases x <;> simp only [CV.R] at hx
  case v y => subst hx; exact h
  case int k n => subst hx; rfl
  case bool b => subst hx; rfl
  case str l => obtain ⟨_, rfl⟩ := hx; rfl
  case ptr h o => obtain ⟨_, _, _, rfl⟩ := hx; rfl
  case gp h o => subst hx; rfl
  case row => obtain ⟨_, _, _, _, _, rfl, _⟩ := hx; rfl
  case mp => obtain ⟨_, _, _, rfl⟩ := hx; rfl
  case agg => cases h
  case tup => cases h
  case ifc => obtain ⟨_, rfl, _⟩ := hx; rfl
  case fnc => obtain ⟨_, _, rfl, _⟩ := hx; rfl
  case yld => obtain ⟨_, _, _, rfl⟩ := hx; rfl
  case junk => cases h
theorem allC_ok : ∀ {cs : List CV} {vs : List Value}, allC cs = true → CV.Rs ρ cs vs → ∀ v ∈ vs, v.oneCell' = true
  | [], vs, _, hr => by simp only [CV.Rs] at hr; subst hr; simp
  | c :: cs, vs, h, hr => by
    simp only [CV.Rs] at hr
    obtain ⟨u, us, rfl, r, rs⟩ := hr
    have h : (bif oneC c then allC cs else false) = true := h
    cases hc : oneC c with
    | false => rw [hc] at h; cases h
    | true =>
      rw [hc] at h
      intro v hv
      rcases List.mem_cons.1 hv with rfl | hv
      · exact oneC_ok hc r
      · exact allC_ok h rs v hv
theorem SR.push (hS : SR W ρ H w) (o : Obj) : SR W ρ H (w.alloc o) :=
  hS.other rfl rfl rfl (by simp) fun k hk _ => heap_alloc_old w o hk
theorem alloc_new (w : World) (o : Obj) : (w.alloc o).heap[w.heap.size]? = some o := heap_alloc_new w o
/-- A new block, and its handle. -/
theorem SR.fresh1 (hS : SR W ρ H w) {w' : World} (hS' : SR W ρ H w') (_ : w.heap.size < w'.heap.size) {c : Chunk} {m : Nat} (hn : ∀ a b d e, c ≠ .miter a b d e) (hc : c.R (ρ.ext H.next (w.heap.size, m)) (w.heap.size, m) w') : SR W (ρ.ext H.next (w.heap.size, m)) ((Cmd.add c).app H) w' :=
  hS'.bind hc hS.base.size (fun _ _ _ hd hq => Nat.ne_of_lt (Chunk.R_lt (hS.p hd hq))) (fun a b d e hh => absurd hh (hn a b d e))
theorem cells_new {arr : List Value} {e : TypeId} {cs : List CV} {ρ' : Rho} (hr : CV.Rs ρ' cs arr) (h1 : ∀ v ∈ arr, v.oneCell' = true) : (Chunk.cells cs).R ρ' (w.heap.size, arr.length) (w.alloc (.cells arr.toArray e)) :=
  ⟨arr.toArray, e, (0, 0), arr, alloc_new _ _, by simp, FrOk.zero _, hr, h1, fun j u hj => by simpa using hj⟩
theorem SR.newCells (hS : SR W ρ H w) {arr : List Value} (e : TypeId) {cs : List CV} (hr : CV.Rs ρ cs arr) (h1 : ∀ v ∈ arr, v.oneCell' = true) :
    Rho.le ρ (ρ.ext H.next (w.heap.size, arr.length)) ∧ SR W (ρ.ext H.next (w.heap.size, arr.length)) ((Cmd.add (.cells cs)).app H) (w.alloc (.cells arr.toArray e)) := by
  have hle := Rho.le_ext (p := (w.heap.size, arr.length)) (hS.fresh H.next (Nat.le_refl _))
  exact ⟨hle, hS.fresh1 (hS.push _) (by simp) (fun _ _ _ _ h => by cases h) (cells_new (CV.Rs_mono hle _ _ hr) h1)⟩
theorem R_newPtr {m : Nat} : (CV.ptr H.next 0).R (ρ.ext H.next (w.heap.size, m)) (.pointer (some ⟨w.heap.size, 0, none⟩)) := by
  simp only [CV.R]
  exact ⟨_, _, Rho.ext_same .., rfl⟩
theorem allocO_ok (hS : SR W ρ H w) (e : Nat) : (allocO (mkTD P) H e).wr P W ρ H w (Instr.alloc e true (.tuple #[])) := by
  unfold allocO
  split
  · rename_i d hd
    split
    · rename_i cs hz
      cases hb : allC cs with
      | false => exact trivial
      | true =>
        obtain ⟨z, hz1, hzr⟩ := zeroC_spec hz
        obtain ⟨h1, h2⟩ := hS.newCells e (hzr ρ) (allC_ok hb (hzr ρ))
        have hzr' := r_zero hd hz1 w
        refine ⟨_, _, _, ?_, h1, h2, R_newPtr⟩
        simp [Instr.alloc, hzr', newVar, newRow]
    · exact trivial
  · exact trivial
theorem boxO_ok (hS : SR W ρ H w) (e : Nat) (x : CV) {v : Value} (hx : x.R ρ v) : (boxO H x).wr P W ρ H w (Instr.box e v) := by
  unfold boxO
  split
  · rename_i cs hz
    cases hb : allC cs with
    | false => exact trivial
    | true =>
      obtain ⟨vs, he, hr⟩ := cellsC_spec hx hz
      obtain ⟨h1, h2⟩ := hS.newCells e hr (allC_ok hb hr)
      refine ⟨_, _, _, ?_, h1, h2, R_newPtr⟩
      simp [Instr.box, newVar, newRow, he]
  · exact trivial
theorem elemC_spec {t e : Nat} {de : TD} (h : elemC (mkTD P) t = some (e, de)) : P.underlying t = some (.slice e) ∧ mkTD P e = some de := by
  unfold elemC at h
  split at h
  · rename_i d hd
    split at h
    · rename_i e' hk
      split at h
      · rename_i de' hde
        simp only [Option.some.injEq, Prod.mk.injEq] at h
        obtain ⟨rfl, rfl⟩ := h
        exact ⟨u_sl hd hk, hde⟩
      · cases h
    · cases h
  · cases h
theorem repL_ok {z : List CV} {zs : List Value} (h : CV.Rs ρ z zs) : ∀ n, CV.Rs ρ (repL z n) (repV zs n)
  | 0 => by show CV.Rs ρ [] []; simp [CV.Rs]
  | n + 1 => by
    show CV.Rs ρ (catL z (repL z n)) (zs ++ repV zs n)
    rw [catL_eq]
    exact Rs_append h (repL_ok h n)
theorem repV_mem {z : List Value} : ∀ (n : Nat) (v : Value), v ∈ repV z n → v ∈ z
  | 0, v, h => by simp [repV] at h
  | n + 1, v, h => by
    simp only [repV, List.mem_append] at h
    exact h.elim id (repV_mem n v)
theorem R_newRow {sz n c : Nat} {m : Nat} {cap : Option Nat} (h1 : n ≤ c) (h2 : c ≤ maxLen) (h3 : c * sz ≤ m) (h4 : ∀ x, cap = some x → c = x) : (CV.row H.next sz 0 n cap).R (ρ.ext H.next (w.heap.size, m)) (.slice (some ⟨w.heap.size, 0, none⟩) n c) := by
  simp only [CV.R]
  exact ⟨_, _, 0, c, Rho.ext_same .., rfl, h1, h2, fun _ => rfl, by omega, h4⟩
theorem bsliceC_ok (hS : SR W ρ H w) (t n : Nat) {ps : List (Nat × CV)} {qs : Array (Nat × Value)} (hp : PRs ρ ps qs.toList) : (bsliceC (mkTD P) H t n ps).wr P W ρ H w (Instr.buildSlice t n qs) := by
  unfold bsliceC
  split
  · rename_i e de he
    split
    · rename_i z hz
      cases hb : (Nat.beq (len z) de.size && Nat.ble (n * de.size) 16777216 && !(Nat.beq de.size 0)) with
      | false => exact trivial
      | true =>
        simp only [Bool.and_eq_true, Bool.not_eq_true'] at hb
        obtain ⟨⟨b1, b3⟩, b2⟩ := hb
        have hzl := Nat.eq_of_beq_eq_true b1
        rw [len_eq] at hzl
        have hz0 : de.size ≠ 0 := fun e => by rw [e] at b2; simp at b2
        have hsm := Nat.le_of_ble_eq_true b3
        simp only [cond_true]
        split
        · rename_i cs hcs
          cases hone : allC cs with
          | false => exact trivial
          | true =>
            simp only [cond_true]
            obtain ⟨hu, hde⟩ := elemC_spec he
            obtain ⟨zv, hz1, hzr⟩ := zeroC_spec hz
            have hzr' := r_zero hde hz1 w
            have hsz := r_size hde w
            have hzc : zv.cells.size = de.size := by have := Rs_len _ _ (hzr ρ); simp at this; omega
            obtain ⟨vs, g1, g2, g3⟩ := fillC_ok _ hp _ _ _ (repL_ok (hzr ρ) n) hcs
            have hvl : vs.length = n * de.size := by
              rw [Rs_len _ _ g2, g3, ← Rs_len _ _ (repL_ok (hzr ρ) n), repV_len]
              simp [hzc]
            obtain ⟨h1, h2⟩ := hS.newCells e g2 (allC_ok hone g2)
            refine ⟨.slice (some ⟨w.heap.size, 0, none⟩) n n, _, _, ?_, h1, h2, R_newRow (Nat.le_refl _) ?_ (by rw [hvl]; exact Nat.le_refl _) (fun x hx => by cases hx; rfl)⟩
            · have hzz : (Array.range (n * de.size)).map (fun x => zv.cells[x % zv.cells.size]!) = (repV zv.cells.toList n).toArray := by
                rw [← hzc]; exact zeros_eq zv.cells n (by omega)
              have hno' : ¬ (n * de.size > 2 ^ 24) := by omega
              by_cases hl0 : n = 0
              · subst hl0
                have g2' : Instr.fill (fun i => some (i * de.size, de.size)) #[] qs.toList = some vs.toArray := g1
                have hr0 : (Array.map (fun _ => (default : Value)) (Array.range 0)) = #[] := by simp [Array.range]
                simp [Instr.buildSlice, run_underlying hu, hsz, newRow, g2', hr0]
              · have hne : ¬ (n * de.size = 0) := by
                  intro h0
                  rcases Nat.mul_eq_zero.1 h0 with h0 | h0
                  · exact hl0 h0
                  · exact hz0 h0
                simp only [Instr.buildSlice, Sem.run_bind, run_underlying hu, Result.andThen_ok, hsz, if_neg hno', if_neg hne, hzr', Sem.run_pure, hzz, g1, run_newRow]
            · unfold maxLen
              have : n ≤ n * de.size := Nat.le_mul_of_pos_right _ (by omega)
              omega
        · exact trivial
    · exact trivial
  · exact trivial
theorem msliceC_ok (hS : SR W ρ H w) (t : Nat) (l c : CV) {vl vc : Value} (hl : l.R ρ vl) (hc : c.R ρ vc) : (msliceC (mkTD P) H t l c).wr P W ρ H w (Instr.makeSlice t vl vc) := by
  unfold msliceC
  split
  · rename_i e de kl n kc m he
    simp only [CV.R] at hl hc
    subst hl hc
    split
    · rename_i z hz
      cases hb : (allC z && Nat.beq (len z) de.size && !(Nat.beq de.size 0) && Nat.ble n m && Nat.ble (m * de.bytes) 140737488355328 && Nat.ble m 140737488355328) with
      | false => exact trivial
      | true =>
        simp only [Bool.and_eq_true, Bool.not_eq_true'] at hb
        obtain ⟨⟨⟨⟨⟨b0, b1⟩, b2⟩, b3⟩, b4⟩, b5⟩ := hb
        have hzl := Nat.eq_of_beq_eq_true b1
        rw [len_eq] at hzl
        have hz0 : de.size ≠ 0 := fun e => by rw [e] at b2; simp at b2
        have c3 := Nat.le_of_ble_eq_true b3
        have c4 := Nat.le_of_ble_eq_true b4
        have c5 := Nat.le_of_ble_eq_true b5
        simp only [cond_true]
        obtain ⟨hu, hde⟩ := elemC_spec he
        obtain ⟨zv, hz1, hzr⟩ := zeroC_spec hz
        have hzr' := r_zero hde hz1 w
        have hsz := r_size hde w
        obtain ⟨i, hi1, hi2, hi3, hi4⟩ := u_info hde
        have hzc : zv.cells.size = de.size := by have := Rs_len _ _ (hzr ρ); simp at this; omega
        have h1z := allC_ok b0 (hzr ρ)
        have hrep := repL_ok (hzr ρ) m
        have hone : ∀ v ∈ repV zv.cells.toList m, v.oneCell' = true := by
          exact fun v hv => h1z v (repV_mem m v hv)
        obtain ⟨h1, h2⟩ := hS.newCells e hrep hone
        have hrl : (repV zv.cells.toList m).length = m * de.size := by rw [repV_len]; simp [hzc]
        refine ⟨.slice (some ⟨w.heap.size, 0, none⟩) n m, _, _, ?_, h1, h2, R_newRow c3 (by unfold maxLen; omega) (by rw [hrl]; exact Nat.le_refl _) (fun x hx => by cases hx; rfl)⟩
        have e1 : IntKind.i64.wrap (n : Int) = n := IntWalk.i64_in n (by omega)
        have e2 : IntKind.i64.wrap (m : Int) = m := IntWalk.i64_in m (by omega)
        have hzz : (Array.range (m * de.size)).map (fun x => zv.cells[x % zv.cells.size]!) = (repV zv.cells.toList m).toArray := by
          rw [← hzc]; exact zeros_eq zv.cells m (by omega)
        have c6 : ¬ ((m : Int) < 0) := by omega
        have c7 : ¬ ((n : Int) < 0) := by omega
        have c8 : ¬ ((n : Int) > m) := by omega
        have c9 : ¬ (281474976710656 < (de.bytes : Int) * (m : Int)) := by
          have : (de.bytes : Int) * (m : Int) = ((m * de.bytes : Nat) : Int) := by simp [Int.mul_comm]
          rw [this]
          omega
        by_cases hm0 : m = 0
        · subst hm0
          have hn0 : n = 0 := by omega
          subst hn0
          have hr0 : (Array.map (fun _ => (default : Value)) (Array.range 0)) = #[] := by simp [Array.range]
          have e0 : IntKind.i64.wrap 0 = 0 := e1
          simp [Instr.makeSlice, run_underlying hu, asInt, asIntOf, typeInfo, hi1, e0, sizeOf, newRow, repV, hr0]
        · have hne : ¬ (m * de.size = 0) := fun h0 => by
            rcases Nat.mul_eq_zero.1 h0 with h0 | h0
            · exact hm0 h0
            · exact hz0 h0
          have hti : (typeInfo e).run P w = .ok i w := by simp [typeInfo, hi1]
          have hal : (askRoom (m * de.bytes)).run P w = .ok () w := run_askRoom ..
          have hcond : (((m : Int) < 0 || decide ((de.bytes : Int) * (m : Int) > 2 ^ 48)) || decide ((n : Int) < 0) || decide ((n : Int) > (m : Int))) = false := by simp [c6, c7, c8, c9]
          simp only [Instr.makeSlice, Sem.run_bind, run_underlying hu, Result.andThen_ok, asInt, asIntOf, Sem.run_pure, hti, hi3, Int.ofNat_eq_natCast, e1, e2, hcond, Bool.false_eq_true, if_false, Int.toNat_natCast, hal, hsz, if_neg hne, hzr', hzz, run_newRow]
    · exact trivial
  · exact trivial
end
end Go.Proofs.YtjhaikcokbmdbaaGreatDoor.Cx
