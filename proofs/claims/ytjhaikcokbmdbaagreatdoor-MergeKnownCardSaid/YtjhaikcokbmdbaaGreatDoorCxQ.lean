/-
  Closed runs: what an operation comes to.
-/
import Derived.Test.YtjhaikcokbmdbaaGreatDoorCxP
namespace Go.Proofs.YtjhaikcokbmdbaaGreatDoor.Cx
open Go.RowKit Go.Proofs.YtjhaikcokbmdbaaGreatDoor.Ax

section
variable {P : Program} {ρ : Rho} {W w : World} {H : CH}
def Did (P : Program) (s : Sem Next) (w : World) (u : Value) (w' : World) : Prop := s.run P w = .ok (.value u) w' ∨ s.run P w = .ok .skip w' ∧ u = undef
/-- What an operation comes to, in the model's words. -/
def Out.ok (P : Program) (W : World) (ρ : Rho) (H : CH) (w : World) (s : Sem Next) : Out → Prop
  | .no _ => True
  | .old v c => ∃ u w' ρ', Did P s w u w' ∧ Rho.le ρ ρ' ∧ SR W ρ' (c.app H) w' ∧ v.R ρ' u
  | .new v c => ∃ u w' ρ', Did P s w u w' ∧ Rho.le ρ ρ' ∧ SR W ρ' (c.app H) w' ∧ v.R ρ' u
  | .many l => ∃ v c, (v, c) ∈ l ∧ ∃ u w' ρ', Did P s w u w' ∧ Rho.le ρ ρ' ∧ SR W ρ' (c.app H) w' ∧ v.R ρ' u
  | .call f args => ∃ as : List Value, s.run P w = (callFunc f as.toArray).run P w ∧ CV.Rs ρ args as
  | .rnd h args => ∃ (b m : Nat) (as : List Value), ρ h = some (b, m) ∧ s.run P w = (Instr.yield b as.toArray).run P w ∧ CV.Rs ρ args as
  | .pan v => ∃ u, s.run P w = .halt (.panic u) w ∧ v.R ρ u
theorem Did.val {s : Sem Value} {u : Value} {w' : World} (h : s.run P w = .ok u w') : Did P (do pure (.value (← s))) w u w' := .inl (by simp [h])
theorem Did.unit {s : Sem Unit} {w' : World} (h : s.run P w = .ok () w') : Did P (do s; pure .skip) w undef w' := .inr ⟨by simp [h], rfl⟩
theorem Out.wr_ok {s : Sem Value} {o : Out} (h : o.wr P W ρ H w s) : o.ok P W ρ H w (do pure (.value (← s))) := by
  unfold Out.wr at h
  split at h
  · exact trivial
  · obtain ⟨u, w', ρ', h1, h2⟩ := h; exact ⟨u, w', ρ', .val h1, h2⟩
  · obtain ⟨u, w', ρ', h1, h2⟩ := h; exact ⟨u, w', ρ', .val h1, h2⟩
  · obtain ⟨v, c, h0, u, w', ρ', h1, h2⟩ := h; exact ⟨v, c, h0, u, w', ρ', .val h1, h2⟩
  · exact h.elim
theorem Out.rd_ok (hS : SR W ρ H w) {s : Sem Value} {o : Out} (h : o.rd P ρ w s) : o.ok P W ρ H w (do pure (.value (← s))) := Out.wr_ok (Out.rd_wr hS h)
theorem Out.wu_ok {s : Sem Unit} {o : Out} (h : o.wu P W ρ H w s) : o.ok P W ρ H w (do s; pure .skip) := by
  unfold Out.wu at h
  split at h
  · exact trivial
  · obtain ⟨w', ρ', h1, h2⟩ := h; exact ⟨_, w', ρ', .unit h1, h2⟩
  · exact h.elim
theorem Out.ok_eq {s s' : Sem Next} {o : Out} (h : o.ok P W ρ H w s) (e : s'.run P w = s.run P w) : o.ok P W ρ H w s' := by
  have hd : ∀ u w', Did P s w u w' → Did P s' w u w' := fun u w' h => by unfold Did at h ⊢; rw [e]; exact h
  unfold Out.ok at h ⊢
  split at h
  · exact trivial
  · obtain ⟨u, w', ρ', h1, h2⟩ := h; exact ⟨u, w', ρ', hd _ _ h1, h2⟩
  · obtain ⟨u, w', ρ', h1, h2⟩ := h; exact ⟨u, w', ρ', hd _ _ h1, h2⟩
  · obtain ⟨v, c, h0, u, w', ρ', h1, h2⟩ := h; exact ⟨v, c, h0, u, w', ρ', hd _ _ h1, h2⟩
  · rw [e]; exact h
  · rw [e]; exact h
  · rw [e]; exact h
theorem here (hS : SR W ρ H w) {s : Sem Next} {u : Value} {v : CV} (h : s.run P w = .ok (.value u) w) (hv : v.R ρ u) : (Out.old v .nop).ok P W ρ H w s := ⟨u, w, ρ, .inl h, Rho.le.refl _, hS, hv⟩
theorem capC_ok (t : Nat) (x : CV) {v : Value} (hx : x.R ρ v) (ts : List TypeId) (ty : TypeId) : (capC (mkTD P) t x).rd P ρ w (Builtin.cap_ (t :: ts).toArray ty #[v]) := by
  unfold capC
  split
  · rename_i e h sz off n c he
    obtain ⟨hu, _⟩ := elemC_spec (e := e.1) (de := e.2) he
    simp only [CV.R] at hx
    obtain ⟨b, q, o, c', q1, rfl, q2, q3, q4, q5, q6⟩ := hx
    have := q6 c rfl
    subst this
    exact rd_int (n := (c' : Int)) (by simp [Builtin.cap_, run_underlying hu, goInt]) rfl
  · rename_i e he
    obtain ⟨hu, _⟩ := elemC_spec (e := e.1) (de := e.2) he
    simp only [CV.R] at hx
    subst hx
    exact rd_int (n := 0) (by simp [Builtin.cap_, run_underlying hu, goInt]) rfl
  · exact trivial
theorem xorN_u (k : IntKind) (m : Nat) (hs : k.signed = false) (h : m < pw k) : (Int.ofNat (pw k - 1 - m) : Int) = bitK .xor k k.max (.ofNat m) := by
  have key : ∀ (n : Nat), pw k = 2 ^ n → n = k.bits → BitVec.ofInt k.bits k.max = BitVec.allOnes k.bits → lim k = pw k → (Int.ofNat (pw k - 1 - m) : Int) = bitK .xor k k.max (.ofNat m) := by
    intro n hp hn ha hl
    subst hn
    have e : (BitVec.ofInt k.bits k.max ^^^ BitVec.ofInt k.bits (Int.ofNat m)).toNat = pw k - 1 - m := by
      rw [ha, BitVec.allOnes_xor, BitVec.toNat_not]
      have : (BitVec.ofInt k.bits (Int.ofNat m)).toNat = m := ofInt_nat (by rw [← hp]; exact h)
      rw [this, hp]
    simp only [bitK, e]
    rw [wrap_lim k (by rw [hl]; omega)]
    rfl
  cases k <;> first | (cases hs; done) | skip
  · exact key 8 rfl rfl (by decide) rfl
  · exact key 16 rfl rfl (by decide) rfl
  · exact key 32 rfl rfl (by decide) rfl
  · exact key 64 rfl rfl (by decide) rfl
theorem xorN_eq (k : IntKind) (n : Int) : xorN k n = bitK .xor k (if k.signed then -1 else k.max) n := by
  unfold xorN
  split
  · rename_i m
    cases hb : (!k.signed && Nat.blt m (pw k)) with
    | false => rfl
    | true =>
      simp only [Bool.and_eq_true, Bool.not_eq_true', Nat.blt_eq] at hb
      simp only [cond_true, hb.1, Bool.false_eq_true, if_false]
      exact xorN_u k m hb.1 hb.2
  · rfl
theorem unO_ok (op : UnOp) (x : CV) {v : Value} (hx : x.R ρ v) : (unO op x).rd P ρ w (Op.unary op v) := by
  cases op
  · show (negO x).rd P ρ w _
    unfold negO
    split
    · rename_i k n
      simp only [CV.R] at hx
      subst hx
      exact rd_int (n := k.wrap (0 - n)) (by simp [Op.unary, Op.intArith]) (wrapN_eq ..)
    · exact trivial
  all_goals first | exact trivial | skip
  · show (xorO x).rd P ρ w _
    unfold xorO
    split
    · rename_i k n
      simp only [CV.R] at hx
      subst hx
      exact rd_int (n := bitK .xor k (if k.signed then -1 else k.max) n) (by simp [Op.unary, Op.intBits, bitK]) (xorN_eq ..)
    · exact trivial
  · show (notO x).rd P ρ w _
    unfold notO
    split
    · rename_i b
      simp only [CV.R] at hx
      subst hx
      exact rd_bool (b := !b) (by simp [Op.unary]) rfl
    · exact trivial
theorem methC_ok {t : Nat} {name : String} {f : Nat} (h : methC P t name = some f) (v : Value) (args : Array Value) : (callMethod (.iface t v) name args).run P w = (callFunc f (#[v] ++ args)).run P w := by
  unfold methC at h
  split at h
  · rename_i i hi
    split at h
    · rename_i m hm
      have fu : ∃ n, P.types.size + Made.depth = n + 1 := ⟨P.types.size + (Made.depth - 1), rfl⟩
      obtain ⟨n, hn⟩ := fu
      have hti : (typeInfo t).run P w = .ok i w := by simp [typeInfo, hi]
      have fin : ∀ (pr : Bool), m.path.toList = [] → m.func = some (f, pr) → (∀ wr, (receiverAt t (.val v) pr wr).run P w = .ok v w) → (callMethod (.iface t v) name args).run P w = (callFunc f (#[v] ++ args)).run P w := by
        intro pr h1 h2 h3
        simp only [callMethod, Sem.run_bind, run_program, Result.andThen_ok, hn, method, hti, hm, h1, follow, Sem.run_pure, h2, h3]
      split at h
      · rename_i f' u h1 h2 h3
        injection h with h
        subst h
        exact fin true h1 h2 fun wr => by simp [receiverAt, run_underlying h3, Place.get]
      · cases h
      · cases h
      · rename_i f' u hn1 hn2 h1 h2 h3
        injection h with h
        subst h
        exact fin false h1 h2 fun wr => by
          cases u <;> first | exact (hn1 _ rfl).elim | exact (hn2 _ rfl).elim | simp [receiverAt, run_underlying h3, Place.get]
      · cases h
    · cases h
  · cases h
/-- Behind a method that is found lies no nil pointer. -/
theorem methC_nil {t : Nat} {name : String} {f : Nat} (h : methC P t name = some f) (v : Value) : (nilAhead (P.types.size + Made.depth) t v name).run P w = .ok (some false) w := by
  unfold methC at h
  split at h
  · rename_i i hi
    split at h
    · rename_i m hm
      have fu : ∃ n, P.types.size + Made.depth = n + 1 := ⟨P.types.size + (Made.depth - 1), rfl⟩
      obtain ⟨n, hn⟩ := fu
      have hti : (typeInfo t).run P w = .ok i w := by simp [typeInfo, hi]
      split at h
      · rename_i f' u h1 h2 h3
        simp only [hn, nilAhead, Sem.run_bind, hti, Result.andThen_ok, hm, h1, followBlind, Sem.run_pure, h2]
      · cases h
      · cases h
      · rename_i f' u hn1 hn2 h1 h2 h3
        have hu : (underlying t).run P w = .ok u w := run_underlying h3 w
        simp only [hn, nilAhead, Sem.run_bind, hti, Result.andThen_ok, hm, h1, followBlind, Sem.run_pure, h2, hu]
        cases u <;> first | exact (hn1 _ rfl).elim | rfl
      · cases h
    · cases h
  · cases h
end
end Go.Proofs.YtjhaikcokbmdbaaGreatDoor.Cx
